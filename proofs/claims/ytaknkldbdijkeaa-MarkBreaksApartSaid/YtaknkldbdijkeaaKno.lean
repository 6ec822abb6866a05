/- known and free, of the reference. -/
import Derived.Test.YtaknkldbdijkeaaFol
import Derived.Test.YtaknkldbdijkeaaIdxV
namespace Go.Proofs.Ytaknkldbdijkeaa
open Go.RowKit

/-- The time of the end, as the reference has it. -/
def enV (e : Evn) : Int := if e.op = true then -4611686018427387904 else e.en
abbrev encV (e : Evn) : List Value := [.int .i64 e.id, .int .i64 e.be, .int .i64 (enV e), .bool e.ca]
theorem encV_len (e : Evn) : (encV e).length = 4 := rfl
/-- Times of an event: none is the reference's 'open'. -/
def bndE (e : Evn) : Prop := -4000000000000000 ≤ e.en ∧ e.en ≤ 4000000000000000
theorem infoEvt : (Try.prog.info? 65).map (fun i => (i.zero, i.size, i.bytes)) = some (some (.agg #[.int .i64 0, .int .i64 0, .int .i64 0, .bool false]), 4, 32) := by kernel_rfl
theorem slEvt : SlT Try.prog 61 65 4 32 := by
  obtain ⟨i0, hi, hz0, hz1, hz2⟩ := info_parts infoEvt
  exact ⟨i0, _, Try.underlying61, hi, hz0, hz1, hz2, rfl, by decide, by decide⟩

theorem knownR_any (w : World) (l : List Evn) (v : Value) (ev : Int) (hl : Sl w 4 encV v l) :
    Calls Try.prog 38 #[v, .int .i64 ev] w fun e w' => e = .returned (.int .i64 (fidxV (fun e => e.id == ev) l)) ∧ w = w' := by
  obtain ⟨ao, cap, rfl, hcap, hmax, hnil, hel⟩ := hl
  unfold maxLen at hmax
  go_enter Try.func38, Try.ntmps38
  go_wp2
  go_loopg [5] l.length (fun gg s5 wr => ∃ kk : Nat, kk ≤ l.length ∧ l.length - kk ≤ gg ∧ s5 = .int .i64 kk ∧ Aside (∀ j x, l[j]? = some x → j < kk → (x.id == ev) = false) ∧ w = wr)
  case atStart => exact ⟨0, Nat.zero_le _, by omega, rfl, (fun j x _ hj => absurd hj (Nat.not_lt_zero _)), rfl⟩
  case round =>
    obtain ⟨kk, hkk, hg, rfl, A, rfl⟩ := hrel
    by_cases hlt : kk < l.length
    · have hltz : (kk : Int) < (l.length : Int) := by omega
      obtain ⟨x, hx⟩ : ∃ x, l[kk]? = some x := ⟨l[kk], by simp [hlt]⟩
      obtain ⟨b, off, rfl, hc⟩ := hel kk x hx
      have c0 : w.cell? ⟨b, off + kk * 4, none⟩ = some (.int .i64 x.id) := by have h := hc 0 _ rfl; simpa using h
      have HX : Hid (l[kk]? = some x) := hx
      clear hx hc hel
      by_cases hq : x.id = ev
      · have hv := Lib.hid (fidxV_hit (p := fun e => e.id == ev) HX.out (by simpa using hq) A.out).1
        go_wp2
        go_ret
        exact ⟨ret_int hv.out.symm, rfl⟩
      · have hq2 := Lib.hid hq
        go_wp2
        go_roundg (l.length - (kk + 1))
        case measure => omega
        case rel =>
          refine ⟨kk + 1, by omega, by omega, by go_num, (show Aside _ from fun j y hy hj => ?_), rfl⟩
          by_cases e : j = kk
          · subst e
            have := HX.out.symm.trans hy
            simp at this; subst this; simpa using hq2.out
          · exact A.out j y hy (by omega)
    · have hltz : ¬ (kk : Int) < (l.length : Int) := by omega
      have hv := Lib.hid (fidxV_none (p := fun e => e.id == ev) (l := l) fun j y hy => A.out j y hy (by have := (List.getElem?_eq_some_iff.1 hy).1; omega)).1
      clear hel
      go_wp2
      go_ret
      exact ⟨ret_int hv.out.symm, rfl⟩

def frB (tm : Int) (e : Evn) : Bool := !e.ca && (decide (tm < e.be) || e.op || decide (tm < e.en))
theorem freeR_any (w : World) (l : List Evn) (v : Value) (tm : Int) (hl : Sl w 4 encV v l) (hb : ∀ e, e ∈ l → bndE e) :
    Calls Try.prog 40 #[v, .int .i64 tm] w fun e w' => e = .returned (.bool (freeE l tm)) ∧ w = w' := by
  obtain ⟨ao, cap, rfl, hcap, hmax, hnil, hel⟩ := hl
  unfold maxLen at hmax
  have HB := Lib.hid hb
  clear hb
  go_enter Try.func40, Try.ntmps40
  go_wp2
  go_loopg [5] l.length (fun gg s5 wr => ∃ kk : Nat, kk ≤ l.length ∧ l.length - kk ≤ gg ∧ s5 = .int .i64 kk ∧ Aside (∀ j x, l[j]? = some x → j < kk → frB tm x = false) ∧ w = wr)
  case atStart => exact ⟨0, Nat.zero_le _, by omega, rfl, (fun j x _ hj => absurd hj (Nat.not_lt_zero _)), rfl⟩
  case round =>
    obtain ⟨kk, hkk, hg, rfl, A, rfl⟩ := hrel
    by_cases hlt : kk < l.length
    · have hltz : (kk : Int) < (l.length : Int) := by omega
      obtain ⟨x, hx⟩ : ∃ x, l[kk]? = some x := ⟨l[kk], by simp [hlt]⟩
      obtain ⟨b, off, rfl, hc⟩ := hel kk x hx
      have c1 : w.cell? ⟨b, off + kk * 4 + 1, none⟩ = some (.int .i64 x.be) := hc 1 _ rfl
      have c2 : w.cell? ⟨b, off + kk * 4 + 2, none⟩ = some (.int .i64 (enV x)) := hc 2 _ rfl
      have c3 : w.cell? ⟨b, off + kk * 4 + 3, none⟩ = some (.bool x.ca) := hc 3 _ rfl
      have HX : Hid (l[kk]? = some x) := hx
      have hbx := HB.out x (List.mem_of_getElem? hx)
      clear hx hc hel
      cases hq : frB tm x with
      | true =>
        have hv : Hid (freeE l tm = false) := Lib.hid (by
          unfold freeE
          rw [Bool.not_eq_false', List.any_eq_true]
          exact ⟨x, List.mem_of_getElem? HX.out, hq⟩)
        unfold frB at hq
        rw [Bool.and_eq_true, Bool.not_eq_true'] at hq
        obtain ⟨hca, hq⟩ := hq
        rw [hca] at c3
        by_cases h1 : tm < x.be
        · clear hq
          go_wp2
          go_ret
          exact ⟨ret_bool hv.out.symm, rfl⟩
        · by_cases hop : x.op = true
          · have e2 : enV x = -4611686018427387904 := by unfold enV; rw [if_pos hop]
            rw [e2] at c2
            clear hq e2 hop
            go_wp2
            go_ret
            exact ⟨ret_bool hv.out.symm, rfl⟩
          · have e2 : enV x = x.en := by unfold enV; rw [if_neg hop]
            rw [e2] at c2
            have h3 : tm < x.en := by simpa [h1, hop] using hq
            have h4 : ¬ x.en = -4611686018427387904 := by obtain ⟨h5, h6⟩ := hbx; omega
            clear hq e2 hop hbx
            go_wp2
            go_ret
            exact ⟨ret_bool hv.out.symm, rfl⟩
      | false =>
        have HQ := Lib.hid hq
        have REL : Hid (∀ j y, l[j]? = some y → j < kk + 1 → frB tm y = false) := Lib.hid (fun j y hy hj => by
          by_cases e : j = kk
          · subst e
            have := HX.out.symm.trans hy
            simp at this; subst this; exact HQ.out
          · exact A.out j y hy (by omega))
        unfold frB at hq
        by_cases hca : x.ca = true
        · rw [hca] at c3
          clear hq hca
          go_wp2
          go_roundg (l.length - (kk + 1))
          case measure => omega
          case rel => exact ⟨kk + 1, by omega, by omega, by go_num, REL.out, rfl⟩
        · have hca' : x.ca = false := by simpa using hca
          rw [hca', Bool.not_false, Bool.true_and, Bool.or_eq_false_iff, Bool.or_eq_false_iff] at hq
          obtain ⟨⟨h1, hop⟩, h3⟩ := hq
          have h1' : ¬ tm < x.be := by simpa using h1
          have h3' : ¬ tm < x.en := by simpa using h3
          have e2 : enV x = x.en := by unfold enV; rw [if_neg (by simp [hop])]
          have h4 : ¬ x.en = -4611686018427387904 := by obtain ⟨h5, h6⟩ := hbx; omega
          rw [hca'] at c3
          rw [e2] at c2
          clear h1 hop h3 e2 hca hca' hbx
          go_wp2
          go_roundg (l.length - (kk + 1))
          case measure => omega
          case rel => exact ⟨kk + 1, by omega, by omega, by go_num, REL.out, rfl⟩
    · have hltz : ¬ (kk : Int) < (l.length : Int) := by omega
      have hv : Hid (freeE l tm = true) := Lib.hid (by
        unfold freeE
        rw [Bool.not_eq_true', List.any_eq_false]
        intro x hx
        obtain ⟨j, hj, rfl⟩ := List.mem_iff_getElem.1 hx
        have := A.out j _ (List.getElem?_eq_getElem hj) (by omega)
        unfold frB at this
        simp only [this]; simp)
      clear hel
      go_wp2
      go_ret
      exact ⟨ret_bool hv.out.symm, rfl⟩
end Go.Proofs.Ytaknkldbdijkeaa

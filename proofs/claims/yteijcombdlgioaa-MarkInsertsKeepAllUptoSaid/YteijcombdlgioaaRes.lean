/- What Resume returns; the small functions under it. -/
import Derived.Test.YteijcombdlgioaaStit
import Derived.Test.YteijcombdlgioaaIdxP
namespace Go.Proofs.Yteijcombdlgioaa
open Go.RowKit

def seenB (s : List Int) (k : Int) : Bool := s.any fun x => x == k
def seF1 (l : List Prt) (k : Int) : Int := if outB k 0 ((l.length : Int) - 1) = true then 1 else if noAd (l.getD k.toNat default) = true then 6 else 0
def seenF (l : List Prt) (s : List Int) : Int := FF (fun j => seF1 l (s.getD j 0)) s.length
def resF (l : List Prt) (s : List Int) (t : Int) : Int := if timeF l t ≠ 0 then timeF l t else seenF l s
def reHit (t : Int) (p : Prt) : Bool := noAd p && decide (t < p.fr + p.ln)
def resI (l : List Prt) (t : Int) : Nat := l.findIdx (reHit t)
def fst1 (l : List Prt) : Nat → Nat
  | 0 => 0
  | i + 1 => if noAd (l.getD i default) = true then i + 1 else fst1 l i
def unsee (s : List Int) : Nat → Nat → Option Nat
  | _, 0 => none
  | k, n + 1 => if seenB s k = true then unsee s (k + 1) n else some k
def resV (l : List Prt) (s : List Int) (t : Int) : Int :=
  if resF l s t ≠ 0 then 0 else if resI l t = l.length then sumL l else
    match unsee s (fst1 l (resI l t)) (resI l t - fst1 l (resI l t)) with
    | some k => sumL (l.take k)
    | none => sumL (l.take (resI l t)) + max 0 (t - (l.getD (resI l t) default).fr)

theorem fst1_le (l : List Prt) : ∀ i, fst1 l i ≤ i
  | 0 => Nat.le_refl _
  | i + 1 => by
    unfold fst1
    split
    · exact Nat.le_refl _
    · have := fst1_le l i; omega
theorem unsee_lt (s : List Int) : ∀ n k m, unsee s k n = some m → k ≤ m ∧ m < k + n
  | 0, k, m, h => by simp [unsee] at h
  | n + 1, k, m, h => by
    unfold unsee at h
    split at h
    · have := unsee_lt s n (k + 1) m h; omega
    · simp at h; omega

/-- The two results of Resume. -/
def R2 (w : World) (l : List Prt) (s : List Int) (t : Int) : Ending → World → Prop :=
  fun e w' => e = .returned (.tuple #[.int .i64 (resV l s t), .int .i64 (resF l s t)]) ∧ Below w.heap.size w w'
theorem R2.mk {w w' : World} {l : List Prt} {s : List Int} {t a f : Int} (ha : a = resV l s t) (hf : f = resF l s t) (hw : Below w.heap.size w w') : R2 w l s t (.returned (.tuple #[.int .i64 a, .int .i64 f])) w' := by
  subst ha hf
  exact ⟨rfl, hw⟩

theorem indexI_any (w : World) (s : List Int) (v : Value) (k : Int) (hl : Sl w 1 encI v s) :
    Calls Try.prog 56 #[v, .int .i64 k] w fun e w' => (∃ i : Int, e = .returned (.int .i64 i) ∧ decide (0 ≤ i) = seenB s k) ∧ w = w' := by
  obtain ⟨ao, cap, rfl, hcap, hmax, hnil, hel⟩ := hl
  unfold maxLen at hmax
  go_enter Try.func56, Try.ntmps56
  go_wp2
  go_loop [5, 8] (fun _ s8 => ∃ kk : Nat, kk ≤ s.length ∧ s8 = .int .i64 kk ∧ Aside (∀ (j : Nat) x, s[j]? = some x → j < kk → (x == k) = false)) (fun _ i => s.length - (intOf i).toNat)
  case atStart => exact ⟨0, Nat.zero_le _, rfl, fun j x _ hj => absurd hj (Nat.not_lt_zero _)⟩
  case round =>
    obtain ⟨kk, hkk, rfl, A⟩ := hrel
    by_cases hlt : kk < s.length
    · have hltz : (kk : Int) < (s.length : Int) := by omega
      obtain ⟨x, hx⟩ : ∃ x, s[kk]? = some x := ⟨s[kk], by simp [hlt]⟩
      obtain ⟨b, off, rfl, hc⟩ := hel kk x hx
      have c0 : w.cell? ⟨b, off + kk, none⟩ = some (.int .i64 x) := by simpa using hc 0 _ rfl
      have HX := Lib.hid hx
      clear hx hc hel
      cases e : (k == x)
      case true =>
        have hv : Hid (seenB s k = true) := Lib.hid (List.any_eq_true.2 ⟨x, List.mem_of_getElem? HX.out, by simp at e; simp [e]⟩)
        go_wp2
        go_ret
        exact ⟨⟨kk, rfl, by rw [hv.out]; simp⟩, rfl⟩
      case false =>
        go_wp2
        go_round
        case rel =>
          refine ⟨kk + 1, by omega, by go_num, (show Aside (∀ (j : Nat) x, s[j]? = some x → j < kk + 1 → (x == k) = false) from fun j y hy hj => ?_)⟩
          by_cases e2 : j = kk
          · subst e2
            have := HX.out.symm.trans hy
            simp at this; subst this
            rw [← e]; exact Bool.beq_comm
          · exact A.out j y hy (by omega)
        case measure => simp [intOf]; omega
    · have hv : Hid (seenB s k = false) := Lib.hid (by
        unfold seenB
        rw [List.any_eq_false]
        intro x hx
        obtain ⟨j, hj, rfl⟩ := List.mem_iff_getElem.1 hx
        have := A.out j s[j] (by simp) (by omega)
        simpa using this)
      clear hel
      go_wp2
      go_ret
      exact ⟨⟨-1, rfl, by rw [hv.out]; rfl⟩, rfl⟩

theorem containsI_any (w : World) (s : List Int) (v : Value) (k : Int) (hl : Sl w 1 encI v s) :
    Calls Try.prog 42 #[v, .int .i64 k] w fun e w' => e = .returned (.bool (seenB s k)) ∧ w = w' := by
  have hc := indexI_any w s v k hl
  clear hl
  go_enter Try.func42, Try.ntmps42
  go_wp2_with (go_at_call 56; refine hc.mono ?_; rintro e w' ⟨⟨i, rfl, hi⟩, rfl⟩)
  go_ret
  exact ⟨rfl, rfl⟩

theorem seenAll_any (w : World) (s : List Int) (v : Value) (k : Int) (hl : Sl w 1 encI v s) :
    Calls Try.prog 46 #[v, .int .i64 k] w fun e w' => e = .returned (.bool (seenB s k)) ∧ w = w' := by
  obtain ⟨ao, cap, rfl, hcap, hmax, hnil, hel⟩ := hl
  unfold maxLen at hmax
  go_enter Try.func46, Try.ntmps46
  go_wp2
  go_loop [5] (fun s5 => ∃ kk : Nat, kk ≤ s.length ∧ s5 = .int .i64 kk ∧ Aside (∀ (j : Nat) x, s[j]? = some x → j < kk → (x == k) = false)) (fun i => s.length - (intOf i).toNat)
  case atStart => exact ⟨0, Nat.zero_le _, rfl, fun j x _ hj => absurd hj (Nat.not_lt_zero _)⟩
  case round =>
    obtain ⟨kk, hkk, rfl, A⟩ := hrel
    by_cases hlt : kk < s.length
    · have hltz : (kk : Int) < (s.length : Int) := by omega
      obtain ⟨x, hx⟩ : ∃ x, s[kk]? = some x := ⟨s[kk], by simp [hlt]⟩
      obtain ⟨b, off, rfl, hc⟩ := hel kk x hx
      have c0 : w.cell? ⟨b, off + kk, none⟩ = some (.int .i64 x) := by simpa using hc 0 _ rfl
      have HX := Lib.hid hx
      clear hx hc hel
      cases e : (x == k)
      case true =>
        have hv : Hid (seenB s k = true) := Lib.hid (List.any_eq_true.2 ⟨x, List.mem_of_getElem? HX.out, e⟩)
        go_wp2
        go_ret
        exact ⟨ret_bool hv.out.symm, rfl⟩
      case false =>
        go_wp2
        go_round
        case rel =>
          refine ⟨kk + 1, by omega, by go_num, (show Aside (∀ (j : Nat) x, s[j]? = some x → j < kk + 1 → (x == k) = false) from fun j y hy hj => ?_)⟩
          by_cases e2 : j = kk
          · subst e2
            have := HX.out.symm.trans hy
            simp at this; subst this
            exact e
          · exact A.out j y hy (by omega)
        case measure => simp [intOf]; omega
    · have hv : Hid (seenB s k = false) := Lib.hid (by
        unfold seenB
        rw [List.any_eq_false]
        intro x hx
        obtain ⟨j, hj, rfl⟩ := List.mem_iff_getElem.1 hx
        have := A.out j s[j] (by simp) (by omega)
        simpa using this)
      clear hel
      go_wp2
      go_ret
      exact ⟨ret_bool hv.out.symm, rfl⟩

theorem reHit_any (x : Prt) (t : Int) (B : Nat) (W : World) (hc : W.cell? ⟨B, 0, none⟩ = some (.int .i64 t)) (h0 : 0 ≤ x.fr) (h1 : 1 ≤ x.ln) (h2 : x.fr + x.ln ≤ 1000000000000000) :
    Calls Try.prog 41 #[.agg #[.string x.ad, .int .i64 x.fr, .int .i64 x.ln], .pointer (some ⟨B, 0, none⟩)] W fun e w' => e = .returned (.bool (reHit t x)) ∧ Below W.heap.size W w' := by
  have hlt := World.block_lt_of_cell? W _ hc
  have hH : Hid (reHit t x = (x.ad.toList.isEmpty && decide (t < x.fr + x.ln))) := Lib.hid rfl
  have hb : Below W.heap.size W (W.alloc (.cells #[.string x.ad, .int .i64 x.fr, .int .i64 x.ln] 34)) := (Below.refl _ _).alloc (Nat.le_refl _) _
  cases e : x.ad.toList.isEmpty
  · have e6 : ¬ x.ad.toList = [] := by simpa using e
    go_enter Try.func41, Try.ntmps41
    go_wp2
    go_ret
    exact ⟨ret_bool (by rw [hH.out]; simp [*]), hb⟩
  · have e6 : x.ad.toList = [] := by simpa using e
    go_enter Try.func41, Try.ntmps41
    go_wp2
    go_ret
    exact ⟨ret_bool (by rw [hH.out]; simp [*]), hb⟩
end Go.Proofs.Yteijcombdlgioaa

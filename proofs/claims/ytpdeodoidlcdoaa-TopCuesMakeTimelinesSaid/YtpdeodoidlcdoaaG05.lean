/- More helpers: what the call owns, and slices of ints. Nothing of the program but its ints is used. -/
import Derived.Test.YtpdeodoidlcdoaaG04
import Derived.Test.YtpdeodoidlcdoaaProg
import Derived.OneCell
import Derived.Deep.RegionWith
namespace Go.Proofs.Ytpdeodoidlcdoaa
open Go.RowKit

theorem take_next {α : Type} {l : List α} {k : Nat} {x : α} (hx : l[k]? = some x) : l.take (k + 1) = l.take k ++ [x] := by
  obtain ⟨hk, rfl⟩ := List.getElem?_eq_some_iff.1 hx
  rw [List.take_succ_eq_append_getElem hk]
theorem drop_next {α : Type} {l : List α} {k : Nat} {x : α} (hx : l[k]? = some x) : l.drop k = x :: l.drop (k + 1) := by
  obtain ⟨hk, rfl⟩ := List.getElem?_eq_some_iff.1 hx
  exact List.drop_eq_getElem_cons hk
theorem getD_of {α : Type} {l : List α} {k : Nat} {x d : α} (hx : l[k]? = some x) : l.getD k d = x := by rw [List.getD_eq_getElem?_getD, hx]; rfl

theorem Own.below {α : Type} {w w' : World} {base B : Nat} {E : TypeId} {k : Nat} {enc : α → List Value} {v : Value} {l : List α} (h : Own w base E k enc v l) (hb : Below B w w') (hB : w.heap.size ≤ B) : Own w' base E k enc v l := by
  have hlt := World.ownsRow.lt h
  obtain ⟨h1, h2⟩ := h
  refine ⟨h1, ?_⟩
  rcases h2 with h2 | ⟨g, cap, cur, rfl, hg, hh, r⟩
  · exact Or.inl h2
  · exact Or.inr ⟨g, cap, cur, rfl, hg, by rw [hb.block g (Nat.lt_of_lt_of_le (hlt g rfl).2 hB)]; exact hh, r⟩

theorem flatMap_set {α : Type} {enc : α → List Value} {k : Nat} (hk : ∀ x, (enc x).length = k) : ∀ (l : List α) (i j : Nat) (x y : α) (u : Value), l[i]? = some x → j < k → enc y = (enc x).set j u → (l.set i y).flatMap enc = (l.flatMap enc).set (i * k + j) u
  | [], i, j, x, y, u, h, _, _ => by simp at h
  | z :: r, 0, j, x, y, u, h, hj, hy => by
    simp at h; subst h
    simp only [List.set_cons_zero, List.flatMap_cons, Nat.zero_mul, Nat.zero_add]
    rw [List.set_append_left _ _ (by rw [hk]; exact hj), hy]
  | z :: r, i + 1, j, x, y, u, h, hj, hy => by
    simp only [List.set_cons_succ, List.flatMap_cons]
    have e : (i + 1) * k + j = k + (i * k + j) := by rw [Nat.succ_mul]; omega
    rw [e, List.set_append_right _ _ (by rw [hk]; omega), hk, Nat.add_sub_cancel_left, flatMap_set hk r i j x y u (by simpa using h) hj hy]

/-- One cell of an element written, in what the call owns. -/
theorem Own.store {α : Type} {w : World} {base : Nat} {E : TypeId} {k : Nat} {enc : α → List Value} {l : List α} {g cap n : Nat} (hk : ∀ x, (enc x).length = k) (h : Own w base E k enc (.slice (some ⟨g, 0, none⟩) n cap) l) (hn : n = l.length) {i j : Nat} {x y : α} {u : Value}
    (hx : l[i]? = some x) (hj : j < k) (hy : enc y = (enc x).set j u) : Own (w.setCell ⟨g, i * k + j, none⟩ u) base E k enc (.slice (some ⟨g, 0, none⟩) n cap) (l.set i y) := by
  subst hn
  have := (World.ownsRow.stored h (i * k + j) u).1
  unfold Own
  rw [List.length_set, flatMap_set hk l i j x y u hx hj hy]
  exact this

/-- The block of what the call owns, and its cells. -/
theorem Own.getk {α : Type} {w : World} {base : Nat} {E : TypeId} {k : Nat} {enc : α → List Value} {v : Value} {l : List α} (hk : ∀ x, (enc x).length = k) (h : Own w base E k enc v l) (hne : l ≠ []) :
    ∃ g cap, v = .slice (some ⟨g, 0, none⟩) l.length cap ∧ base ≤ g ∧ g < w.heap.size ∧ l.length ≤ cap ∧ cap ≤ maxLen ∧ (∀ i x j u, l[i]? = some x → (enc x)[j]? = some u → w.cell? ⟨g, i * k + j, none⟩ = some u) ∧ ∀ j, w.frozen? ⟨g, j, none⟩ = false := by
  have h0 := h
  obtain ⟨h1, h2⟩ := h
  rcases h2 with ⟨_, h2⟩ | ⟨g, cap, cur, rfl, hg, hh, hn, hm, hs, ht⟩
  · exact absurd (List.length_eq_zero_iff.1 h2) hne
  · refine ⟨g, cap, rfl, hg, (World.ownsRow.lt h0 g rfl).2, hn, hm, fun i x j u hx hu => ?_, fun j => World.ownsRow.frozenAt h0 j⟩
    have hi : i < l.length := (List.getElem?_eq_some_iff.1 hx).1
    have hj : j < k := by
      have := (List.getElem?_eq_some_iff.1 hu).1
      rwa [hk] at this
    have hle : i * k + k ≤ l.length * k := by
      have := Nat.mul_le_mul_right k (Nat.succ_le_of_lt hi)
      rwa [Nat.succ_mul] at this
    have h3 := World.ownsRow.cellAt h0 (i * k + j) (by omega)
    rw [h3, flatMap_get hk l i j x hx hj]
    exact hu
/-- What the call owns is a slice. -/
theorem Own.slv {α : Type} {w : World} {base : Nat} {E : TypeId} {k : Nat} {enc : α → List Value} {v : Value} {l : List α} (hk : ∀ x, (enc x).length = k) (h : Own w base E k enc v l) : ∃ ao L cap, v = .slice ao L cap := by
  obtain ⟨ao, cap, rfl, _⟩ := Own.sl h hk
  exact ⟨_, _, _, rfl⟩
theorem Own.blk {α : Type} {w : World} {base : Nat} {E : TypeId} {k : Nat} {enc : α → List Value} {l : List α} {g n cap : Nat} (h : Own w base E k enc (.slice (some ⟨g, 0, none⟩) n cap) l) : ∃ cur, w.heap[g]? = some (Obj.cells cur E (0, 0)) := by
  obtain ⟨_, h2⟩ := h
  rcases h2 with ⟨h2, _⟩ | ⟨g', cap', cur, hv, hg, hh, _⟩
  · cases h2
  · simp only [Value.slice.injEq, Option.some.injEq, Addr.mk.injEq, and_true] at hv
    obtain ⟨rfl, _⟩ := hv
    exact ⟨cur, hh⟩

def encI (n : Int) : List Value := [.int .i64 n]
theorem encI_len (n : Int) : (encI n).length = 1 := rfl
theorem infoI : (Try.prog.info? 3).map (fun i => (i.zero, i.size, i.bytes)) = some (some (.int .i64 0), 1, 8) := by kernel_rfl
theorem slI : SlT Try.prog 36 3 1 8 := by
  obtain ⟨i0, hi, hz0, hz1, hz2⟩ := info_parts infoI
  exact ⟨i0, _, Try.underlying36, hi, hz0, hz1, hz2, rfl, by decide, by decide⟩

def outB (n lo hi : Int) : Bool := decide (n < lo) || decide (hi < n)
theorem outB_no {n lo hi : Int} (h : outB n lo hi = false) : lo ≤ n ∧ n ≤ hi := by simp [outB] at h; omega
theorem outB_no' {n lo hi : Int} (h : ¬ outB n lo hi = true) : lo ≤ n ∧ n ≤ hi := outB_no (by simpa using h)

theorem out_any (n lo hi : Int) (w : World) :
    Calls Try.prog 21 #[.int .i64 n, .int .i64 lo, .int .i64 hi] w fun e w' => e = .returned (.bool (outB n lo hi)) ∧ w = w' := by
  by_cases h : n < lo
  · go_enter Try.func21, Try.ntmps21
    go_wp2
    go_ret
    exact ⟨by simp [outB, h], rfl⟩
  · go_enter Try.func21, Try.ntmps21
    go_wp2
    go_ret
    exact ⟨by simp [outB]; omega, rfl⟩
end Go.Proofs.Ytpdeodoidlcdoaa

/- CheckCue, of the program and of the reference. -/
namespace Go.Proofs.Ytpdeodoidlcdoaa
open Go.RowKit

structure Cue where
  ki : Int
  ev : Int
  no : Bool
  ti : Int
  le : Int
  au : Bool
abbrev agC (c : Cue) : Value := .agg #[.int .i64 c.ki, .int .i64 c.ev, .bool c.no, .int .i64 c.ti, .int .i64 c.le, .bool c.au]
abbrev boxC (c : Cue) : Obj := .cells #[.int .i64 c.ki, .int .i64 c.ev, .bool c.no, .int .i64 c.ti, .int .i64 c.le, .bool c.au] 29

/-- Has a cue not its form? -/
def formB (c : Cue) : Bool := ((c.ki == 0) && (c.ev != 0)) || (!((c.ki == 1) || (c.ki == 2)) && (c.no || (c.ti != 0))) || (!(c.ki == 1) && ((c.le != 0) || c.au)) || (c.no && (c.ti != 0))
def rangeB (c : Cue) : Bool := outB c.ev 0 4294967295 || outB c.ti 0 8589934591 || outB c.le 0 8589934591
def checkC (c : Cue) : Int := if outB c.ki 0 3 = true then 4 else if formB c = true then 3 else if rangeB c = true then 1 else if (c.au && (c.le == 0)) = true then 13 else 0
theorem checkC_zero {c : Cue} (h : checkC c = 0) : (0 ≤ c.ki ∧ c.ki ≤ 3) ∧ formB c = false ∧ ((0 ≤ c.ev ∧ c.ev ≤ 4294967295) ∧ (0 ≤ c.ti ∧ c.ti ≤ 8589934591) ∧ (0 ≤ c.le ∧ c.le ≤ 8589934591)) ∧ (c.au && (c.le == 0)) = false := by
  unfold checkC at h
  split at h
  · simp at h
  rename_i h1
  split at h
  · simp at h
  rename_i h2
  split at h
  · simp at h
  rename_i h3
  split at h
  · simp at h
  rename_i h4
  unfold rangeB at h3
  simp only [Bool.or_eq_true, not_or] at h3
  exact ⟨outB_no' h1, by simpa using h2, ⟨outB_no' h3.1.1, outB_no' h3.1.2, outB_no' h3.2⟩, by simpa using h4⟩

set_option maxRecDepth 100000 in
set_option maxHeartbeats 4000000 in
theorem checkCue_any (c : Cue) (w : World) : Calls Try.prog 11 #[agC c] w fun e w' => e = .returned (.int .i64 (checkC c)) ∧ Below w.heap.size w w' := by
  have HB := Lib.hid ((Below.refl w.heap.size w).alloc (Nat.le_refl _) (boxC c))
  have HF : Hid (checkC c = if outB c.ki 0 3 = true then 4 else if formB c = true then 3 else if rangeB c = true then 1 else if (c.au && (c.le == 0)) = true then 13 else 0) := Lib.hid rfl
  have HFB : Hid (formB c = (((c.ki == 0) && (c.ev != 0)) || (!((c.ki == 1) || (c.ki == 2)) && (c.no || (c.ti != 0))) || (!(c.ki == 1) && ((c.le != 0) || c.au)) || (c.no && (c.ti != 0)))) := Lib.hid rfl
  have HRB : Hid (rangeB c = (outB c.ev 0 4294967295 || outB c.ti 0 8589934591 || outB c.le 0 8589934591)) := Lib.hid rfl
  generalize checkC c = F at HF ⊢
  generalize formB c = FB at HF HFB
  generalize rangeB c = RB at HF HRB
  obtain ⟨ki, ev, no, ti, le, au⟩ := c
  simp only at HF HFB HRB HB ⊢
  cases o1 : outB ki 0 3
  case true =>
    have hv : Hid (4 = F) := Lib.hid (by rw [HF.out, o1]; rfl)
    go_enter Try.func11, Try.ntmps11
    go_wp2_with (go_at_call 21; refine (out_any _ _ _ _).mono ?_; rintro e w' ⟨rfl, rfl⟩)
    go_ret
    exact ⟨ret_int hv.out, HB.out⟩
  case false =>
    have hk := outB_no o1
    have HF2 : Hid (F = if FB = true then 3 else if RB = true then 1 else if (au && (le == 0)) = true then 13 else 0) := Lib.hid (by rw [HF.out, o1]; rfl)
    clear HF
    go_enter Try.func11, Try.ntmps11
    go_upto_region 3 with (go_at_call 21; refine (out_any _ _ _ _).mono ?_; rintro e w' ⟨rfl, rfl⟩)
    clear o1
    obtain ⟨w1, hw1⟩ : ∃ w1, w1 = w.alloc (.cells #[.int .i64 ki, .int .i64 ev, .bool no, .int .i64 ti, .int .i64 le, .bool au] 29) := ⟨_, rfl⟩
    go_cut [3] (fun s3 w4 => s3 = .bool ((ki == 1) || (ki == 2)) ∧ w4 = w.alloc (.cells #[.int .i64 ki, .int .i64 ev, .bool no, .int .i64 ti, .int .i64 le, .bool au] 29))
    case first =>
      cases h1 : (ki == 1)
      · go_wp2
        go_meet
        exact ⟨by rw [h1]; rfl, rfl⟩
      · go_wp2
        go_meet
        exact ⟨by rw [h1]; rfl, rfl⟩
    obtain ⟨rfl, rfl⟩ := hcut
    go_upto_region 4 with (fail)
    go_cut [15] (fun s15 w4 => s15 = .bool FB ∧ w4 = w.alloc (.cells #[.int .i64 ki, .int .i64 ev, .bool no, .int .i64 ti, .int .i64 le, .bool au] 29))
    case first =>
      have hki : ki = 0 ∨ ki = 1 ∨ ki = 2 ∨ ki = 3 := by omega
      clear hk hw1
      rcases hki with rfl | rfl | rfl | rfl
      · cases h1 : (ev != 0)
        · cases no
          · cases h2 : (ti != 0)
            · cases h3 : (le != 0)
              · cases au
                · go_wp2
                  go_meet
                  exact ⟨by rw [HFB.out, h1, h2, h3]; rfl, rfl⟩
                · go_wp2
                  go_meet
                  exact ⟨by rw [HFB.out, h1, h2, h3]; rfl, rfl⟩
              · go_wp2
                go_meet
                exact ⟨by rw [HFB.out, h1, h2, h3]; rfl, rfl⟩
            · go_wp2
              go_meet
              exact ⟨by rw [HFB.out, h1, h2]; rfl, rfl⟩
          · go_wp2
            go_meet
            exact ⟨by rw [HFB.out, h1]; rfl, rfl⟩
        · go_wp2
          go_meet
          exact ⟨by rw [HFB.out, h1]; rfl, rfl⟩
      · cases no
        · go_wp2
          go_meet
          exact ⟨by rw [HFB.out]; rfl, rfl⟩
        · cases h2 : (ti != 0)
          · go_wp2
            go_meet
            exact ⟨by rw [HFB.out, h2]; rfl, rfl⟩
          · go_wp2
            go_meet
            exact ⟨by rw [HFB.out, h2]; rfl, rfl⟩
      · cases h3 : (le != 0)
        · cases au
          · cases no
            · go_wp2
              go_meet
              exact ⟨by rw [HFB.out, h3]; rfl, rfl⟩
            · cases h2 : (ti != 0)
              · go_wp2
                go_meet
                exact ⟨by rw [HFB.out, h3, h2]; rfl, rfl⟩
              · go_wp2
                go_meet
                exact ⟨by rw [HFB.out, h3, h2]; rfl, rfl⟩
          · go_wp2
            go_meet
            exact ⟨by rw [HFB.out, h3]; rfl, rfl⟩
        · go_wp2
          go_meet
          exact ⟨by rw [HFB.out, h3]; rfl, rfl⟩
      · cases no
        · cases h2 : (ti != 0)
          · cases h3 : (le != 0)
            · cases au
              · go_wp2
                go_meet
                exact ⟨by rw [HFB.out, h2, h3]; rfl, rfl⟩
              · go_wp2
                go_meet
                exact ⟨by rw [HFB.out, h2, h3]; rfl, rfl⟩
            · go_wp2
              go_meet
              exact ⟨by rw [HFB.out, h2, h3]; rfl, rfl⟩
          · go_wp2
            go_meet
            exact ⟨by rw [HFB.out, h2]; rfl, rfl⟩
        · go_wp2
          go_meet
          exact ⟨by rw [HFB.out]; rfl, rfl⟩
    obtain ⟨rfl, rfl⟩ := hcut
    clear hw1
    cases FB
    case true =>
      have hv : Hid (3 = F) := Lib.hid (by rw [HF2.out]; rfl)
      go_wp2
      go_ret
      exact ⟨ret_int hv.out, HB.out⟩
    case false =>
      go_upto_region 6 with (fail)
      go_cut [60] (fun s60 w4 => s60 = .bool RB ∧ w4 = w.alloc (.cells #[.int .i64 ki, .int .i64 ev, .bool no, .int .i64 ti, .int .i64 le, .bool au] 29))
      case first =>
        cases o1 : outB ev 0 4294967295 <;> cases o2 : outB ti 0 8589934591
        all_goals
          go_wp2_with (go_at_call 21; refine (out_any _ _ _ _).mono ?_; rintro e w' ⟨rfl, rfl⟩)
          go_meet
          exact ⟨by rw [HRB.out, o1, o2]; simp, rfl⟩
      obtain ⟨rfl, rfl⟩ := hcut
      cases RB
      case true =>
        have hv : Hid (1 = F) := Lib.hid (by rw [HF2.out]; rfl)
        go_wp2
        go_ret
        exact ⟨ret_int hv.out, HB.out⟩
      case false =>
        cases au
        case false =>
          have hv : Hid (0 = F) := Lib.hid (by rw [HF2.out]; rfl)
          go_wp2
          go_ret
          exact ⟨ret_int hv.out, HB.out⟩
        case true =>
          cases h3 : (le == 0)
          · have hv : Hid (0 = F) := Lib.hid (by rw [HF2.out, h3]; rfl)
            go_wp2
            go_ret
            exact ⟨ret_int hv.out, HB.out⟩
          · have hv : Hid (13 = F) := Lib.hid (by rw [HF2.out, h3]; rfl)
            go_wp2
            go_ret
            exact ⟨ret_int hv.out, HB.out⟩
end Go.Proofs.Ytpdeodoidlcdoaa

/- whole, of the program and of the reference: the time of a cue. -/
namespace Go.Proofs.Ytpdeodoidlcdoaa
open Go.RowKit

theorem ofInt64_toNat (n : Int) : ((BitVec.ofInt 64 n).toNat : Int) = n % 18446744073709551616 := by
  rw [BitVec.toNat_ofInt]
  have : (0 : Int) ≤ n % 18446744073709551616 := Int.emod_nonneg _ (by decide)
  simp only [Nat.reducePow]
  omega
theorem and33 (n : Int) : bits .and .i64 n 8589934591 = n % 8589934592 := by
  show IntKind.i64.wrap ((BitVec.ofInt 64 n &&& BitVec.ofInt 64 8589934591).toNat : Int) = _
  have h1 := ofInt64_toNat n
  have h2 : (BitVec.ofInt 64 8589934591).toNat = 2 ^ 33 - 1 := rfl
  rw [BitVec.toNat_and, h2, Nat.and_two_pow_sub_one_eq_mod, IntKind.wrap_i64]
  generalize (BitVec.ofInt 64 n).toNat = m at h1
  simp only [Nat.reducePow]
  omega

/-- The time of a cue. -/
def wholeZ (at_ ti : Int) (now : Bool) : Int :=
  if now = true then at_ else if 4294967296 ≤ (ti - at_) % 8589934592 then at_ + ((ti - at_) % 8589934592 - 8589934592) else at_ + (ti - at_) % 8589934592
abbrev agH (at_ : Int) (c : Cue) : Value := .agg #[.int .i64 at_, .int .i64 c.ki, .int .i64 c.ev, .bool c.no, .int .i64 c.ti, .int .i64 c.le, .bool c.au]
abbrev boxH (at_ : Int) (c : Cue) : Obj := .cells #[.int .i64 at_, .int .i64 c.ki, .int .i64 c.ev, .bool c.no, .int .i64 c.ti, .int .i64 c.le, .bool c.au] 31

set_option maxRecDepth 100000 in
set_option maxHeartbeats 2000000 in
theorem whole_any (at_ : Int) (c : Cue) (w : World) (ha : -1000000000000000 ≤ at_ ∧ at_ ≤ 1000000000000000) (ht : 0 ≤ c.ti ∧ c.ti ≤ 8589934591) :
    Calls Try.prog 33 #[agH at_ c] w fun e w' => e = .returned (.int .i64 (wholeZ at_ c.ti c.no)) ∧ Below w.heap.size w w' := by
  have HB := Lib.hid ((Below.refl w.heap.size w).alloc (Nat.le_refl _) (boxH at_ c))
  have HV : Hid (wholeZ at_ c.ti c.no = if c.no = true then at_ else if 4294967296 ≤ (c.ti - at_) % 8589934592 then at_ + ((c.ti - at_) % 8589934592 - 8589934592) else at_ + (c.ti - at_) % 8589934592) := Lib.hid rfl
  obtain ⟨ki, ev, no, ti, le, au⟩ := c
  simp only at HV HB ht ⊢
  generalize wholeZ at_ ti no = Z at HV ⊢
  obtain ⟨h0, h1⟩ := ha
  obtain ⟨h2, h3⟩ := ht
  cases no
  · have han := and33 (ti - at_)
    obtain ⟨d, hd⟩ : ∃ d, d = (ti - at_) % 8589934592 := ⟨_, rfl⟩
    rw [← hd] at han HV
    have hd0 : 0 ≤ d := by omega
    have hd1 : d < 8589934592 := by omega
    clear hd
    by_cases hb : 4294967296 ≤ d
    · have hv : Hid (at_ + (d - 8589934592) = Z) := Lib.hid (by rw [HV.out, if_neg (by simp), if_pos hb])
      go_enter Try.func33, Try.ntmps33
      go_wp2
      go_ret
      exact ⟨ret_int hv.out, HB.out⟩
    · have hv : Hid (at_ + d = Z) := Lib.hid (by rw [HV.out, if_neg (by simp), if_neg hb])
      go_enter Try.func33, Try.ntmps33
      go_wp2
      go_ret
      exact ⟨ret_int hv.out, HB.out⟩
  · have hv : Hid (at_ = Z) := Lib.hid (by rw [HV.out]; rfl)
    go_enter Try.func33, Try.ntmps33
    go_wp2
    go_ret
    exact ⟨ret_int hv.out, HB.out⟩

theorem noTime_any (n : Int) (w : World) : Calls Try.prog 19 #[.int .i64 n] w fun e w' => e = .returned (.bool (outB n (-1000000000000000) 1000000000000000)) ∧ w = w' := by
  go_enter Try.func19, Try.ntmps19
  go_wp2_with (go_at_call 21; refine (out_any _ _ _ _).mono ?_; rintro e w' ⟨rfl, rfl⟩)
  go_ret
  exact ⟨rfl, rfl⟩
end Go.Proofs.Ytpdeodoidlcdoaa

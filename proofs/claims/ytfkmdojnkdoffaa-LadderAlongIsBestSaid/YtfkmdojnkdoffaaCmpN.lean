/- slices.Compare at ints. -/
import Derived.Test.YtfkmdojnkdoffaaLib
namespace Go.Proofs.Ytfkmdojnkdoffaa
open Go.RowKit

theorem lt_at (a b : Int) (R S : List Int) : ∀ P : List Int, a < b → P ++ a :: R < P ++ b :: S
  | [], h => List.cons_lt_cons_iff.2 (.inl h)
  | _ :: P, h => List.cons_lt_cons_iff.2 (.inr ⟨rfl, lt_at a b R S P h⟩)
theorem split_at {A : List Int} {k : Nat} {a : Int} (h : A[k]? = some a) : A = A.take k ++ a :: A.drop (k + 1) := by
  obtain ⟨hk, rfl⟩ := List.getElem?_eq_some_iff.1 h
  rw [List.getElem_cons_drop, List.take_append_drop]
theorem lt_hit {A B : List Int} {k : Nat} {a b : Int} (h : A.take k = B.take k) (ha : A[k]? = some a) (hb : B[k]? = some b) (hab : a < b) : A < B := by
  rw [split_at ha, split_at hb, h]
  exact lt_at a b _ _ _ hab

theorem isNaN_any (n : Int) (w : World) : Calls Try.prog 78 #[.int .i64 n] w fun e w' => e = .returned (.bool false) ∧ w = w' := by
  go_enter Try.func78, Try.ntmps78
  go_wp2
  go_ret
  exact ⟨by simp, rfl⟩

def cmpI (a b : Int) : Int := if a < b then -1 else if b < a then 1 else 0
theorem cmp_any (a b : Int) (w : World) : Calls Try.prog 71 #[.int .i64 a, .int .i64 b] w fun e w' => e = .returned (.int .i64 (cmpI a b)) ∧ w = w' := by
  have HC : Hid (cmpI a b = if a < b then -1 else if b < a then 1 else 0) := Lib.hid rfl
  generalize cmpI a b = c at HC ⊢
  by_cases h1 : a < b
  · have hv : Hid (-1 = c) := Lib.hid (by rw [HC.out, if_pos h1])
    go_enter Try.func71, Try.ntmps71
    go_wp2_with (go_at_call 78; refine (isNaN_any _ _).mono ?_; rintro e w' ⟨rfl, rfl⟩)
    go_ret
    exact ⟨ret_int hv.out, rfl⟩
  by_cases h2 : b < a
  · have hv : Hid (1 = c) := Lib.hid (by rw [HC.out, if_neg h1, if_pos h2])
    go_enter Try.func71, Try.ntmps71
    go_wp2_with (go_at_call 78; refine (isNaN_any _ _).mono ?_; rintro e w' ⟨rfl, rfl⟩)
    go_ret
    exact ⟨ret_int hv.out, rfl⟩
  · have hv : Hid (0 = c) := Lib.hid (by rw [HC.out, if_neg h1, if_neg h2])
    go_enter Try.func71, Try.ntmps71
    go_wp2_with (go_at_call 78; refine (isNaN_any _ _).mono ?_; rintro e w' ⟨rfl, rfl⟩)
    go_ret
    exact ⟨ret_int hv.out, rfl⟩

def LtP (w : World) (A B : List Int) : Ending → World → Prop := fun e w' => ∃ c : Int, e = .returned (.int .i64 c) ∧ decide (c < 0) = decide (A < B) ∧ w = w'

set_option maxHeartbeats 1000000 in
/-- slices.Compare of two slices of one length. -/
theorem compare_any (w : World) (A B : List Int) (v u : Value) (hA : Sl w 1 encI v A) (hB : Sl w 1 encI u B) (hAB : A.length = B.length) :
    Calls Try.prog 55 #[v, u] w (LtP w A B) := by
  obtain ⟨ao, cap, rfl, hcap, hmax, hnil, hel⟩ := hA
  obtain ⟨bo, bap, rfl, hbap, hbax, hbil, hem⟩ := hB
  unfold maxLen at hmax hbax
  obtain ⟨n, hn⟩ : ∃ n, n = A.length := ⟨_, rfl⟩
  rw [← hn] at hAB hcap ⊢
  rw [← hAB] at hbap ⊢
  have HN := Lib.hid hn
  have HM := Lib.hid hAB
  clear hn hAB
  go_enter Try.func55, Try.ntmps55
  go_wp2
  go_loop [5, 6, 7, 8, 11] (fun _ _ _ _ s11 => ∃ kk : Nat, kk ≤ n ∧ s11 = .int .i64 kk ∧ Aside (A.take kk = B.take kk)) (fun _ _ _ _ i => n - (intOf i).toNat)
  case atStart => exact ⟨0, Nat.zero_le _, rfl, (show Aside _ from rfl)⟩
  case round =>
    obtain ⟨kk, hkk, rfl, HP⟩ := hrel
    by_cases hlt : kk < n
    · have hltz : (kk : Int) < (n : Int) := by omega
      have hltn : ¬ (n : Int) ≤ (kk : Int) := by omega
      have hlA : kk < A.length := by rw [← HN.out]; exact hlt
      have hlB : kk < B.length := by rw [← HM.out]; exact hlt
      obtain ⟨x, hx⟩ : ∃ x, A[kk]? = some x := ⟨A[kk], by simp [hlA]⟩
      obtain ⟨y, hy⟩ : ∃ x, B[kk]? = some x := ⟨B[kk], by simp [hlB]⟩
      obtain ⟨b, off, rfl, hc⟩ := hel kk x hx
      obtain ⟨b', off', rfl, hd⟩ := hem kk y hy
      have c0 : w.cell? ⟨b, off + kk, none⟩ = some (.int .i64 x) := by simpa using hc 0 _ rfl
      have d0 : w.cell? ⟨b', off' + kk, none⟩ = some (.int .i64 y) := by simpa using hd 0 _ rfl
      have HX := Lib.hid hx
      have HY := Lib.hid hy
      have hcm := cmp_any x y
      have HC : Hid (cmpI x y = if x < y then -1 else if y < x then 1 else 0) := Lib.hid rfl
      clear hx hy hc hd hel hem hlA hlB
      generalize cmpI x y = c at hcm HC
      cases e : (c != 0)
      case true =>
        have hv : Hid (decide (c < 0) = decide (A < B)) := Lib.hid (by
          have e' : c ≠ 0 := by simpa using e
          rw [HC.out] at e' ⊢
          split
          · rename_i h
            rw [decide_eq_true (lt_hit HP.out HX.out HY.out h)]; rfl
          · rename_i h
            split
            · rename_i h2
              rw [decide_eq_false (fun h3 => List.lt_irrefl _ (List.lt_trans h3 (lt_hit HP.out.symm HY.out HX.out h2)))]; rfl
            · rename_i h2
              rw [if_neg h, if_neg h2] at e'
              exact absurd rfl e')
        go_wp2_with (go_at_call 71; refine (hcm _).mono ?_; rintro e w' ⟨rfl, rfl⟩)
        go_ret
        exact ⟨_, rfl, hv.out, rfl⟩
      case false =>
        have hxy : Hid (x = y) := Lib.hid (by
          have e' : c = 0 := by simpa using e
          rw [HC.out] at e'
          split at e'
          · simp at e'
          · split at e'
            · simp at e'
            · omega)
        go_wp2_with (go_at_call 71; refine (hcm _).mono ?_; rintro e w' ⟨rfl, rfl⟩)
        go_round
        case rel => exact ⟨kk + 1, by omega, by go_num, (show Aside _ from (show A.take (kk + 1) = B.take (kk + 1) by rw [take_next HX.out, take_next HY.out, HP.out, hxy.out]))⟩
        case measure => simp [intOf]; omega
    · obtain rfl : kk = n := by omega
      have hv : Hid (decide ((0 : Int) < 0) = decide (A < B)) := Lib.hid (by
        have h := HP.out
        rw [List.take_of_length_le (Nat.le_of_eq HN.out.symm), List.take_of_length_le (Nat.le_of_eq HM.out.symm)] at h
        rw [h, decide_eq_false (List.lt_irrefl B)]
        rfl)
      clear hel hem
      go_wp2
      go_ret
      exact ⟨_, rfl, hv.out, rfl⟩
end Go.Proofs.Ytfkmdojnkdoffaa

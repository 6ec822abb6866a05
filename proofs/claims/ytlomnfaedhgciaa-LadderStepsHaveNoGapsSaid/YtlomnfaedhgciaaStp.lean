/- The greatest step: its fault; is one rate farther than it from another one? -/
import Derived.Test.YtlomnfaedhgciaaRenD
import Derived.Test.YtlomnfaedhgciaaWideT
import Derived.Test.YtlomnfaedhgciaaOut5
import Derived.Deep.RegionHeld3
namespace Go.Proofs.Ytlomnfaedhgciaa
open Go.RowKit

def mostB (n d : Int) : Bool := outB n 1 1000000000 || outB d 1 1000000000 || decide (n < d)
def mostF (n d : Int) : Int := if mostB n d = true then 1 else 0
theorem mostF_zero {n d : Int} (h : mostF n d = 0) : (1 ≤ n ∧ n ≤ 1000000000) ∧ (1 ≤ d ∧ d ≤ 1000000000) ∧ d ≤ n := by
  unfold mostF mostB at h
  split at h
  · simp at h
  rename_i h1
  simp only [Bool.or_eq_true, not_or, decide_eq_true_eq] at h1
  exact ⟨outB_no' h1.1.1, outB_no' h1.1.2, by omega⟩
/-- Is b more than n/d times a? -/
def farB (a b n d : Int) : Bool := decide (a * n < b * d)

set_option maxHeartbeats 1000000 in
theorem mostFault_any (n d : Int) (w : World) : Calls Try.prog 17 #[.agg #[.int .i64 n, .int .i64 d]] w fun e w' => e = .returned (.int .i64 (mostF n d)) ∧ Below w.heap.size w w' := by
  have HF : Hid (mostF n d = if mostB n d = true then 1 else 0) := Lib.hid rfl
  have HB : Hid (mostB n d = (outB n 1 1000000000 || outB d 1 1000000000 || decide (n < d))) := Lib.hid rfl
  generalize mostF n d = F at HF ⊢
  generalize mostB n d = M at HF HB
  have HBL := Lib.hid ((Below.refl w.heap.size w).alloc (Nat.le_refl _) (.cells #[.int .i64 n, .int .i64 d] 24))
  go_enter Try.func17, Try.ntmps17
  go_upto_region 1 with (fail)
  go_cut [17] (fun s17 w4 => s17 = .bool M ∧ w4 = w.alloc (.cells #[.int .i64 n, .int .i64 d] 24))
  case first =>
    cases o1 : outB n 1 1000000000
    case true =>
      have hv : Hid (true = M) := Lib.hid (by rw [HB.out, o1]; rfl)
      go_wp2_with (go_at_call 26; refine (out_any _ _ _ _).mono ?_; rintro e w' ⟨rfl, rfl⟩)
      go_meet
      exact ⟨by rw [← hv.out], rfl⟩
    cases o2 : outB d 1 1000000000
    case true =>
      have hv : Hid (true = M) := Lib.hid (by rw [HB.out, o1, o2]; rfl)
      go_wp2_with (go_at_call 26; refine (out_any _ _ _ _).mono ?_; rintro e w' ⟨rfl, rfl⟩)
      go_meet
      exact ⟨by rw [← hv.out], rfl⟩
    case false =>
      have hv : Hid (decide (n < d) = M) := Lib.hid (by rw [HB.out, o1, o2]; rfl)
      go_wp2_with (go_at_call 26; refine (out_any _ _ _ _).mono ?_; rintro e w' ⟨rfl, rfl⟩)
      go_meet
      exact ⟨by rw [← hv.out], rfl⟩
  obtain ⟨rfl, rfl⟩ := hcut
  cases M
  all_goals
    go_wp2
    go_ret
    exact ⟨ret_int (by rw [HF.out]; rfl), HBL.out⟩

set_option maxHeartbeats 1000000 in
theorem isStep_any (n d : Int) (w : World) : Calls Try.prog 24 #[.agg #[.int .i64 n, .int .i64 d]] w fun e w' => e = .returned (.bool (!mostB n d)) ∧ Below w.heap.size w w' := by
  have HB : Hid (mostB n d = (outB n 1 1000000000 || outB d 1 1000000000 || decide (n < d))) := Lib.hid rfl
  generalize mostB n d = M at HB ⊢
  have HBL := Lib.hid ((Below.refl w.heap.size w).alloc (Nat.le_refl _) (.cells #[.int .i64 n, .int .i64 d] 24))
  cases o1 : outB n 1 1000000000
  case true =>
    have hv : Hid (false = !M) := Lib.hid (by rw [HB.out, o1]; rfl)
    go_enter Try.func24, Try.ntmps24
    go_wp2_with (go_at_call 27; refine (within5_any _ _ _ _).mono ?_; rintro e w' ⟨rfl, rfl⟩)
    go_ret
    exact ⟨ret_bool hv.out, HBL.out⟩
  cases o2 : outB d 1 1000000000
  case true =>
    have hv : Hid (false = !M) := Lib.hid (by rw [HB.out, o1, o2]; rfl)
    go_enter Try.func24, Try.ntmps24
    go_wp2_with (go_at_call 27; refine (within5_any _ _ _ _).mono ?_; rintro e w' ⟨rfl, rfl⟩)
    go_ret
    exact ⟨ret_bool hv.out, HBL.out⟩
  case false =>
    have hv : Hid (decide (d ≤ n) = !M) := Lib.hid (by rw [HB.out, o1, o2, Bool.eq_iff_iff]; simp)
    go_enter Try.func24, Try.ntmps24
    go_wp2_with (go_at_call 27; refine (within5_any _ _ _ _).mono ?_; rintro e w' ⟨rfl, rfl⟩)
    go_ret
    exact ⟨ret_bool hv.out, HBL.out⟩

theorem near_any (a b n d : Int) (w : World) (ha : 0 ≤ a ∧ a ≤ 1000000000) (hb : 0 ≤ b ∧ b ≤ 1000000000) (hn : 0 ≤ n ∧ n ≤ 1000000000) (hd : 0 ≤ d ∧ d ≤ 1000000000) :
    Calls Try.prog 25 #[.int .i64 a, .int .i64 b, .agg #[.int .i64 n, .int .i64 d]] w fun e w' => e = .returned (.bool (!farB a b n d)) ∧ Below w.heap.size w w' := by
  have h1 : 0 ≤ b * d := Int.mul_nonneg hb.1 hd.1
  have h2 : b * d ≤ 1000000000 * 1000000000 := Int.mul_le_mul hb.2 hd.2 hd.1 (by omega)
  have h3 : 0 ≤ a * n := Int.mul_nonneg ha.1 hn.1
  have h4 : a * n ≤ 1000000000 * 1000000000 := Int.mul_le_mul ha.2 hn.2 hn.1 (by omega)
  have hv : Hid (decide (b * d ≤ a * n) = !farB a b n d) := Lib.hid (by unfold farB; rw [Bool.eq_iff_iff]; simp)
  generalize farB a b n d = F at hv ⊢
  go_enter Try.func25, Try.ntmps25
  go_wp2
  go_ret
  exact ⟨ret_bool hv.out, (Below.refl _ _).alloc (Nat.le_refl _) _⟩

theorem sgn_far {a b n d : Nat} : decide (0 < sgn ((b * d : Nat) : Int) ((a * n : Nat) : Int)) = farB a b n d := by
  unfold sgn farB
  have e1 : ((b : Int) * d) = ((b * d : Nat) : Int) := by norm_cast
  have e2 : ((a : Int) * n) = ((a * n : Nat) : Int) := by norm_cast
  rw [e1, e2]
  generalize b * d = x
  generalize a * n = y
  by_cases h : x < y
  · rw [if_pos (by omega)]; simp; omega
  · rw [if_neg (by omega)]
    by_cases h2 : y < x
    · rw [if_pos (by omega)]; simp; omega
    · rw [if_neg (by omega)]; simp; omega
end Go.Proofs.Ytlomnfaedhgciaa

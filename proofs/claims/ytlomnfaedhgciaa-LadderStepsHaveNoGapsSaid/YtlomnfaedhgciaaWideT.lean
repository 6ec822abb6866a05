/- Comparisons of products: wide.Compare, and the reference's Less. -/
import Derived.Test.YtlomnfaedhgciaaRat2
namespace Go.Proofs.Ytlomnfaedhgciaa
open Go.RowKit

def sgn (x y : Int) : Int := if x < y then -1 else if y < x then 1 else 0

theorem nan64_any (x : Int) (w : World) : Calls Try.prog 48 #[.int .i64 x] w fun e w' => e = .returned (.bool false) ∧ w = w' := by
  go_enter Try.func48, Try.ntmps48
  go_wp2
  go_ret
  exact ⟨by simp, rfl⟩
theorem nanU64_any (x : Int) (w : World) : Calls Try.prog 49 #[.int .u64 x] w fun e w' => e = .returned (.bool false) ∧ w = w' := by
  go_enter Try.func49, Try.ntmps49
  go_wp2
  go_ret
  exact ⟨by simp, rfl⟩
theorem cmp64_any (x y : Int) (w : World) : Calls Try.prog 43 #[.int .i64 x, .int .i64 y] w fun e w' => e = .returned (.int .i64 (sgn x y)) ∧ w = w' := by
  have hs : Hid (sgn x y = if x < y then -1 else if y < x then 1 else 0) := Lib.hid rfl
  by_cases h1 : x < y
  · go_enter Try.func43, Try.ntmps43
    go_wp2_with (go_at_call 48; refine (nan64_any _ _).mono ?_; rintro e w' ⟨rfl, rfl⟩)
    go_ret
    exact ⟨ret_int (by rw [hs.out, if_pos h1]), rfl⟩
  · by_cases h2 : y < x
    · go_enter Try.func43, Try.ntmps43
      go_wp2_with (go_at_call 48; refine (nan64_any _ _).mono ?_; rintro e w' ⟨rfl, rfl⟩)
      go_ret
      exact ⟨ret_int (by rw [hs.out, if_neg (by omega), if_pos h2]), rfl⟩
    · go_enter Try.func43, Try.ntmps43
      go_wp2_with (go_at_call 48; refine (nan64_any _ _).mono ?_; rintro e w' ⟨rfl, rfl⟩)
      go_ret
      exact ⟨ret_int (by rw [hs.out, if_neg (by omega), if_neg (by omega)]), rfl⟩
theorem cmpU64_any (x y : Int) (w : World) : Calls Try.prog 44 #[.int .u64 x, .int .u64 y] w fun e w' => e = .returned (.int .i64 (sgn x y)) ∧ w = w' := by
  have hs : Hid (sgn x y = if x < y then -1 else if y < x then 1 else 0) := Lib.hid rfl
  by_cases h1 : x < y
  · go_enter Try.func44, Try.ntmps44
    go_wp2_with (go_at_call 49; refine (nanU64_any _ _).mono ?_; rintro e w' ⟨rfl, rfl⟩)
    go_ret
    exact ⟨ret_int (by rw [hs.out, if_pos h1]), rfl⟩
  · by_cases h2 : y < x
    · go_enter Try.func44, Try.ntmps44
      go_wp2_with (go_at_call 49; refine (nanU64_any _ _).mono ?_; rintro e w' ⟨rfl, rfl⟩)
      go_ret
      exact ⟨ret_int (by rw [hs.out, if_neg (by omega), if_pos h2]), rfl⟩
    · go_enter Try.func44, Try.ntmps44
      go_wp2_with (go_at_call 49; refine (nanU64_any _ _).mono ?_; rintro e w' ⟨rfl, rfl⟩)
      go_ret
      exact ⟨ret_int (by rw [hs.out, if_neg (by omega), if_neg (by omega)]), rfl⟩

theorem size_any (a : Nat) (w : World) (ha : a ≤ 9223372036854775807) : Calls Try.prog 41 #[.int .i64 a] w fun e w' => e = .returned (.int .u64 a) ∧ w = w' := by
  have hw : IntKind.u64.wrap (a : Int) = (a : Int) := wrapN a (by omega)
  have h0 : ¬ (a : Int) < 0 := by omega
  go_enter Try.func41, Try.ntmps41
  go_wp2
  go_ret
  exact ⟨rfl, rfl⟩

theorem hi_lt {a b : Nat} (ha : a ≤ 9223372036854775807) (hb : b ≤ 9223372036854775807) : a * b / 18446744073709551616 ≤ 9223372036854775807 := by
  have h1 : a * b ≤ 9223372036854775807 * 9223372036854775807 := Nat.mul_le_mul ha hb
  omega

set_option maxHeartbeats 1000000 in
theorem times_nn (a b : Nat) (w : World) (ha : a ≤ 9223372036854775807) (hb : b ≤ 9223372036854775807) :
    Calls Try.prog 31 #[.int .i64 a, .int .i64 b] w fun e w' => e = .returned (.agg #[.int .i64 (a * b / 18446744073709551616 : Nat), .int .u64 (a * b % 18446744073709551616 : Nat)]) ∧ Below w.heap.size w w' := by
  have h1 := hi_lt ha hb
  have hm := fun w => mul64_any a b (by omega) (by omega) w
  have hl : a * b % 18446744073709551616 < 18446744073709551616 := Nat.mod_lt _ (by omega)
  generalize a * b / 18446744073709551616 = H at h1 hm
  generalize a * b % 18446744073709551616 = L at hl hm
  have h0 : ¬ (a : Int) < 0 := by omega
  have h2 : ¬ (b : Int) < 0 := by omega
  go_enter Try.func31, Try.ntmps31
  go_wp2_with (first | (go_at_call 41; ((with_reducible refine (size_any a _ ha).mono ?_); rintro e w' ⟨rfl, rfl⟩)) | (go_at_call 41; ((with_reducible refine (size_any b _ hb).mono ?_); rintro e w' ⟨rfl, rfl⟩)) | (go_at_call 40; ((with_reducible refine (hm _).mono ?_); rintro e w' ⟨rfl, rfl⟩)))
  exact bodyPost_ret (v := .agg #[.int .i64 H, .int .u64 L]) (by simp [results, Try.results31, go_sem]) rfl ⟨rfl, by
    first | exact (Below.refl _ _).alloc (Nat.le_refl _) _ | exact ((Below.refl _ _).alloc (Nat.le_refl _) _).setCell (Nat.le_refl _) _ | exact (((Below.refl _ _).alloc (Nat.le_refl _) _).setCell (Nat.le_refl _) _).setCell (Nat.le_refl _) _⟩

theorem sgn_wide (x y : Nat) : (if sgn ((x / 18446744073709551616 : Nat) : Int) ((y / 18446744073709551616 : Nat) : Int) ≠ 0 then sgn ((x / 18446744073709551616 : Nat) : Int) ((y / 18446744073709551616 : Nat) : Int) else sgn ((x % 18446744073709551616 : Nat) : Int) ((y % 18446744073709551616 : Nat) : Int)) = sgn x y := by
  unfold sgn
  by_cases h1 : x / 18446744073709551616 < y / 18446744073709551616
  · rw [if_pos (by omega : ((x / 18446744073709551616 : Nat) : Int) < ((y / 18446744073709551616 : Nat) : Int)), if_pos (by omega : (x : Int) < (y : Int))]
    rfl
  · by_cases h2 : y / 18446744073709551616 < x / 18446744073709551616
    · rw [if_neg (by omega : ¬ ((x / 18446744073709551616 : Nat) : Int) < ((y / 18446744073709551616 : Nat) : Int)), if_pos (by omega : ((y / 18446744073709551616 : Nat) : Int) < ((x / 18446744073709551616 : Nat) : Int)), if_neg (by omega : ¬ (x : Int) < (y : Int)), if_pos (by omega : (y : Int) < (x : Int))]
      rfl
    · have h3 : x / 18446744073709551616 = y / 18446744073709551616 := by omega
      rw [h3]
      simp only [Int.lt_irrefl, if_false]
      rw [if_neg (by simp)]
      by_cases h4 : x < y
      · rw [if_pos (by omega), if_pos (by omega)]
      · by_cases h5 : y < x
        · rw [if_neg (by omega), if_pos (by omega), if_neg (by omega), if_pos (by omega)]
        · rw [if_neg (by omega), if_neg (by omega), if_neg (by omega), if_neg (by omega)]

set_option maxHeartbeats 1000000 in
theorem icmp_any (h1 l1 h2 l2 : Int) (w : World) :
    Calls Try.prog 32 #[.agg #[.int .i64 h1, .int .u64 l1], .agg #[.int .i64 h2, .int .u64 l2]] w fun e w' => e = .returned (.int .i64 (if sgn h1 h2 ≠ 0 then sgn h1 h2 else sgn l1 l2)) ∧ Below w.heap.size w w' := by
  obtain ⟨R, hR⟩ : ∃ R, R = if sgn h1 h2 ≠ 0 then sgn h1 h2 else sgn l1 l2 := ⟨_, rfl⟩
  rw [← hR]
  have c1 := fun w => cmp64_any h1 h2 w
  have c2 := fun w => cmpU64_any l1 l2 w
  have hb : Below w.heap.size w ((w.alloc (.cells #[.int .i64 h1, .int .u64 l1] 60)).alloc (.cells #[.int .i64 h2, .int .u64 l2] 60)) := ((Below.refl _ _).alloc (Nat.le_refl _) _).alloc (by simp) _
  generalize sgn h1 h2 = A at hR c1
  generalize sgn l1 l2 = B at hR c2
  have HR := Lib.hid hR
  clear hR
  cases e : (A != 0)
  · obtain rfl : A = 0 := by simpa using e
    have hv : Hid (B = R) := Lib.hid (by rw [HR.out]; rfl)
    go_enter Try.func32, Try.ntmps32
    go_wp2_with (first | (go_at_call 43; ((with_reducible refine (c1 _).mono ?_); rintro e w' ⟨rfl, rfl⟩)) | (go_at_call 44; ((with_reducible refine (c2 _).mono ?_); rintro e w' ⟨rfl, rfl⟩)))
    go_ret
    exact ⟨ret_int hv.out, hb⟩
  · have hv : Hid (A = R) := Lib.hid (by rw [HR.out, if_pos (by simpa using e)])
    go_enter Try.func32, Try.ntmps32
    go_wp2_with (first | (go_at_call 43; ((with_reducible refine (c1 _).mono ?_); rintro e w' ⟨rfl, rfl⟩)) | (go_at_call 44; ((with_reducible refine (c2 _).mono ?_); rintro e w' ⟨rfl, rfl⟩)))
    go_ret
    exact ⟨ret_int hv.out, hb⟩

end Go.Proofs.Ytlomnfaedhgciaa

/- whole, of the program and of the reference: the time of a cue. -/
import Derived.Test.YtaknkldbdijkeaaCue
namespace Go.Proofs.Ytaknkldbdijkeaa
open Go.RowKit

theorem ofInt64_toNat (n : Int) : ((BitVec.ofInt 64 n).toNat : Int) = n % 18446744073709551616 := by
  rw [BitVec.toNat_ofInt]
  have : (0 : Int) ≤ n % 18446744073709551616 := Int.emod_nonneg _ (by decide)
  simp only [Nat.reducePow]
  omega
theorem and33 (n : Int) : bits .and .i64 n 8589934591 = n % 8589934592 := by
  show IntKind.i64.wrap ((BitVec.ofInt 64 n &&& BitVec.ofInt 64 8589934591).toNat : Int) = _
  have h1 := ofInt64_toNat n
  have h2 : (BitVec.ofInt 64 8589934591).toNat = 2 ^ 33 - 1 := rfl
  rw [BitVec.toNat_and, h2, Nat.and_two_pow_sub_one_eq_mod, IntKind.wrap_i64]
  generalize (BitVec.ofInt 64 n).toNat = m at h1
  simp only [Nat.reducePow]
  omega

/-- The time of a cue. -/
def wholeZ (at_ ti : Int) (now : Bool) : Int :=
  if now = true then at_ else if 4294967296 ≤ (ti - at_) % 8589934592 then at_ + ((ti - at_) % 8589934592 - 8589934592) else at_ + (ti - at_) % 8589934592
abbrev agH (at_ : Int) (c : Cue) : Value := .agg #[.int .i64 at_, .int .i64 c.ki, .int .i64 c.ev, .bool c.no, .int .i64 c.ti, .int .i64 c.le, .bool c.au]
abbrev boxH (at_ : Int) (c : Cue) : Obj := .cells #[.int .i64 at_, .int .i64 c.ki, .int .i64 c.ev, .bool c.no, .int .i64 c.ti, .int .i64 c.le, .bool c.au] 42

set_option maxRecDepth 100000 in
set_option maxHeartbeats 2000000 in
theorem whole_any (at_ : Int) (c : Cue) (w : World) (ha : -1000000000000000 ≤ at_ ∧ at_ ≤ 1000000000000000) (ht : 0 ≤ c.ti ∧ c.ti ≤ 8589934591) :
    Calls Try.prog 33 #[agH at_ c] w fun e w' => e = .returned (.int .i64 (wholeZ at_ c.ti c.no)) ∧ Below w.heap.size w w' := by
  have HB := Lib.hid ((Below.refl w.heap.size w).alloc (Nat.le_refl _) (boxH at_ c))
  have HV : Hid (wholeZ at_ c.ti c.no = if c.no = true then at_ else if 4294967296 ≤ (c.ti - at_) % 8589934592 then at_ + ((c.ti - at_) % 8589934592 - 8589934592) else at_ + (c.ti - at_) % 8589934592) := Lib.hid rfl
  obtain ⟨ki, ev, no, ti, le, au⟩ := c
  simp only at HV HB ht ⊢
  generalize wholeZ at_ ti no = Z at HV ⊢
  obtain ⟨h0, h1⟩ := ha
  obtain ⟨h2, h3⟩ := ht
  cases no
  · have han := and33 (ti - at_)
    obtain ⟨d, hd⟩ : ∃ d, d = (ti - at_) % 8589934592 := ⟨_, rfl⟩
    rw [← hd] at han HV
    have hd0 : 0 ≤ d := by omega
    have hd1 : d < 8589934592 := by omega
    clear hd
    by_cases hb : 4294967296 ≤ d
    · have hv : Hid (at_ + (d - 8589934592) = Z) := Lib.hid (by rw [HV.out, if_neg (by simp), if_pos hb])
      go_enter Try.func33, Try.ntmps33
      go_wp2
      go_ret
      exact ⟨ret_int hv.out, HB.out⟩
    · have hv : Hid (at_ + d = Z) := Lib.hid (by rw [HV.out, if_neg (by simp), if_neg hb])
      go_enter Try.func33, Try.ntmps33
      go_wp2
      go_ret
      exact ⟨ret_int hv.out, HB.out⟩
  · have hv : Hid (at_ = Z) := Lib.hid (by rw [HV.out]; rfl)
    go_enter Try.func33, Try.ntmps33
    go_wp2
    go_ret
    exact ⟨ret_int hv.out, HB.out⟩

set_option maxRecDepth 100000 in
set_option maxHeartbeats 2000000 in
theorem wholeR_any (at_ : Int) (c : Cue) (w : World) (ha : -1000000000000000 ≤ at_ ∧ at_ ≤ 1000000000000000) (ht : 0 ≤ c.ti ∧ c.ti ≤ 8589934591) :
    Calls Try.prog 39 #[agH at_ c] w fun e w' => e = .returned (.int .i64 (wholeZ at_ c.ti c.no)) ∧ Below w.heap.size w w' := by
  have HB := Lib.hid ((Below.refl w.heap.size w).alloc (Nat.le_refl _) (boxH at_ c))
  have HV : Hid (wholeZ at_ c.ti c.no = if c.no = true then at_ else if 4294967296 ≤ (c.ti - at_) % 8589934592 then at_ + ((c.ti - at_) % 8589934592 - 8589934592) else at_ + (c.ti - at_) % 8589934592) := Lib.hid rfl
  obtain ⟨ki, ev, no, ti, le, au⟩ := c
  simp only at HV HB ht ⊢
  generalize wholeZ at_ ti no = Z at HV ⊢
  obtain ⟨h0, h1⟩ := ha
  obtain ⟨h2, h3⟩ := ht
  cases no
  · obtain ⟨d, hd⟩ : ∃ d, d = (ti - at_) % 8589934592 := ⟨_, rfl⟩
    obtain ⟨t, htm⟩ : ∃ t, t = (ti - at_).tmod 8589934592 := ⟨_, rfl⟩
    have hdt : (0 ≤ t ∧ d = t) ∨ (t < 0 ∧ d = t + 8589934592) := by
      have h4 := Int.emod_add_mul_ediv (ti - at_) 8589934592
      have h5 := Int.tmod_add_mul_tdiv (ti - at_) 8589934592
      have h6 : -8589934592 < t := by
        have := Int.tmod_lt_of_pos (-(ti - at_)) (b := 8589934592) (by omega)
        rw [Int.neg_tmod] at this
        omega
      have h7 : t < 8589934592 := by rw [htm]; exact Int.tmod_lt_of_pos _ (by omega)
      omega
    have htt : (ti - at_).tmod 8589934592 = t := htm.symm
    rw [← hd] at HV
    have hd0 : 0 ≤ d := by omega
    have hd1 : d < 8589934592 := by omega
    clear hd htm
    rcases hdt with ⟨ht0, rfl⟩ | ⟨ht0, rfl⟩
    · by_cases hb : 4294967296 ≤ d
      · have hv : Hid (at_ + (d - 8589934592) = Z) := Lib.hid (by rw [HV.out, if_neg (by simp), if_pos hb])
        have hn : ¬ d < 0 := by omega
        go_enter Try.func39, Try.ntmps39
        go_wp2
        go_ret
        exact ⟨ret_int hv.out, HB.out⟩
      · have hv : Hid (at_ + d = Z) := Lib.hid (by rw [HV.out, if_neg (by simp), if_neg hb])
        have hn : ¬ d < 0 := by omega
        go_enter Try.func39, Try.ntmps39
        go_wp2
        go_ret
        exact ⟨ret_int hv.out, HB.out⟩
    · by_cases hb : 4294967296 ≤ t + 8589934592
      · have hv : Hid (at_ + (t + 8589934592 - 8589934592) = Z) := Lib.hid (by rw [HV.out, if_neg (by simp), if_pos hb])
        go_enter Try.func39, Try.ntmps39
        go_wp2
        go_ret
        exact ⟨ret_int (by rw [← hv.out]; omega), HB.out⟩
      · have hv : Hid (at_ + (t + 8589934592) = Z) := Lib.hid (by rw [HV.out, if_neg (by simp), if_neg hb])
        go_enter Try.func39, Try.ntmps39
        go_wp2
        go_ret
        exact ⟨ret_int (by rw [← hv.out]), HB.out⟩
  · have hv : Hid (at_ = Z) := Lib.hid (by rw [HV.out]; rfl)
    go_enter Try.func39, Try.ntmps39
    go_wp2
    go_ret
    exact ⟨ret_int hv.out, HB.out⟩

theorem noTime_any (n : Int) (w : World) : Calls Try.prog 23 #[.int .i64 n] w fun e w' => e = .returned (.bool (outB n (-1000000000000000) 1000000000000000)) ∧ w = w' := by
  go_enter Try.func23, Try.ntmps23
  go_wp2_with (go_at_call 18; refine (out_any _ _ _ _).mono ?_; rintro e w' ⟨rfl, rfl⟩)
  go_ret
  exact ⟨rfl, rfl⟩
theorem isTime_any (n : Int) (w : World) : Calls Try.prog 26 #[.int .i64 n] w fun e w' => e = .returned (.bool (!outB n (-1000000000000000) 1000000000000000)) ∧ w = w' := by
  by_cases h : -1000000000000000 ≤ n
  · go_enter Try.func26, Try.ntmps26
    go_wp2
    go_ret
    exact ⟨ret_bool (by rw [Bool.eq_iff_iff]; simp [outB]; omega), rfl⟩
  · have h' : decide (-1000000000000000 ≤ n) = false := decide_eq_false h
    go_enter Try.func26, Try.ntmps26
    go_wp2
    go_ret
    exact ⟨ret_bool (by rw [Bool.eq_iff_iff]; simp [outB]; omega), rfl⟩
end Go.Proofs.Ytaknkldbdijkeaa

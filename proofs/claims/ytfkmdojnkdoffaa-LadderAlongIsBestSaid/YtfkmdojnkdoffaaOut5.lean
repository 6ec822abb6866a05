/- The reference's within, of chapter 5. -/
import Derived.Test.YtfkmdojnkdoffaaLib
namespace Go.Proofs.Ytfkmdojnkdoffaa
open Go.RowKit

theorem within5_any (n lo hi : Int) (w : World) :
    Calls Try.prog 25 #[.int .i64 n, .int .i64 lo, .int .i64 hi] w fun e w' => e = .returned (.bool (!outB n lo hi)) ∧ w = w' := by
  by_cases h : lo ≤ n
  · go_enter Try.func25, Try.ntmps25
    go_wp2
    go_ret
    exact ⟨ret_bool (by rw [Bool.eq_iff_iff]; simp [outB]; omega), rfl⟩
  · have h' : decide (lo ≤ n) = false := decide_eq_false h
    go_enter Try.func25, Try.ntmps25
    go_wp2
    go_ret
    exact ⟨ret_bool (by rw [Bool.eq_iff_iff]; simp [outB]; omega), rfl⟩
end Go.Proofs.Ytfkmdojnkdoffaa

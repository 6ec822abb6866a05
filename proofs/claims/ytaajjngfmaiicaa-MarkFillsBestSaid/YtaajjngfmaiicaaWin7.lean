/- The reference's within, of chapter 7. -/
import Derived.Test.YtaajjngfmaiicaaLib
namespace Go.Proofs.Ytaajjngfmaiicaa
open Go.RowKit

theorem within_any (n lo hi : Int) (w : World) :
    Calls Try.prog 14 #[.int .i64 n, .int .i64 lo, .int .i64 hi] w fun e w' => e = .returned (.bool (!outB n lo hi)) ∧ w = w' := by
  by_cases h : n < lo
  · go_enter Try.func14, Try.ntmps14
    go_wp2
    go_ret
    exact ⟨by simp [outB, h], rfl⟩
  · go_enter Try.func14, Try.ntmps14
    go_wp2
    go_ret
    exact ⟨ret_bool (by rw [Bool.eq_iff_iff]; simp [outB]; omega), rfl⟩
end Go.Proofs.Ytaajjngfmaiicaa

/- The reference's within, of chapter 5. -/
import Derived.Test.YtmgbmoiefgfemaaDoorLib
namespace Go.Proofs.YtmgbmoiefgfemaaDoor
open Go.RowKit

theorem withinE_any (n lo hi : Int) (w : World) :
    Calls Tryd.prog 41 #[.int .i64 n, .int .i64 lo, .int .i64 hi] w fun e w' => e = .returned (.bool (!outB n lo hi)) ∧ w = w' := by
  by_cases h : lo ≤ n
  · go_enter Tryd.func41, Tryd.ntmps41
    go_wp2
    go_ret
    exact ⟨ret_bool (by rw [Bool.eq_iff_iff]; simp [outB]; omega), rfl⟩
  · have h' : decide (lo ≤ n) = false := decide_eq_false h
    go_enter Tryd.func41, Tryd.ntmps41
    go_wp2
    go_ret
    exact ⟨ret_bool (by rw [Bool.eq_iff_iff]; simp [outB]; omega), rfl⟩
end Go.Proofs.YtmgbmoiefgfemaaDoor

/- Below, of chapter 10. -/
import Derived.Test.YteepbfpcdhdgfaaDoorLib
namespace Go.Proofs.YteepbfpcdhdgfaaDoor
open Go.RowKit

theorem below_any (x n : Int) (w : World) (hn : 1 ≤ n) (hn1 : n ≤ 9223372036854775807) (hx : -9223372036854775808 ≤ x ∧ x ≤ 9223372036854775807) :
    Calls Tryd.prog 8 #[.int .i64 x, .int .i64 n] w fun e w' => (∃ z : Int, e = .returned (.int .i64 z) ∧ 0 ≤ z ∧ z < n) ∧ w = w' := by
  have h1 := Int.tmod_lt_of_pos x (show 0 < n by omega)
  have h2 : -n < x.tmod n := by
    have := Int.natAbs_tmod x n
    have h3 : (x.tmod n).natAbs < n.natAbs := by rw [this]; exact Nat.mod_lt _ (by omega)
    omega
  obtain ⟨hx0, hx1⟩ := hx
  have e1 : ¬ n = 0 := by omega
  obtain ⟨z, hz⟩ : ∃ z, z = x.tmod n := ⟨_, rfl⟩
  rw [← hz] at h1 h2
  have hz' : x.tmod n = z := hz.symm
  clear hz
  by_cases h0 : z < 0
  · go_enter Tryd.func8, Tryd.ntmps8
    go_wp2
    go_ret
    exact ⟨⟨_, rfl, by omega, by omega⟩, rfl⟩
  · go_enter Tryd.func8, Tryd.ntmps8
    go_wp2
    go_ret
    exact ⟨⟨_, rfl, by omega, by omega⟩, rfl⟩
end Go.Proofs.YteepbfpcdhdgfaaDoor

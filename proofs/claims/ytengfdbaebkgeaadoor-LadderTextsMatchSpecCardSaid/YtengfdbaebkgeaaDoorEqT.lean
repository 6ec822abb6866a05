/- slices.Equal at two slices that read as the same list. -/
import Derived.Test.YtengfdbaebkgeaaDoorRenD
import Derived.Laws.StructEq
namespace Go.Proofs.YtengfdbaebkgeaaDoor
open Go.RowKit

theorem stoodT : Tryd.prog.stoodInHeld 28 = false := by kernel_rfl
theorem guardT : Tryd.prog.eqGuardType Tryd.prog.depth 28 = false := by kernel_rfl

theorem neqSameT (x : Rng) (w : World) : (binOp .neq 28 (.agg #[.string x.na, .int .i64 x.ra, .int .i64 x.he, .int .i64 x.qu]) (.agg #[.string x.na, .int .i64 x.ra, .int .i64 x.he, .int .i64 x.qu])).run Tryd.prog w = .ok (.bool false) w := by
  have h1 := stoodT
  simp [go_sem, h1]

set_option maxHeartbeats 1000000 in
theorem equalSameT (w : World) (l : List Rng) (v u : Value) (hl : Sl w 4 encR v l) (hm : Sl w 4 encR u l) :
    Calls Tryd.prog 7 #[v, u] w fun e w' => e = .returned (.bool true) ∧ Below w.heap.size w w' := by
  obtain ⟨ao, cap, rfl, hcap, hmax, hnil, hel⟩ := hl
  obtain ⟨bo, bap, rfl, hbap, hbax, hbil, hem⟩ := hm
  unfold maxLen at hmax hbax
  go_enter Tryd.func7, Tryd.ntmps7
  go_wp2
  go_loopg [5, 13] l.length (fun gg _ s13 wr => ∃ kk : Nat, kk ≤ l.length ∧ l.length - kk ≤ gg ∧ s13 = .int .i64 kk ∧ (∃ n, wr = w.drewN n))
  case atStart => exact ⟨0, Nat.zero_le _, by omega, rfl, ⟨0, rfl⟩⟩
  case round =>
    obtain ⟨kk, hkk, hg, rfl, ⟨n, rfl⟩⟩ := hrel
    by_cases hlt : kk < l.length
    · have hltz : (kk : Int) < (l.length : Int) := by omega
      obtain ⟨x, hx⟩ : ∃ x, l[kk]? = some x := ⟨l[kk], by simp [hlt]⟩
      obtain ⟨b, off, rfl, hc⟩ := hel kk x hx
      obtain ⟨b', off', rfl, hd⟩ := hem kk x hx
      have c0 : w.cell? ⟨b, off + kk * 4, none⟩ = _ := hc 0 _ rfl
      have d0 : w.cell? ⟨b', off' + kk * 4, none⟩ = _ := hd 0 _ rfl
      have c1 := hc 1 _ rfl
      have c2 := hc 2 _ rfl
      have c3 := hc 3 _ rfl
      have d1 := hd 1 _ rfl
      have d2 := hd 2 _ rfl
      have d3 := hd 3 _ rfl
      have hg := guardT
      have hne := fun w => neqSameT x w
      clear hx hc hd hel hem
      go_upto_region 6 with (fail)
      go_quiet (fail)
      go_wp2
      go_roundg (l.length - (kk + 1))
      case measure => omega
      case rel => exact ⟨kk + 1, by omega, by omega, by go_num, ⟨_, rfl⟩⟩
    · have hltz : ¬ (kk : Int) < (l.length : Int) := by omega
      clear hel hem
      go_wp2
      go_ret
      exact ⟨rfl, below_drewN (Below.refl _ _) _⟩
end Go.Proofs.YtengfdbaebkgeaaDoor

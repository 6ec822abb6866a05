/- slices.Equal at two slices that read as the same list. -/
import Derived.Test.YteijcombdlgioaaDueDef
import Derived.Laws.StructEq
namespace Go.Proofs.Yteijcombdlgioaa
open Go.RowKit

theorem stoodP : Try.prog.stoodInHeld 34 = false := by kernel_rfl
theorem guardP : Try.prog.eqGuardType Try.prog.depth 34 = false := by kernel_rfl

theorem neqSameP (x : Prt) (w : World) : (binOp .neq 34 (.agg #[.string x.ad, .int .i64 x.fr, .int .i64 x.ln]) (.agg #[.string x.ad, .int .i64 x.fr, .int .i64 x.ln])).run Try.prog w = .ok (.bool false) w := by
  have h1 := stoodP
  simp [go_sem, h1]

set_option maxHeartbeats 1000000 in
theorem equalSameP (w : World) (l : List Prt) (v u : Value) (hl : Sl w 3 encP v l) (hm : Sl w 3 encP u l) :
    Calls Try.prog 30 #[v, u] w fun e w' => e = .returned (.bool true) ∧ Below w.heap.size w w' := by
  obtain ⟨ao, cap, rfl, hcap, hmax, hnil, hel⟩ := hl
  obtain ⟨bo, bap, rfl, hbap, hbax, hbil, hem⟩ := hm
  unfold maxLen at hmax hbax
  go_enter Try.func30, Try.ntmps30
  go_wp2
  go_loopg [5, 13] l.length (fun gg _ s13 wr => ∃ kk : Nat, kk ≤ l.length ∧ l.length - kk ≤ gg ∧ s13 = .int .i64 kk ∧ (∃ n, wr = w.drewN n))
  case atStart => exact ⟨0, Nat.zero_le _, by omega, rfl, ⟨0, rfl⟩⟩
  case round =>
    obtain ⟨kk, hkk, hg, rfl, ⟨n, rfl⟩⟩ := hrel
    by_cases hlt : kk < l.length
    · have hltz : (kk : Int) < (l.length : Int) := by omega
      obtain ⟨x, hx⟩ : ∃ x, l[kk]? = some x := ⟨l[kk], by simp [hlt]⟩
      obtain ⟨b, off, rfl, hc⟩ := hel kk x hx
      obtain ⟨b', off', rfl, hd⟩ := hem kk x hx
      have c0 : w.cell? ⟨b, off + kk * 3, none⟩ = _ := hc 0 _ rfl
      have d0 : w.cell? ⟨b', off' + kk * 3, none⟩ = _ := hd 0 _ rfl
      have c1 := hc 1 _ rfl
      have c2 := hc 2 _ rfl
      have d1 := hd 1 _ rfl
      have d2 := hd 2 _ rfl
      have hg := guardP
      have hne := fun w => neqSameP x w
      clear hx hc hd hel hem
      go_upto_region 6 with (fail)
      go_quiet (fail)
      go_wp2
      go_roundg (l.length - (kk + 1))
      case measure => omega
      case rel => exact ⟨kk + 1, by omega, by omega, by go_num, ⟨_, rfl⟩⟩
    · have hltz : ¬ (kk : Int) < (l.length : Int) := by omega
      clear hel hem
      go_wp2
      go_ret
      exact ⟨rfl, below_drewN (Below.refl _ _) _⟩
end Go.Proofs.Yteijcombdlgioaa

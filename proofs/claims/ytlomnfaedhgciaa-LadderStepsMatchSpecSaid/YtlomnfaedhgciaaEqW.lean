/- slices.Equal at two slices that read as the same list. -/
import Derived.Test.YtlomnfaedhgciaaWrgD
import Derived.Laws.StructEq
namespace Go.Proofs.Ytlomnfaedhgciaa
open Go.RowKit

theorem stoodW : Try.prog.stoodInHeld 35 = false := by kernel_rfl
theorem guardW : Try.prog.eqGuardType Try.prog.depth 35 = false := by kernel_rfl

theorem neqSameW (x : Flw) (w : World) : (binOp .neq 35 (.agg #[.int .i64 x.ki, .int .i64 x.at_]) (.agg #[.int .i64 x.ki, .int .i64 x.at_])).run Try.prog w = .ok (.bool false) w := by
  have h1 := stoodW
  simp [go_sem, h1]

set_option maxHeartbeats 1000000 in
theorem equalSameW (w : World) (l : List Flw) (v u : Value) (hl : Sl w 2 encW v l) (hm : Sl w 2 encW u l) :
    Calls Try.prog 14 #[v, u] w fun e w' => e = .returned (.bool true) ∧ Below w.heap.size w w' := by
  obtain ⟨ao, cap, rfl, hcap, hmax, hnil, hel⟩ := hl
  obtain ⟨bo, bap, rfl, hbap, hbax, hbil, hem⟩ := hm
  unfold maxLen at hmax hbax
  go_enter Try.func14, Try.ntmps14
  go_wp2
  go_loopg [5, 13] l.length (fun gg _ s13 wr => ∃ kk : Nat, kk ≤ l.length ∧ l.length - kk ≤ gg ∧ s13 = .int .i64 kk ∧ (∃ n, wr = w.drewN n))
  case atStart => exact ⟨0, Nat.zero_le _, by omega, rfl, ⟨0, rfl⟩⟩
  case round =>
    obtain ⟨kk, hkk, hg, rfl, ⟨n, rfl⟩⟩ := hrel
    by_cases hlt : kk < l.length
    · have hltz : (kk : Int) < (l.length : Int) := by omega
      obtain ⟨x, hx⟩ : ∃ x, l[kk]? = some x := ⟨l[kk], by simp [hlt]⟩
      obtain ⟨b, off, rfl, hc⟩ := hel kk x hx
      obtain ⟨b', off', rfl, hd⟩ := hem kk x hx
      have c0 : w.cell? ⟨b, off + kk * 2, none⟩ = _ := hc 0 _ rfl
      have d0 : w.cell? ⟨b', off' + kk * 2, none⟩ = _ := hd 0 _ rfl
      have c1 := hc 1 _ rfl
      have d1 := hd 1 _ rfl
      have hg := guardW
      have hne := fun w => neqSameW x w
      clear hx hc hd hel hem
      go_upto_region 6 with (fail)
      go_quiet (fail)
      go_wp2
      go_roundg (l.length - (kk + 1))
      case measure => omega
      case rel => exact ⟨kk + 1, by omega, by omega, by go_num, ⟨_, rfl⟩⟩
    · have hltz : ¬ (kk : Int) < (l.length : Int) := by omega
      clear hel hem
      go_wp2
      go_ret
      exact ⟨rfl, below_drewN (Below.refl _ _) _⟩
end Go.Proofs.Ytlomnfaedhgciaa

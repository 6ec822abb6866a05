/- slices.Equal at two slices that read as the same list. -/
import Derived.Test.YtmgbmoiefgfemaaDoorTxtE
import Derived.Laws.StructEq
namespace Go.Proofs.YtmgbmoiefgfemaaDoor
open Go.RowKit

theorem stoodG : Tryd.prog.stoodInHeld 60 = false := by kernel_rfl
theorem guardG : Tryd.prog.eqGuardType Tryd.prog.depth 60 = false := by kernel_rfl

theorem neqSameG (x : Gt) (w : World) : (binOp .neq 60 (.agg #[.int .i64 x.ti, .string x.ca, .string x.ke]) (.agg #[.int .i64 x.ti, .string x.ca, .string x.ke])).run Tryd.prog w = .ok (.bool false) w := by
  have h1 := stoodG
  simp [go_sem, h1]

set_option maxHeartbeats 1000000 in
theorem equalSameG (w : World) (l : List Gt) (v u : Value) (hl : Sl w 3 encT v l) (hm : Sl w 3 encT u l) :
    Calls Tryd.prog 32 #[v, u] w fun e w' => e = .returned (.bool true) ∧ Below w.heap.size w w' := by
  obtain ⟨ao, cap, rfl, hcap, hmax, hnil, hel⟩ := hl
  obtain ⟨bo, bap, rfl, hbap, hbax, hbil, hem⟩ := hm
  unfold maxLen at hmax hbax
  go_enter Tryd.func32, Tryd.ntmps32
  go_wp2
  go_loopg [5, 13] l.length (fun gg _ s13 wr => ∃ kk : Nat, kk ≤ l.length ∧ l.length - kk ≤ gg ∧ s13 = .int .i64 kk ∧ (∃ n, wr = w.drewN n))
  case atStart => exact ⟨0, Nat.zero_le _, by omega, rfl, ⟨0, rfl⟩⟩
  case round =>
    obtain ⟨kk, hkk, hg, rfl, ⟨n, rfl⟩⟩ := hrel
    by_cases hlt : kk < l.length
    · have hltz : (kk : Int) < (l.length : Int) := by omega
      obtain ⟨x, hx⟩ : ∃ x, l[kk]? = some x := ⟨l[kk], by simp [hlt]⟩
      obtain ⟨b, off, rfl, hc⟩ := hel kk x hx
      obtain ⟨b', off', rfl, hd⟩ := hem kk x hx
      have c0 : w.cell? ⟨b, off + kk * 3, none⟩ = _ := hc 0 _ rfl
      have d0 : w.cell? ⟨b', off' + kk * 3, none⟩ = _ := hd 0 _ rfl
      have c1 := hc 1 _ rfl
      have c2 := hc 2 _ rfl
      have d1 := hd 1 _ rfl
      have d2 := hd 2 _ rfl
      have hg := guardG
      have hne := fun w => neqSameG x w
      clear hx hc hd hel hem
      go_upto_region 6 with (fail)
      go_quiet (fail)
      go_wp2
      go_roundg (l.length - (kk + 1))
      case measure => omega
      case rel => exact ⟨kk + 1, by omega, by omega, by go_num, ⟨_, rfl⟩⟩
    · have hltz : ¬ (kk : Int) < (l.length : Int) := by omega
      clear hel hem
      go_wp2
      go_ret
      exact ⟨rfl, below_drewN (Below.refl _ _) _⟩
end Go.Proofs.YtmgbmoiefgfemaaDoor

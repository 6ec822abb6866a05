/- slices.Equal of ints at two slices that read as the same list. -/
import Derived.Test.YtmgbmoiefgfemaaDoorLib
namespace Go.Proofs.YtmgbmoiefgfemaaDoor
open Go.RowKit

set_option maxHeartbeats 1000000 in
theorem equalSameI (w : World) (l : List Int) (v u : Value) (hl : Sl w 1 encI v l) (hm : Sl w 1 encI u l) :
    Calls Tryd.prog 27 #[v, u] w fun e w' => e = .returned (.bool true) ∧ Below w.heap.size w w' := by
  obtain ⟨ao, cap, rfl, hcap, hmax, hnil, hel⟩ := hl
  obtain ⟨bo, bap, rfl, hbap, hbax, hbil, hem⟩ := hm
  unfold maxLen at hmax hbax
  go_enter Tryd.func27, Tryd.ntmps27
  go_wp2
  go_loopg [5, 13] l.length (fun gg _ s13 wr => ∃ kk : Nat, kk ≤ l.length ∧ l.length - kk ≤ gg ∧ s13 = .int .i64 kk ∧ (∃ n, wr = w.drewN n))
  case atStart => exact ⟨0, Nat.zero_le _, by omega, rfl, ⟨0, rfl⟩⟩
  case round =>
    obtain ⟨kk, hkk, hg, rfl, ⟨n, rfl⟩⟩ := hrel
    by_cases hlt : kk < l.length
    · have hltz : (kk : Int) < (l.length : Int) := by omega
      obtain ⟨x, hx⟩ : ∃ x, l[kk]? = some x := ⟨l[kk], by simp [hlt]⟩
      obtain ⟨b, off, rfl, hc⟩ := hel kk x hx
      obtain ⟨b', off', rfl, hd⟩ := hem kk x hx
      have c0 : w.cell? ⟨b, off + kk, none⟩ = some (.int .i64 x) := by simpa using hc 0 _ rfl
      have d0 : w.cell? ⟨b', off' + kk, none⟩ = some (.int .i64 x) := by simpa using hd 0 _ rfl
      clear hx hc hd hel hem
      go_upto_region 6 with (fail)
      go_quiet (fail)
      go_wp2
      go_roundg (l.length - (kk + 1))
      case measure => omega
      case rel => exact ⟨kk + 1, by omega, by omega, by go_num, ⟨_, rfl⟩⟩
    · have hltz : ¬ (kk : Int) < (l.length : Int) := by omega
      clear hel hem
      go_wp2
      go_ret
      exact ⟨rfl, below_drewN (Below.refl _ _) _⟩
end Go.Proofs.YtmgbmoiefgfemaaDoor

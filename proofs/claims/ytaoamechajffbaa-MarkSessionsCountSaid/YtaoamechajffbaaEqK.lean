/- slices.Equal at two slices that read as the same list. -/
import Derived.Test.YtaoamechajffbaaCntM
import Derived.Laws.StructEq
import Derived.ChangeKeysEq
namespace Go.Proofs.Ytaoamechajffbaa
open Go.RowKit

theorem stoodK : Try.prog.stoodInHeld 32 = false := by kernel_rfl
theorem guardK : Try.prog.eqGuardType Try.prog.depth 32 = false := by kernel_rfl

theorem arrSame (a b c d e : Int) (w : World) : (Op.equalIn 9999 30 (.agg #[.int .i64 a, .int .i64 b, .int .i64 c, .int .i64 d, .int .i64 e]) (.agg #[.int .i64 a, .int .i64 b, .int .i64 c, .int .i64 d, .int .i64 e])).run Try.prog w = .ok true w := by
  obtain ⟨i0, hi, _⟩ := info_parts infoI
  have h5 : List.range 5 = [0, 1, 2, 3, 4] := rfl
  rw [run_equalIn_array w 9998 _ _ Try.underlying30 hi, h5]
  simp [Op.eqItems, go_sem, cellsI]
theorem neqSameK (x : Cnt) (w : World) : (binOp .neq 32 (.agg #[.string x.ad, .int .i64 x.k0, .int .i64 x.k1, .int .i64 x.k2, .int .i64 x.k3, .int .i64 x.k4]) (.agg #[.string x.ad, .int .i64 x.k0, .int .i64 x.k1, .int .i64 x.k2, .int .i64 x.k3, .int .i64 x.k4])).run Try.prog w = .ok (.bool false) w := by
  have h1 := stoodK
  have h2 := arrSame x.k0 x.k1 x.k2 x.k3 x.k4
  simp [go_sem, h1, h2]

set_option maxHeartbeats 1000000 in
theorem equalSameK (w : World) (l : List Cnt) (v u : Value) (hl : Sl w 6 encK v l) (hm : Sl w 6 encK u l) :
    Calls Try.prog 8 #[v, u] w fun e w' => e = .returned (.bool true) ∧ Below w.heap.size w w' := by
  obtain ⟨ao, cap, rfl, hcap, hmax, hnil, hel⟩ := hl
  obtain ⟨bo, bap, rfl, hbap, hbax, hbil, hem⟩ := hm
  unfold maxLen at hmax hbax
  go_enter Try.func8, Try.ntmps8
  go_wp2
  go_loopg [5, 13] l.length (fun gg _ s13 wr => ∃ kk : Nat, kk ≤ l.length ∧ l.length - kk ≤ gg ∧ s13 = .int .i64 kk ∧ (∃ n, wr = w.drewN n))
  case atStart => exact ⟨0, Nat.zero_le _, by omega, rfl, ⟨0, rfl⟩⟩
  case round =>
    obtain ⟨kk, hkk, hg, rfl, ⟨n, rfl⟩⟩ := hrel
    by_cases hlt : kk < l.length
    · have hltz : (kk : Int) < (l.length : Int) := by omega
      obtain ⟨x, hx⟩ : ∃ x, l[kk]? = some x := ⟨l[kk], by simp [hlt]⟩
      obtain ⟨b, off, rfl, hc⟩ := hel kk x hx
      obtain ⟨b', off', rfl, hd⟩ := hem kk x hx
      have c0 : w.cell? ⟨b, off + kk * 6, none⟩ = _ := hc 0 _ rfl
      have d0 : w.cell? ⟨b', off' + kk * 6, none⟩ = _ := hd 0 _ rfl
      have c1 := hc 1 _ rfl
      have c2 := hc 2 _ rfl
      have c3 := hc 3 _ rfl
      have c4 := hc 4 _ rfl
      have c5 := hc 5 _ rfl
      have d1 := hd 1 _ rfl
      have d2 := hd 2 _ rfl
      have d3 := hd 3 _ rfl
      have d4 := hd 4 _ rfl
      have d5 := hd 5 _ rfl
      have hg := guardK
      have hne := fun w => neqSameK x w
      clear hx hc hd hel hem
      go_upto_region 6 with (fail)
      go_quiet (fail)
      go_wp2
      go_roundg (l.length - (kk + 1))
      case measure => omega
      case rel => exact ⟨kk + 1, by omega, by omega, by go_num, ⟨_, rfl⟩⟩
    · have hltz : ¬ (kk : Int) < (l.length : Int) := by omega
      clear hel hem
      go_wp2
      go_ret
      exact ⟨rfl, below_drewN (Below.refl _ _) _⟩
end Go.Proofs.Ytaoamechajffbaa

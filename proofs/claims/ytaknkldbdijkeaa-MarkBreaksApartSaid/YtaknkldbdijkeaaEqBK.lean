/- slices.Equal at breaks. -/
import Derived.Test.YtaknkldbdijkeaaCbK
import Derived.Laws.StructEq
namespace Go.Proofs.Ytaknkldbdijkeaa
open Go.RowKit

theorem stoodB : Try.prog.stoodInHeld 29 = false := by kernel_rfl
theorem guardB : Try.prog.eqGuardType Try.prog.depth 29 = false := by kernel_rfl

theorem neqRunB (x y : Brk) (w : World) : (binOp .neq 29 (.agg #[.int .i64 x.ev, .int .i64 x.be, .int .i64 x.en]) (.agg #[.int .i64 y.ev, .int .i64 y.be, .int .i64 y.en])).run Try.prog w = .ok (.bool (!decide (x = y))) w := by
  have h1 := stoodB
  cases x with | mk a b c => cases y with | mk a' b' c' =>
  by_cases ha : a = a' <;> by_cases hb : b = b' <;> by_cases hc : c = c' <;> simp [go_sem, h1, ha, hb, hc]

set_option maxHeartbeats 1000000 in
theorem equalB (w : World) (l m : List Brk) (v u : Value) (hl : Sl w 3 encB v l) (hm : Sl w 3 encB u m) :
    Calls Try.prog 10 #[v, u] w fun e w' => e = .returned (.bool (decide (l = m))) ∧ Below w.heap.size w w' := by
  obtain ⟨ao, cap, rfl, hcap, hmax, hnil, hel⟩ := hl
  obtain ⟨bo, bap, rfl, hbap, hbax, hbil, hem⟩ := hm
  unfold maxLen at hmax hbax
  by_cases hlen : l.length = m.length
  · have e0 : ((l.length : Int) != (m.length : Int)) = false := by simp [hlen]
    have HL := Lib.hid hlen
    clear hlen
    go_enter Try.func10, Try.ntmps10
    go_wp2
    go_loopg [5, 13] l.length (fun gg _ s13 wr => ∃ kk : Nat, kk ≤ l.length ∧ l.length - kk ≤ gg ∧ s13 = .int .i64 kk ∧ (∃ n, wr = w.drewN n) ∧ Aside (∀ j, j < kk → l[j]? = m[j]?))
    case atStart => exact ⟨0, Nat.zero_le _, by omega, rfl, ⟨0, rfl⟩, fun j hj => absurd hj (Nat.not_lt_zero _)⟩
    case round =>
      obtain ⟨kk, hkk, hg, rfl, ⟨n, rfl⟩, A⟩ := hrel
      by_cases hlt : kk < l.length
      · have hltz : (kk : Int) < (l.length : Int) := by omega
        have hltm : (kk : Int) < (m.length : Int) := by have := HL.out; omega
        obtain ⟨x, hx⟩ : ∃ x, l[kk]? = some x := ⟨l[kk], by simp [hlt]⟩
        obtain ⟨y, hy⟩ : ∃ y, m[kk]? = some y := ⟨m[kk]'(by omega), by simp⟩
        obtain ⟨b, off, rfl, hc⟩ := hel kk x hx
        obtain ⟨b', off', rfl, hd⟩ := hem kk y hy
        have c0 : w.cell? ⟨b, off + kk * 3, none⟩ = _ := hc 0 _ rfl
        have c1 := hc 1 _ rfl
        have c2 := hc 2 _ rfl
        have d0 : w.cell? ⟨b', off' + kk * 3, none⟩ = _ := hd 0 _ rfl
        have d1 := hd 1 _ rfl
        have d2 := hd 2 _ rfl
        have HX := Lib.hid hx
        have HY := Lib.hid hy
        clear hx hy hc hd hel hem
        have hg := guardB
        cases hxy : decide (x = y)
        case true =>
          have hne := fun w => (neqRunB x y w).trans (by rw [hxy]; rfl : _ = Result.ok (Value.bool false) w)
          have HXY := Lib.hid hxy
          clear hxy
          go_upto_region 6 with (fail)
          go_quiet (fail)
          go_wp2
          go_roundg (l.length - (kk + 1))
          case measure => omega
          case rel =>
            refine ⟨kk + 1, by omega, by omega, by go_num, ⟨_, rfl⟩, (show Aside _ from fun j hj => ?_)⟩
            by_cases e : j = kk
            · have := of_decide_eq_true HXY.out
              rw [e, HX.out, HY.out, this]
            · exact A.out j (by omega)
        case false =>
          have hne := fun w => (neqRunB x y w).trans (by rw [hxy]; rfl : _ = Result.ok (Value.bool true) w)
          have hlm : Hid (decide (l = m) = false) := Lib.hid (by
            rw [decide_eq_false_iff_not]
            intro e
            subst e
            have := HX.out.symm.trans HY.out
            simp at this
            simp [this] at hxy)
          clear hxy
          go_upto_region 6 with (fail)
          go_quiet (fail)
          go_wp2
          go_ret
          exact ⟨ret_bool hlm.out.symm, below_drewN (below_drewN (Below.refl _ _) _) _⟩
      · have hltz : ¬ (kk : Int) < (l.length : Int) := by omega
        have hlm : Hid (decide (l = m) = true) := Lib.hid (by
          rw [decide_eq_true_eq]
          apply List.ext_getElem?
          intro i
          by_cases h : i < kk
          · exact A.out i h
          · have := HL.out
            rw [List.getElem?_eq_none (by omega), List.getElem?_eq_none (by omega)])
        clear hel hem
        go_wp2
        go_ret
        exact ⟨ret_bool hlm.out.symm, below_drewN (Below.refl _ _) _⟩
  · have e0 : ((l.length : Int) != (m.length : Int)) = true := by simp; omega
    have hlm : Hid (decide (l = m) = false) := Lib.hid (by
      rw [decide_eq_false_iff_not]
      intro e
      exact hlen (by rw [e]))
    clear hlen hel hem
    go_enter Try.func10, Try.ntmps10
    go_wp2
    go_ret
    exact ⟨ret_bool hlm.out.symm, Below.refl _ _⟩
end Go.Proofs.Ytaknkldbdijkeaa

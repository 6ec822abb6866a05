/- Which of two choices is better, of the program and of the reference. -/
import Derived.Test.YtaajjngfmaiicaaFillL
import Derived.Test.YtaajjngfmaiicaaCmpN
namespace Go.Proofs.Ytaajjngfmaiicaa
open Go.RowKit

def betK (a1 a2 : Int) (A : List Int) (b1 b2 : Int) (B : List Int) : Bool :=
  if a1 ≠ b1 then decide (b1 < a1) else if a2 ≠ b2 then decide (b2 < a2) else if A.length ≠ B.length then decide (A.length < B.length) else decide (A < B)

set_option maxHeartbeats 1000000 in
theorem better_any (w : World) (a1 a2 b1 b2 : Int) (A B : List Int) (v u : Value) (hA : Sl w 1 encI v A) (hB : Sl w 1 encI u B) :
    Calls Try.prog 20 #[.agg #[.int .i64 a1, .int .i64 a2, v], .agg #[.int .i64 b1, .int .i64 b2, u]] w fun e w' => e = .returned (.bool (betK a1 a2 A b1 b2 B)) ∧ Below w.heap.size w w' := by
  have HK : Hid (betK a1 a2 A b1 b2 B = if a1 ≠ b1 then decide (b1 < a1) else if a2 ≠ b2 then decide (b2 < a2) else if A.length ≠ B.length then decide (A.length < B.length) else decide (A < B)) := Lib.hid rfl
  generalize betK a1 a2 A b1 b2 B = K at HK ⊢
  have HCM := Lib.hid (fun (W : World) (hb : Below w.heap.size w W) (h : A.length = B.length) => compare_any W A B v u (hA.below hb (Nat.le_refl _)) (hB.below hb (Nat.le_refl _)) h)
  have B2 := Lib.hid (((Below.refl w.heap.size w).alloc (Nat.le_refl _) (.cells #[.int .i64 a1, .int .i64 a2, v] 37)).alloc (by simp) (.cells #[.int .i64 b1, .int .i64 b2, u] 37))
  obtain ⟨ao, cap, rfl, hcap, hmax, hnil, hel⟩ := hA
  obtain ⟨bo, bap, rfl, hbap, hbax, hbil, hem⟩ := hB
  unfold maxLen at hmax hbax
  clear hel hem hnil hbil
  cases e1 : (a1 != b1)
  case true =>
    have hv : Hid (decide (b1 < a1) = K) := Lib.hid (by rw [HK.out, if_pos (by simpa using e1)])
    go_enter Try.func20, Try.ntmps20
    go_wp2
    go_ret
    exact ⟨ret_bool hv.out, B2.out⟩
  have HK2 := Lib.hid (HK.out.trans (if_neg (by simpa using e1)))
  clear HK
  cases e2 : (a2 != b2)
  case true =>
    have hv : Hid (decide (b2 < a2) = K) := Lib.hid (by rw [HK2.out, if_pos (by simpa using e2)])
    go_enter Try.func20, Try.ntmps20
    go_wp2
    go_ret
    exact ⟨ret_bool hv.out, B2.out⟩
  have HK3 := Lib.hid (HK2.out.trans (if_neg (by simpa using e2)))
  clear HK2
  by_cases e3 : A.length = B.length
  · have e3' : ((A.length : Int) != (B.length : Int)) = false := by rw [e3]; simp
    have HK4 := Lib.hid (HK3.out.trans (if_neg (by simpa using e3)))
    have HC2 := Lib.hid (HCM.out _ B2.out e3)
    clear e3
    go_enter Try.func20, Try.ntmps20
    go_wp2_with (go_at_call 28; refine HC2.out.mono ?_; rintro e w2 ⟨c, rfl, hc, rfl⟩; have HCC := Lib.hid hc; clear hc)
    go_ret
    exact ⟨ret_bool (by rw [HK4.out]; exact HCC.out), B2.out⟩
  · have e3' : ((A.length : Int) != (B.length : Int)) = true := by simpa using fun h => e3 (by omega)
    have hv : Hid (decide (A.length < B.length) = K) := Lib.hid (by rw [HK3.out, if_pos e3])
    clear e3
    go_enter Try.func20, Try.ntmps20
    go_wp2
    go_ret
    exact ⟨ret_bool (by rw [← hv.out]), B2.out⟩
end Go.Proofs.Ytaajjngfmaiicaa

/- MarkBreaksMatchSpec: Breaks is as specified. -/
import Derived.Test.YtaknkldbdijkeaaRbrk
import Derived.Test.YtaknkldbdijkeaaEqBK
import Derived.Test.YtaknkldbdijkeaaEqIL
import Derived.Test.YtaknkldbdijkeaaSum
namespace Go.Proofs.Ytaknkldbdijkeaa
open Go.RowKit

set_option maxRecDepth 100000 in
set_option maxHeartbeats 4000000 in
theorem brks_any (w : World) (l : List Hrd) (v : Value) (hl : Sl w 7 encH v l) :
    Calls Try.prog 4 #[v] w fun e w' => e = .returned (.bool true) ∧ Below w.heap.size w w' := by
  have HL := Lib.hid hl
  have H1 := Lib.hid (breaks_any w l v hl)
  have H2 := Lib.hid (fun W (h : Below w.heap.size w W) => breaksR_any W l v (HL.out.below h (Nat.le_refl _)))
  clear hl
  generalize brkL l = L at H1 H2
  generalize brkI l = I at H1 H2
  generalize brkF l = F at H1 H2
  go_enter Try.func4, Try.ntmps4
  go_wp2_with fail
  refine H1.out.mono ?_
  rintro e w1 ⟨v1, u1, rfl, hs1, hi1, hb1⟩
  have HB1 := Lib.hid hb1
  have HS1 := Lib.hid hs1
  have HI1 := Lib.hid hi1
  clear hb1 hs1 hi1
  go_wp2_with fail
  refine (H2.out _ HB1.out).mono ?_
  rintro e w2 ⟨v2, u2, rfl, hs2, hi2, hb2⟩
  have HB2 := Lib.hid (HB1.out.thru hb2)
  have HS2 := Lib.hid (HS1.out.below hb2 (Nat.le_refl _))
  have HI2 := Lib.hid (HI1.out.below hb2 (Nat.le_refl _))
  have HEB : Hid (Calls Try.prog 10 #[v1, v2] w2 fun e w' => e = .returned (.bool true) ∧ Below w2.heap.size w2 w') := Lib.hid ((equalB w2 L L v1 v2 HS2.out hs2).mono fun _ _ ⟨he, hb⟩ => ⟨he.trans (ret_bool (decide_eq_true rfl)), hb⟩)
  have HI3 := Lib.hid hi2
  have HEI := Lib.hid (fun W (h : Below w2.heap.size w2 W) => equalSameI W I u1 u2 (HI2.out.below h (Nat.le_refl _)) (HI3.out.below h (Nat.le_refl _)))
  clear hs2 hi2 hb2
  go_wp2_with (first | (go_at_call 10; refine HEB.out.mono ?_; rintro e w3 ⟨rfl, hb3⟩; have HB3 := Lib.hid hb3; clear hb3) | (go_at_call 14; refine (HEI.out _ HB3.out).mono ?_; rintro e w4 ⟨rfl, hb4⟩; have HB4 := Lib.hid ((HB2.out.thru HB3.out).thru hb4); clear hb4) | (go_at_call 11; refine (awake_any _).mono ?_; rintro e w5 ⟨rfl, hb5⟩))
  go_ret
  exact ⟨rfl, HB4.out.thru hb5⟩
end Go.Proofs.Ytaknkldbdijkeaa

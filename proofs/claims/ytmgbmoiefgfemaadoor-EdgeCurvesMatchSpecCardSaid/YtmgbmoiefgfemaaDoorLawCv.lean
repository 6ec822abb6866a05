/- The law of curves. -/
import Derived.Test.YtmgbmoiefgfemaaDoorCrvR
import Derived.Test.YtmgbmoiefgfemaaDoorBsfW
import Derived.Test.YtmgbmoiefgfemaaDoorEqIL
import Derived.Test.YtmgbmoiefgfemaaDoorNor1
namespace Go.Proofs.YtmgbmoiefgfemaaDoor
open Go.RowKit

set_option maxRecDepth 100000 in
set_option maxHeartbeats 4000000 in
theorem curves_any (w : World) (K : List ByteArray) (v : Value) (n r : Int) (hl : Sl w 1 encS v K) (hw : ∀ x, x ∈ K → x.size ≤ 9223372036854775807) (m : Int) (hm : w.cell? ⟨0, 0, none⟩ = some (.int .i64 m)) :
    Calls Tryd.prog 6 #[v, .int .i64 n, .int .i64 r] w fun e' w' => e' = .returned (.bool true) ∧ Below w.heap.size w w' := by
  have h0 := World.block_lt_of_cell? w _ hm
  have H1 := Lib.hid (fun (W : World) (h : Below w.heap.size w W) => Curve_any W K v n (hl.below h (Nat.le_refl _)) hw)
  have H2 := Lib.hid (fun (W : World) (h : Below w.heap.size w W) => CurveR_any W K v n (hl.below h (Nat.le_refl _)) hw)
  have H3 := Lib.hid (fun (W : World) (h : Below w.heap.size w W) => Best_any W K v r (hl.below h (Nat.le_refl _)) hw)
  have H4 := Lib.hid (fun (W : World) (h : Below w.heap.size w W) => BestR_any W K v r (hl.below h (Nat.le_refl _)) hw)
  have H5 := Lib.hid (fun (W : World) (h : Below w.heap.size w W) => awakeE_any W m ((h.cell (p := ⟨0, 0, none⟩) h0).trans hm))
  have H6 := Lib.hid (fun (W : World) (L : List Int) (u u' : Value) (h1 : Sl W 1 encI u L) (h2 : Sl W 1 encI u' L) => equalSameI W L u u' h1 h2)
  clear hl hw hm
  unfold SlPost at H1 H2
  unfold BsfP at H3 H4
  generalize crvA K n = L at H1 H2
  generalize crvF K n = f at H1 H2
  generalize crvF K r = g at H3 H4
  generalize bsV K r = z at H3 H4
  go_enter Tryd.func6, Tryd.ntmps6
  go_upto_region 2 with (go_at_call 25; refine (H1.out w (Below.refl _ _)).mono ?_; rintro e w1 ⟨v1, rfl, hs1, hb1⟩; have HS1 := Lib.hid hs1; have HB1 := Lib.hid hb1; clear hs1 hb1)
  clear H1
  go_upto_region 3 with (go_at_call 26; refine (H2.out w1 HB1.out).mono ?_; rintro e w2 ⟨v2, rfl, hs2, hb2⟩; have HS2 := Lib.hid hs2; have HB2 := Lib.hid (HB1.out.thru hb2); have HS3 := Lib.hid (HS1.out.below hb2 (Nat.le_refl _)); clear hs2 hb2)
  clear H2 HS1 HB1
  have HE := Lib.hid (H6.out w2 L v1 v2 HS3.out HS2.out)
  have HFF : (f != f) = false := by simp
  go_upto_region 5 with (go_at_call 27; refine HE.out.mono ?_; rintro e w3 ⟨rfl, hb3⟩; have HB3 := Lib.hid (HB2.out.thru hb3); clear hb3)
  clear HE HS3 HS2 HB2 H6 HFF
  go_upto_region 6 with (go_at_call 28; refine (H3.out w3 HB3.out).mono ?_; rintro e w4 ⟨rfl, hb4⟩; have HB4 := Lib.hid (HB3.out.thru hb4); clear hb4)
  clear H3 HB3
  go_upto_region 7 with (go_at_call 29; refine (H4.out w4 HB4.out).mono ?_; rintro e w5 ⟨rfl, hb5⟩; have HB5 := Lib.hid (HB4.out.thru hb5); clear hb5)
  clear H4 HB4
  have HGG : (g == g) = true := by simp
  have HZZ : (z == z) = true := by simp
  go_wp2_with (go_at_call 18; refine (H5.out w5 HB5.out).mono ?_; rintro e w6 ⟨rfl, hb6⟩; have HB6 := Lib.hid (HB5.out.thru hb6); clear hb6)
  go_ret
  exact ⟨rfl, HB6.out⟩
end Go.Proofs.YtmgbmoiefgfemaaDoor

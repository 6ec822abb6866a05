/- MarkPartsMatchSpec: CheckParts, Place, Programme, Stitched and Resume are as specified. -/
import Derived.Test.YteijcombdlgioaaRes2
import Derived.Test.YteijcombdlgioaaEqI
import Derived.Test.YteijcombdlgioaaSum
namespace Go.Proofs.Yteijcombdlgioaa
open Go.RowKit

set_option maxRecDepth 100000 in
set_option maxHeartbeats 4000000 in
theorem parts_any (w : World) (l : List Prt) (v : Value) (t : Int) (s : List Int) (u : Value) (hl : Sl w 3 encP v l) (hw : ∀ p, p ∈ l → WfP p) (hs : Sl w 1 encI u s) :
    Calls Try.prog 6 #[v, .int .i64 t, u] w fun e w' => e = .returned (.bool true) ∧ Below w.heap.size w w' := by
  have h1 := fun (W : World) (hb : Below w.heap.size w W) => placeP_any W l v t (hl.below hb (Nat.le_refl _)) hw
  have h2 := fun (W : World) (hb : Below w.heap.size w W) => placePR_any W l v t (hl.below hb (Nat.le_refl _)) hw
  have h3 := fun (W : World) (hb : Below w.heap.size w W) => checkParts_any W l v (hl.below hb (Nat.le_refl _)) hw
  have h4 := fun (W : World) (hb : Below w.heap.size w W) => checkPartsR_any W l v (hl.below hb (Nat.le_refl _)) hw
  have h5 := fun (W : World) (hb : Below w.heap.size w W) => programme_any W l v t (hl.below hb (Nat.le_refl _)) hw
  have h6 := fun (W : World) (hb : Below w.heap.size w W) => programmeR_any W l v t (hl.below hb (Nat.le_refl _)) hw
  have h7 := fun (W : World) (hb : Below w.heap.size w W) => stitched_any W l v t (hl.below hb (Nat.le_refl _)) hw
  have h8 := fun (W : World) (hb : Below w.heap.size w W) => stitchedR_any W l v t (hl.below hb (Nat.le_refl _)) hw
  have h9 := fun (W : World) (hb : Below w.heap.size w W) => resume_any W l v s u t (hl.below hb (Nat.le_refl _)) (hs.below hb (Nat.le_refl _)) hw
  have h10 := fun (W : World) (hb : Below w.heap.size w W) => resumeR_any W l v s u t (hl.below hb (Nat.le_refl _)) (hs.below hb (Nat.le_refl _)) hw
  unfold P3 at h1 h2
  unfold Pg3 at h5 h6
  unfold R2 at h9 h10
  clear hl hw hs
  generalize placeA l t = a1 at h1 h2
  generalize placeB l t = a2 at h1 h2
  generalize placeF l t = a3 at h1 h2 h5 h6
  generalize checkP l = a4 at h3 h4
  generalize progV l t = a5 at h5 h6
  generalize progB l t = a6 at h5 h6
  generalize stitL l t = a7 at h7 h8
  generalize timeF l t = a8 at h7 h8
  generalize resV l s t = a9 at h9 h10
  generalize resF l s t = a10 at h9 h10
  go_enter Try.func6, Try.ntmps6
  go_wp2_with (go_at_call 18; refine (h1 _ (Below.refl _ _)).mono ?_; rintro e w1 ⟨rfl, hb1⟩)
  go_wp2_with (go_at_call 19; refine (h2 _ hb1).mono ?_; rintro e w2 ⟨rfl, hb2⟩; have hc2 := hb1.thru hb2; clear hb1 hb2 h1 h2)
  go_wp2_with (go_at_call 20; refine (h3 _ hc2).mono ?_; rintro e w3 ⟨rfl, hb3⟩; have hc3 := hc2.thru hb3; clear hc2 hb3 h3)
  go_wp2_with (go_at_call 21; refine (h4 _ hc3).mono ?_; rintro e w4 ⟨rfl, hb4⟩; have hc4 := hc3.thru hb4; clear hc3 hb4 h4)
  go_wp2_with (go_at_call 15; refine (h5 _ hc4).mono ?_; rintro e w5 ⟨rfl, hb5⟩; have hc5 := hc4.thru hb5; clear hc4 hb5 h5)
  go_wp2_with (go_at_call 22; refine (h6 _ hc5).mono ?_; rintro e w6 ⟨rfl, hb6⟩; have hc6 := hc5.thru hb6; clear hc5 hb6 h6)
  cases a6
  all_goals
    go_wp2_with (go_at_call 16; refine (h7 _ hc6).mono ?_; rintro e w7 ⟨v7, rfl, hs7, hb7⟩; have hc7 := hc6.thru hb7; clear hc6 hb7 h7)
    go_wp2_with (go_at_call 23; refine (h8 _ hc7).mono ?_; rintro e w8 ⟨v8, rfl, hs8, hb8⟩; have hc8 := hc7.thru hb8; have hs78 := hs7.below hb8 (Nat.le_refl _); clear hc7 hb8 h8 hs7)
    go_wp2_with (go_at_call 17; refine (h9 _ hc8).mono ?_; rintro e w9 ⟨rfl, hb9⟩; have hc9 := hc8.thru hb9; have hs79 := hs78.below hb9 (Nat.le_refl _); have hs89 := hs8.below hb9 (Nat.le_refl _); clear hc8 hb9 h9 hs78 hs8)
    go_wp2_with (go_at_call 24; refine (h10 _ hc9).mono ?_; rintro e w10 ⟨rfl, hb10⟩; have hc10 := hc9.thru hb10; have hq := equalSameI w10 a7 v7 v8 (hs79.below hb10 (Nat.le_refl _)) (hs89.below hb10 (Nat.le_refl _)); clear hc9 hb10 h10 hs79 hs89)
    go_wp2_with (first | (go_at_call 25; refine hq.mono ?_; rintro e w11 ⟨rfl, hb11⟩; have hc11 := hc10.thru hb11) | (go_at_call 13; refine (awake_any _).mono ?_; rintro e w12 ⟨rfl, hb12⟩))
    go_ret
    exact ⟨rfl, hc11.thru hb12⟩
end Go.Proofs.Yteijcombdlgioaa

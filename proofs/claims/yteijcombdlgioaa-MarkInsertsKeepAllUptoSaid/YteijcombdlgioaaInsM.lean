/- MarkInsertsMatchSpec: Inserted and Replaced are as specified. -/
import Derived.Test.YteijcombdlgioaaRep2
import Derived.Test.YteijcombdlgioaaEqP
import Derived.Test.YteijcombdlgioaaSum
namespace Go.Proofs.Yteijcombdlgioaa
open Go.RowKit

theorem WfS.below {w W : World} {y : AdS} (h : WfS w y) (hb : Below w.heap.size w W) : WfS W y := ⟨h.1.below hb (Nat.le_refl _), h.2⟩

set_option maxRecDepth 100000 in
set_option maxHeartbeats 4000000 in
theorem insertsM_any (w : World) (P : Int) (at_ : List Int) (u : Value) (bl : List Brk) (ub : Value) (ads : List AdS) (v : Value) (hs : Sl w 1 encI u at_) (hB : Sl w 3 encB ub bl) (hl : Sl w 1 encS v ads) (hw : ∀ y, y ∈ ads → WfS w y) (hcnt : cntS ads ≤ 1000000000) :
    Calls Try.prog 9 #[.int .i64 P, u, ub, v] w fun e w' => e = .returned (.bool true) ∧ Below w.heap.size w w' := by
  have h1 := fun (W : World) (hb : Below w.heap.size w W) => inserted_any W P at_ u ads v (hs.below hb (Nat.le_refl _)) (hl.below hb (Nat.le_refl _)) (fun y hy => (hw y hy).below hb) hcnt
  have h2 := fun (W : World) (hb : Below w.heap.size w W) => insertedR_any W P at_ u ads v (hs.below hb (Nat.le_refl _)) (hl.below hb (Nat.le_refl _)) (fun y hy => (hw y hy).below hb) hcnt
  have h3 := fun (W : World) (hb : Below w.heap.size w W) => replaced_any W P bl ub ads v (hB.below hb (Nat.le_refl _)) (hl.below hb (Nat.le_refl _)) (fun y hy => (hw y hy).below hb) hcnt
  have h4 := fun (W : World) (hb : Below w.heap.size w W) => replacedR_any W P bl ub ads v (hB.below hb (Nat.le_refl _)) (hl.below hb (Nat.le_refl _)) (fun y hy => (hw y hy).below hb) hcnt
  clear hs hB hl hw hcnt
  generalize insRL P at_ ads = a1 at h1 h2
  generalize insRF P at_ ads = a2 at h1 h2
  generalize repRL P bl ads = a3 at h3 h4
  generalize repRF P bl ads = a4 at h3 h4
  go_enter Try.func9, Try.ntmps9
  go_wp2_with (go_at_call 27; refine (h1 _ (Below.refl _ _)).mono ?_; rintro e w1 ⟨v1, rfl, hs1, hb1⟩)
  go_wp2_with (go_at_call 28; refine (h2 _ hb1).mono ?_; rintro e w2 ⟨v2, rfl, hs2, hb2⟩; have hc2 := hb1.thru hb2; have hs12 := hs1.below hb2 (Nat.le_refl _); clear hb1 hb2 h1 h2 hs1)
  go_wp2_with (go_at_call 26; refine (h3 _ hc2).mono ?_; rintro e w3 ⟨v3, rfl, hs3, hb3⟩; have hc3 := hc2.thru hb3; have hs13 := hs12.below hb3 (Nat.le_refl _); have hs23 := hs2.below hb3 (Nat.le_refl _); clear hb3 h3 hs12 hs2 hc2)
  go_wp2_with (go_at_call 29; refine (h4 _ hc3).mono ?_; rintro e w4 ⟨v4, rfl, hs4, hb4⟩; have hc4 := hc3.thru hb4; have hq1 := equalSameP w4 a1 v1 v2 (hs13.below hb4 (Nat.le_refl _)) (hs23.below hb4 (Nat.le_refl _)); have hs34 := hs3.below hb4 (Nat.le_refl _); clear hb4 h4 hs13 hs23 hs3 hc3)
  go_wp2_with (go_at_call 30; refine hq1.mono ?_; rintro e w5 ⟨rfl, hb5⟩; have hc5 := hc4.thru hb5; have hq2 := equalSameP w5 a3 v3 v4 (hs34.below hb5 (Nat.le_refl _)) (hs4.below hb5 (Nat.le_refl _)); clear hq1 hb5 hc4 hs34 hs4)
  go_wp2_with (first | (go_at_call 30; refine hq2.mono ?_; rintro e w6 ⟨rfl, hb6⟩; have hc6 := hc5.thru hb6; clear hq2 hb6) | (go_at_call 13; refine (awake_any _).mono ?_; rintro e w7 ⟨rfl, hb7⟩))
  go_ret
  exact ⟨rfl, hc6.thru hb7⟩
end Go.Proofs.Yteijcombdlgioaa

/- The law of checks. -/
import Derived.Test.YtmgbmoiefgfemaaDoorChkD
import Derived.Test.YtmgbmoiefgfemaaDoorChkDR
import Derived.Test.YtmgbmoiefgfemaaDoorNor1
namespace Go.Proofs.YtmgbmoiefgfemaaDoor
open Go.RowKit

set_option maxRecDepth 100000 in
set_option maxHeartbeats 8000000 in
theorem checks_any (w : World) (c : List Cch) (r : List Crl) (e : List Rel) (l : List Pur) (vc vr ve vp : Value) (hc : Sl w 4 encC vc c) (hr : Sl w 4 encU vr r) (he : Sl w 4 encL ve e) (hl : Sl w 2 encG vp l) (hwc : ∀ x, x ∈ c → WfC x) (hwr : ∀ x, x ∈ r → WfU x) (hwe : ∀ x, x ∈ e → WfL x) (hw : ∀ x, x ∈ l → WfG x)
    (m : Int) (hm : w.cell? ⟨0, 0, none⟩ = some (.int .i64 m)) :
    Calls Tryd.prog 4 #[.agg #[vc, vr, ve, vp]] w fun e' w' => e' = .returned (.bool true) ∧ Below w.heap.size w w' := by
  have h0 := World.block_lt_of_cell? w _ hm
  have H1 := Lib.hid (fun (W : World) (h : Below w.heap.size w W) => checkC_any W c vc (hc.below h (Nat.le_refl _)) hwc)
  have H2 := Lib.hid (fun (W : World) (h : Below w.heap.size w W) => checkCR_any W c vc (hc.below h (Nat.le_refl _)) hwc)
  have H3 := Lib.hid (fun (W : World) (h : Below w.heap.size w W) => checkD_any W c r e l vc vr ve vp (hc.below h (Nat.le_refl _)) (hr.below h (Nat.le_refl _)) (he.below h (Nat.le_refl _)) (hl.below h (Nat.le_refl _)) hwc hwr hwe hw)
  have H4 := Lib.hid (fun (W : World) (h : Below w.heap.size w W) => checkDR_any W c r e l vc vr ve vp (hc.below h (Nat.le_refl _)) (hr.below h (Nat.le_refl _)) (he.below h (Nat.le_refl _)) (hl.below h (Nat.le_refl _)) hwc hwr hwe hw)
  have H5 := Lib.hid (fun (W : World) (h : Below w.heap.size w W) => awakeE_any W m ((h.cell (p := ⟨0, 0, none⟩) h0).trans hm))
  obtain ⟨co, cp, rfl, _⟩ := hc
  obtain ⟨ro, rp, rfl, _⟩ := hr
  obtain ⟨eo, ep, rfl, _⟩ := he
  obtain ⟨lo, lp, rfl, _⟩ := hl
  obtain ⟨vc, hvc⟩ : ∃ v, v = Value.slice co c.length cp := ⟨_, rfl⟩
  obtain ⟨vr, hvr⟩ : ∃ v, v = Value.slice ro r.length rp := ⟨_, rfl⟩
  obtain ⟨ve, hve⟩ : ∃ v, v = Value.slice eo e.length ep := ⟨_, rfl⟩
  obtain ⟨vp, hvp⟩ : ∃ v, v = Value.slice lo l.length lp := ⟨_, rfl⟩
  rw [← hvc] at H1 H2
  rw [← hvc, ← hvr, ← hve, ← hvp] at H3 H4 ⊢
  generalize checkC c = C at H1 H2
  generalize checkD c r e l = D at H3 H4
  have HV := Lib.hid (And.intro hvc (And.intro hvr (And.intro hve hvp)))
  clear hvc hvr hve hvp hwc hwr hwe hw hm
  obtain ⟨w5, hw5⟩ : ∃ w5, w5 = w.alloc (.cells #[vc, vr, ve, vp] 40) := ⟨_, rfl⟩
  have hb5 : Below w.heap.size w w5 := by rw [hw5]; exact (Below.refl _ _).alloc (Nat.le_refl _) _
  have hd5 : w5.heap[w.heap.size]? = some (.cells #[vc, vr, ve, vp] 40 (0, 0)) := by rw [hw5]; exact block_new w _
  have HW5 := Lib.hid hw5
  have HB5 := Lib.hid hb5
  have HD5 := Lib.hid hd5
  have hg5 : w.heap.size < w5.heap.size := by rw [hw5]; simp
  clear hw5 hb5 hd5
  go_enter Tryd.func4, Tryd.ntmps4
  go_upto_region 1 with (fail)
  rw [← HW5.out]
  obtain ⟨g, hgq⟩ : ∃ g, g = w.heap.size := ⟨_, rfl⟩
  have d0 : w5.cell? ⟨g, 0, none⟩ = some vc := by rw [hgq]; exact (cell_of_block (i := 0) HD5.out).trans rfl
  have d1 : w5.cell? ⟨g, 1, none⟩ = some vr := by rw [hgq]; exact (cell_of_block (i := 1) HD5.out).trans rfl
  have d2 : w5.cell? ⟨g, 2, none⟩ = some ve := by rw [hgq]; exact (cell_of_block (i := 2) HD5.out).trans rfl
  have d3 : w5.cell? ⟨g, 3, none⟩ = some vp := by rw [hgq]; exact (cell_of_block (i := 3) HD5.out).trans rfl
  rw [← hgq] at hg5 ⊢
  clear hgq HW5 HD5
  have H1' := Lib.hid (fun (W : World) (h : Below w5.heap.size w5 W) => H1.out W (HB5.out.trans (h.mono HB5.out.size)))
  have H2' := Lib.hid (fun (W : World) (h : Below w5.heap.size w5 W) => H2.out W (HB5.out.trans (h.mono HB5.out.size)))
  have H3' := Lib.hid (fun (W : World) (h : Below w5.heap.size w5 W) => H3.out W (HB5.out.trans (h.mono HB5.out.size)))
  have H4' := Lib.hid (fun (W : World) (h : Below w5.heap.size w5 W) => H4.out W (HB5.out.trans (h.mono HB5.out.size)))
  have H5' := Lib.hid (fun (W : World) (h : Below w5.heap.size w5 W) => H5.out W (HB5.out.trans (h.mono HB5.out.size)))
  have HQ : Below w5.heap.size w5 (w5.drewN 1) := below_drewN (Below.refl _ w5) 1
  clear H1 H2 H3 H4 H5
  go_region_held3 (fun w' => w'.cell? ⟨g, 0, none⟩ = some vc ∧ w'.cell? ⟨g, 1, none⟩ = some vr ∧ w'.cell? ⟨g, 2, none⟩ = some ve ∧ w'.cell? ⟨g, 3, none⟩ = some vp)
    (first | exact ⟨(HQ.cell (p := ⟨g, 0, none⟩) hg5).trans d0, (HQ.cell (p := ⟨g, 1, none⟩) hg5).trans d1, (HQ.cell (p := ⟨g, 2, none⟩) hg5).trans d2, (HQ.cell (p := ⟨g, 3, none⟩) hg5).trans d3⟩ | fail)
    (first | (go_at_call 19; refine (H1'.out _ HQ).mono ?_; rintro e w' ⟨rfl, hb⟩; have HQ := HQ.trans (hb.mono HQ.size)) | (go_at_call 20; refine (H2'.out _ HQ).mono ?_; rintro e w' ⟨rfl, hb⟩; have HQ := HQ.trans (hb.mono HQ.size)) | (go_at_call 21; refine (H3'.out _ HQ).mono ?_; rintro e w' ⟨rfl, hb⟩; have HQ := HQ.trans (hb.mono HQ.size)) | (go_at_call 22; refine (H4'.out _ HQ).mono ?_; rintro e w' ⟨rfl, hb⟩; have HQ := HQ.trans (hb.mono HQ.size)) | (go_at_call 18; refine (H5'.out _ HQ).mono ?_; rintro e w' ⟨rfl, hb⟩; have HQ := HQ.trans (hb.mono HQ.size)) | fail)
  have HQZ := Lib.hid (HB5.out.trans (HQ.mono HB5.out.size))
  clear HQ d0 d1 d2 d3
  go_wp2_with fail
  go_ret
  exact ⟨rfl, HQZ.out⟩
end Go.Proofs.YtmgbmoiefgfemaaDoor

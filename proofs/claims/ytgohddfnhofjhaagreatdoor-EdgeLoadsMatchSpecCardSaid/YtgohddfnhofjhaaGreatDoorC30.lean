/- Contracts of the library, laid by the shelf at this seat. -/
import Derived.Test.YtgohddfnhofjhaaGreatDoorC28
import Derived.Test.YtgohddfnhofjhaaGreatDoorC29
import Derived.Test.YtgohddfnhofjhaaGreatDoorC21
import Derived.Test.YtgohddfnhofjhaaGreatDoorC20
import Derived.Shelf.SlSortCmp.Insertion
import Derived.Test.YtgohddfnhofjhaaGreatDoorProg
import Derived.Test.YtgohddfnhofjhaaGreatDoorC15
namespace Go.Proofs.YtgohddfnhofjhaaGreatDoor
open Go.RowKit
theorem al4 (W : World) (o1 o2 o3 o4 : Obj) : ((((W.drew.alloc o1).alloc o2).alloc o3).alloc o4).heap[W.heap.size]? = some o1 ∧ ((((W.drew.alloc o1).alloc o2).alloc o3).alloc o4).heap[W.heap.size + 1]? = some o2 ∧ ((((W.drew.alloc o1).alloc o2).alloc o3).alloc o4).heap[W.heap.size + 2]? = some o3 ∧ ((((W.drew.alloc o1).alloc o2).alloc o3).alloc o4).heap[W.heap.size + 3]? = some o4 ∧ Below W.heap.size W ((((W.drew.alloc o1).alloc o2).alloc o3).alloc o4) := by
 refine ⟨?_, ?_, ?_, ?_, ((((Below.refl _ W).drew.alloc (Nat.le_refl _) _).alloc (by simp) _).alloc (by simp <;> omega) _).alloc (by simp <;> omega) _⟩
 ·rw [Below.heap_alloc _ _ _ (by simp <;> omega), Below.heap_alloc _ _ _ (by simp <;> omega), Below.heap_alloc _ _ _ (by simp)]
  exact block_new W.drew _
 ·rw [Below.heap_alloc _ _ _ (by simp <;> omega), Below.heap_alloc _ _ _ (by simp)]
  have h := block_new (W.drew.alloc o1) o2
  simpa using h
 ·rw [Below.heap_alloc _ _ _ (by simp)]
  have h := block_new ((W.drew.alloc o1).alloc o2) o3
  simpa using h
 ·have h := block_new (((W.drew.alloc o1).alloc o2).alloc o3) o4
  simpa using h
theorem times_ge {C : List Cch} {R : List Crl} {E : List Rel} {P : List Pur} {L : List Gt} {X : Xd} (hv : Val C R E P L) (hx : XInv C P L [] X) : ∀ t, t ∈ X.times P L → 0 ≤ t := fun t ht => by
 rcases times_mem.1 ht with ⟨x, hx2, rfl⟩ | ⟨x, hx2, rfl⟩ | ⟨j, k, hk, e⟩
 ·exact (hv.lt x (List.mem_of_getElem? hx2)).1.1
 ·exact (hv.pt x (List.mem_of_getElem? hx2)).1.1
 ·have h1 := hx.tm j k hk
  have h2 := hx.no
  rcases e with ⟨e1, rfl⟩ | ⟨e1, e2, rfl⟩
  ·have := (h1.2.1 e1).1; omega
  ·have := (h1.2.2 e1 e2).1; omega
set_option linter.unusedSimpArgs false in
set_option maxRecDepth 100000 in
set_option maxHeartbeats 4000000 in
theorem runX_any (w : World) (C : List Cch) (R : List Crl) (E : List Rel) (P : List Pur) (L : List Gt) (vc vr ve vp vl : Value) (h : InS w C R E P L vc vr ve vp vl) (hv : Val C R E P L) (hpa : ParOk C) (u lim : Int) (hu : (u < 0 ∧ lim = 1152921504606846976) ∨ (0 ≤ u ∧ lim = u)) :
 Calls Tryz.prog 36 #[.agg #[vc, vr, ve, vp], vl, .int .i64 u] w fun e w' => ∃ B A X, e = .returned (.pointer (some ⟨A.q, 0, none⟩)) ∧ w.heap.size ≤ B ∧ RD w' B A X ∧ EndX C R E P L lim X ∧ Below w.heap.size w w' := by
 obtain ⟨w2, hw2⟩ : ∃ w2, w2 = w.alloc (.cells #[vc, vr, ve, vp] 27) := ⟨_, rfl⟩
 have hb2 : Below w.heap.size w w2 := by rw [hw2]; exact (Below.refl _ w).alloc (Nat.le_refl _) _
 have hnb : w2.heap[w.heap.size]? = some (.cells #[vc, vr, ve, vp] 27 (0, 0)) := by rw [hw2]; exact block_new w _
 have hnl := (Array.getElem?_eq_some_iff.1 hnb).1
 have h2 := h.below hb2
 obtain ⟨co, cc, rfl, -⟩ := h2.c
 obtain ⟨lo, lc, rfl, -⟩ := h2.l
 have HQ : Hid (∀ W : World, Below w2.heap.size w2 W → W.cell? ⟨w.heap.size, 0, none⟩ = some (.slice co C.length cc) ∧ W.cell? ⟨w.heap.size, 1, none⟩ = some vr ∧ W.cell? ⟨w.heap.size, 2, none⟩ = some ve ∧ W.cell? ⟨w.heap.size, 3, none⟩ = some vp) := Lib.hid fun W hW => by
  have h1 := (hW.block _ hnl).trans hnb
  exact ⟨cellF h1 0 rfl, cellF h1 1 rfl, cellF h1 2 rfl, cellF h1 3 rfl⟩
 have hc30 := hv.c
 have hl1 := hv.l
 have hm1 := make_gots L.length hv.l
 have hm2 := make_rows C.length (by omega)
 have hm3 := make_lds C.length (by omega)
 have HBQ : Hid (Below w2.heap.size w2 w2.drew) := Lib.hid (Below.refl _ w2).drew
 have HIN := Lib.hid h2
 have HW2 := Lib.hid hw2
 have HB2 := Lib.hid hb2
 have HV := Lib.hid hv
 have HPA := Lib.hid hpa
 have HNL := Lib.hid hnl
 clear h hw2 hb2 hnb h2 hv hpa hnl
 obtain ⟨GR, hGR⟩ : ∃ GR : Array Value, GR = ((List.replicate L.length (⟨0, 0, 0, ⟨#[]⟩, 0⟩ : Gtn)).flatMap encN).toArray := ⟨_, rfl⟩
 obtain ⟨HR, hHR⟩ : ∃ HR : Array Value, HR = ((List.replicate C.length (Value.slice none 0 0)).flatMap encV).toArray := ⟨_, rfl⟩
 obtain ⟨LR, hLR⟩ : ∃ LR : Array Value, LR = ((List.replicate C.length (default : Ldd)).flatMap encD).toArray := ⟨_, rfl⟩
 rw [← hGR] at hm1
 rw [← hHR] at hm2
 rw [← hLR] at hm3
 have HR3 := Lib.hid (And.intro hGR (And.intro hHR hLR))
 clear hGR hHR hLR
 go_enter Tryz.func36, Tryz.ntmps36
 go_upto_region 1 with (fail)
 rw [← HW2.out]
 go_cut [7] (fun s7 W => ∃ q hb gb lb, s7 = .pointer (some ⟨q, 0, none⟩) ∧ Aside (DayB w2 W (.slice co C.length cc) vr ve vp (.slice lo L.length lc) C.length L.length q hb gb lb))
 case first =>
  refine wp_region_held_drew (S := fun W => Below w2.heap.size w2 W) (by kernel_rfl) HBQ.out (fun hHeld => ?_)
  refine tkI 0 9 hHeld (hy := by (intro w' hSw; obtain ⟨z0, z1, z2, z3⟩ := HQ.out _ hSw; go_simp) <;> with_reducible rfl) (h := ?_)
  try simp only [pu]
  refine tkI 1 10 hHeld (h := ?_)
  try simp only [pu]
  refine tkI 2 11 hHeld (h := ?_)
  try simp only [pu]
  refine tkI 3 12 hHeld (hy := by (intro w' hSw; obtain ⟨z0, z1, z2, z3⟩ := HQ.out _ hSw; go_simp) <;> with_reducible rfl) (h := ?_)
  try simp only [pu]
  refine tkI 4 13 hHeld (h := ?_)
  try simp only [pu]
  refine tkI 6 15 hHeld (h := ?_)
  try simp only [pu]
  refine tkI 7 16 hHeld (h := ?_)
  try simp only [pu]
  refine tkI 9 18 hHeld (h := ?_)
  try simp only [pu]
  refine tkI 10 19 hHeld (hy := by (intro w' hSw; obtain ⟨z0, z1, z2, z3⟩ := HQ.out _ hSw; go_simp) <;> with_reducible rfl) (h := ?_)
  try simp only [pu]
  refine tkI 11 20 hHeld (h := ?_)
  try simp only [pu]
  refine wpAnyH_ready (rs := [5, 8, 12]) (by kernel_rfl) (by simp) (AllReadyH.cons rfl (fun K hK => ?_) (AllReadyH.cons rfl (fun K hK => ?_) (AllReadyH.cons rfl (fun K hK => ?_) AllReadyH.nil)))
  ·have HBN1 := Lib.hid (HBQ.out.alloc HBQ.out.size (.cells HR 103 (0, 0)))
   go_simp
   refine hK.out _ _ HBN1.out (fun hHeld => ?_)
   clear hK K
   try simp only [pu]
   refine wpAnyH_ready (rs := [8, 12]) (by kernel_rfl) (by simp) (AllReadyH.cons rfl (fun K hK => ?_) (AllReadyH.cons rfl (fun K hK => ?_) AllReadyH.nil))
   ·have HBN2 := Lib.hid (HBN1.out.alloc HBN1.out.size (.cells GR 35 (0, 0)))
    go_simp
    refine hK.out _ _ HBN2.out (fun hHeld => ?_)
    clear hK K
    try simp only [pu]
    refine wpAnyH_ready (rs := [12]) (by kernel_rfl) (by simp) (AllReadyH.cons rfl (fun K hK => ?_) AllReadyH.nil)
    have HBN3 := Lib.hid (HBN2.out.alloc HBN2.out.size (.cells LR 50 (0, 0)))
    go_simp
    refine hK.out _ _ HBN3.out (fun hHeld => ?_)
    clear hK K
    try simp only [pu]
    refine tkI 13 22 hHeld (h := ?_)
    try simp only [pu]
    have HBD := Lib.hid (HBN3.out.alloc HBN3.out.size (.cells #[.slice co C.length cc, vr, ve, vp, .slice lo L.length lc, .int .i64 0, .int .i64 0, .slice none 0 0, .slice (some ⟨w2.heap.size, 0, none⟩) C.length C.length, .slice (some ⟨w2.heap.size + 1, 0, none⟩) L.length L.length, .slice (some ⟨w2.heap.size + 2, 0, none⟩) C.length C.length, .int .i64 0] 88 (0, 0)))
    refine wpAnyH_ready (rs := [14]) (by kernel_rfl) (by simp) (AllReadyH.cons rfl (fun K hK => ?_) AllReadyH.nil)
    go_simp
    refine hK.out _ _ HBD.out (fun hHeld => ?_)
    clear hK K
    try simp only [pu]
    refine tkI 15 7 hHeld (h := ?_)
    try simp only [pu]
    refine wpAnyH_done (by kernel_rfl) ?_ _
    clear hHeld
    go_wp2_with fail
    go_meet
    obtain ⟨a1, a2, a3, a4, a5⟩ := al4 w2 (.cells HR 103 (0, 0)) (.cells GR 35 (0, 0)) (.cells LR 50 (0, 0)) (.cells #[.slice co C.length cc, vr, ve, vp, .slice lo L.length lc, .int .i64 0, .int .i64 0, .slice none 0 0, .slice (some ⟨w2.heap.size, 0, none⟩) C.length C.length, .slice (some ⟨w2.heap.size + 1, 0, none⟩) L.length L.length, .slice (some ⟨w2.heap.size + 2, 0, none⟩) C.length C.length, .int .i64 0] 88 (0, 0))
    obtain ⟨e1, e2, e3⟩ := HR3.out
    exact ⟨w2.heap.size + 3, w2.heap.size, w2.heap.size + 1, w2.heap.size + 2, by simp, (show Aside _ from ⟨a5, ⟨⟨by omega, by omega, by omega, by omega⟩, ⟨by omega, by omega, by omega⟩, by omega, by omega, by omega⟩, by rw [← e2]; exact a1, by rw [← e1]; exact a2, by rw [← e3]; exact a3, a4⟩)⟩
   ·have HBN2 := Lib.hid (HBN1.out.alloc HBN1.out.size (.cells LR 50 (0, 0)))
    go_simp
    refine hK.out _ _ HBN2.out (fun hHeld => ?_)
    clear hK K
    try simp only [pu]
    refine wpAnyH_ready (rs := [8]) (by kernel_rfl) (by simp) (AllReadyH.cons rfl (fun K hK => ?_) AllReadyH.nil)
    have HBN3 := Lib.hid (HBN2.out.alloc HBN2.out.size (.cells GR 35 (0, 0)))
    go_simp
    refine hK.out _ _ HBN3.out (fun hHeld => ?_)
    clear hK K
    try simp only [pu]
    refine tkI 13 22 hHeld (h := ?_)
    try simp only [pu]
    have HBD := Lib.hid (HBN3.out.alloc HBN3.out.size (.cells #[.slice co C.length cc, vr, ve, vp, .slice lo L.length lc, .int .i64 0, .int .i64 0, .slice none 0 0, .slice (some ⟨w2.heap.size, 0, none⟩) C.length C.length, .slice (some ⟨w2.heap.size + 2, 0, none⟩) L.length L.length, .slice (some ⟨w2.heap.size + 1, 0, none⟩) C.length C.length, .int .i64 0] 88 (0, 0)))
    refine wpAnyH_ready (rs := [14]) (by kernel_rfl) (by simp) (AllReadyH.cons rfl (fun K hK => ?_) AllReadyH.nil)
    go_simp
    refine hK.out _ _ HBD.out (fun hHeld => ?_)
    clear hK K
    try simp only [pu]
    refine tkI 15 7 hHeld (h := ?_)
    try simp only [pu]
    refine wpAnyH_done (by kernel_rfl) ?_ _
    clear hHeld
    go_wp2_with fail
    go_meet
    obtain ⟨a1, a2, a3, a4, a5⟩ := al4 w2 (.cells HR 103 (0, 0)) (.cells LR 50 (0, 0)) (.cells GR 35 (0, 0)) (.cells #[.slice co C.length cc, vr, ve, vp, .slice lo L.length lc, .int .i64 0, .int .i64 0, .slice none 0 0, .slice (some ⟨w2.heap.size, 0, none⟩) C.length C.length, .slice (some ⟨w2.heap.size + 2, 0, none⟩) L.length L.length, .slice (some ⟨w2.heap.size + 1, 0, none⟩) C.length C.length, .int .i64 0] 88 (0, 0))
    obtain ⟨e1, e2, e3⟩ := HR3.out
    exact ⟨w2.heap.size + 3, w2.heap.size, w2.heap.size + 2, w2.heap.size + 1, by simp, (show Aside _ from ⟨a5, ⟨⟨by omega, by omega, by omega, by omega⟩, ⟨by omega, by omega, by omega⟩, by omega, by omega, by omega⟩, by rw [← e2]; exact a1, by rw [← e1]; exact a3, by rw [← e3]; exact a2, a4⟩)⟩
  ·have HBN1 := Lib.hid (HBQ.out.alloc HBQ.out.size (.cells GR 35 (0, 0)))
   go_simp
   refine hK.out _ _ HBN1.out (fun hHeld => ?_)
   clear hK K
   try simp only [pu]
   refine wpAnyH_ready (rs := [5, 12]) (by kernel_rfl) (by simp) (AllReadyH.cons rfl (fun K hK => ?_) (AllReadyH.cons rfl (fun K hK => ?_) AllReadyH.nil))
   ·have HBN2 := Lib.hid (HBN1.out.alloc HBN1.out.size (.cells HR 103 (0, 0)))
    go_simp
    refine hK.out _ _ HBN2.out (fun hHeld => ?_)
    clear hK K
    try simp only [pu]
    refine wpAnyH_ready (rs := [12]) (by kernel_rfl) (by simp) (AllReadyH.cons rfl (fun K hK => ?_) AllReadyH.nil)
    have HBN3 := Lib.hid (HBN2.out.alloc HBN2.out.size (.cells LR 50 (0, 0)))
    go_simp
    refine hK.out _ _ HBN3.out (fun hHeld => ?_)
    clear hK K
    try simp only [pu]
    refine tkI 13 22 hHeld (h := ?_)
    try simp only [pu]
    have HBD := Lib.hid (HBN3.out.alloc HBN3.out.size (.cells #[.slice co C.length cc, vr, ve, vp, .slice lo L.length lc, .int .i64 0, .int .i64 0, .slice none 0 0, .slice (some ⟨w2.heap.size + 1, 0, none⟩) C.length C.length, .slice (some ⟨w2.heap.size, 0, none⟩) L.length L.length, .slice (some ⟨w2.heap.size + 2, 0, none⟩) C.length C.length, .int .i64 0] 88 (0, 0)))
    refine wpAnyH_ready (rs := [14]) (by kernel_rfl) (by simp) (AllReadyH.cons rfl (fun K hK => ?_) AllReadyH.nil)
    go_simp
    refine hK.out _ _ HBD.out (fun hHeld => ?_)
    clear hK K
    try simp only [pu]
    refine tkI 15 7 hHeld (h := ?_)
    try simp only [pu]
    refine wpAnyH_done (by kernel_rfl) ?_ _
    clear hHeld
    go_wp2_with fail
    go_meet
    obtain ⟨a1, a2, a3, a4, a5⟩ := al4 w2 (.cells GR 35 (0, 0)) (.cells HR 103 (0, 0)) (.cells LR 50 (0, 0)) (.cells #[.slice co C.length cc, vr, ve, vp, .slice lo L.length lc, .int .i64 0, .int .i64 0, .slice none 0 0, .slice (some ⟨w2.heap.size + 1, 0, none⟩) C.length C.length, .slice (some ⟨w2.heap.size, 0, none⟩) L.length L.length, .slice (some ⟨w2.heap.size + 2, 0, none⟩) C.length C.length, .int .i64 0] 88 (0, 0))
    obtain ⟨e1, e2, e3⟩ := HR3.out
    exact ⟨w2.heap.size + 3, w2.heap.size + 1, w2.heap.size, w2.heap.size + 2, by simp, (show Aside _ from ⟨a5, ⟨⟨by omega, by omega, by omega, by omega⟩, ⟨by omega, by omega, by omega⟩, by omega, by omega, by omega⟩, by rw [← e2]; exact a2, by rw [← e1]; exact a1, by rw [← e3]; exact a3, a4⟩)⟩
   ·have HBN2 := Lib.hid (HBN1.out.alloc HBN1.out.size (.cells LR 50 (0, 0)))
    go_simp
    refine hK.out _ _ HBN2.out (fun hHeld => ?_)
    clear hK K
    try simp only [pu]
    refine wpAnyH_ready (rs := [5]) (by kernel_rfl) (by simp) (AllReadyH.cons rfl (fun K hK => ?_) AllReadyH.nil)
    have HBN3 := Lib.hid (HBN2.out.alloc HBN2.out.size (.cells HR 103 (0, 0)))
    go_simp
    refine hK.out _ _ HBN3.out (fun hHeld => ?_)
    clear hK K
    try simp only [pu]
    refine tkI 13 22 hHeld (h := ?_)
    try simp only [pu]
    have HBD := Lib.hid (HBN3.out.alloc HBN3.out.size (.cells #[.slice co C.length cc, vr, ve, vp, .slice lo L.length lc, .int .i64 0, .int .i64 0, .slice none 0 0, .slice (some ⟨w2.heap.size + 2, 0, none⟩) C.length C.length, .slice (some ⟨w2.heap.size, 0, none⟩) L.length L.length, .slice (some ⟨w2.heap.size + 1, 0, none⟩) C.length C.length, .int .i64 0] 88 (0, 0)))
    refine wpAnyH_ready (rs := [14]) (by kernel_rfl) (by simp) (AllReadyH.cons rfl (fun K hK => ?_) AllReadyH.nil)
    go_simp
    refine hK.out _ _ HBD.out (fun hHeld => ?_)
    clear hK K
    try simp only [pu]
    refine tkI 15 7 hHeld (h := ?_)
    try simp only [pu]
    refine wpAnyH_done (by kernel_rfl) ?_ _
    clear hHeld
    go_wp2_with fail
    go_meet
    obtain ⟨a1, a2, a3, a4, a5⟩ := al4 w2 (.cells GR 35 (0, 0)) (.cells LR 50 (0, 0)) (.cells HR 103 (0, 0)) (.cells #[.slice co C.length cc, vr, ve, vp, .slice lo L.length lc, .int .i64 0, .int .i64 0, .slice none 0 0, .slice (some ⟨w2.heap.size + 2, 0, none⟩) C.length C.length, .slice (some ⟨w2.heap.size, 0, none⟩) L.length L.length, .slice (some ⟨w2.heap.size + 1, 0, none⟩) C.length C.length, .int .i64 0] 88 (0, 0))
    obtain ⟨e1, e2, e3⟩ := HR3.out
    exact ⟨w2.heap.size + 3, w2.heap.size + 2, w2.heap.size, w2.heap.size + 1, by simp, (show Aside _ from ⟨a5, ⟨⟨by omega, by omega, by omega, by omega⟩, ⟨by omega, by omega, by omega⟩, by omega, by omega, by omega⟩, by rw [← e2]; exact a3, by rw [← e1]; exact a1, by rw [← e3]; exact a2, a4⟩)⟩
  ·have HBN1 := Lib.hid (HBQ.out.alloc HBQ.out.size (.cells LR 50 (0, 0)))
   go_simp
   refine hK.out _ _ HBN1.out (fun hHeld => ?_)
   clear hK K
   try simp only [pu]
   refine wpAnyH_ready (rs := [5, 8]) (by kernel_rfl) (by simp) (AllReadyH.cons rfl (fun K hK => ?_) (AllReadyH.cons rfl (fun K hK => ?_) AllReadyH.nil))
   ·have HBN2 := Lib.hid (HBN1.out.alloc HBN1.out.size (.cells HR 103 (0, 0)))
    go_simp
    refine hK.out _ _ HBN2.out (fun hHeld => ?_)
    clear hK K
    try simp only [pu]
    refine wpAnyH_ready (rs := [8]) (by kernel_rfl) (by simp) (AllReadyH.cons rfl (fun K hK => ?_) AllReadyH.nil)
    have HBN3 := Lib.hid (HBN2.out.alloc HBN2.out.size (.cells GR 35 (0, 0)))
    go_simp
    refine hK.out _ _ HBN3.out (fun hHeld => ?_)
    clear hK K
    try simp only [pu]
    refine tkI 13 22 hHeld (h := ?_)
    try simp only [pu]
    have HBD := Lib.hid (HBN3.out.alloc HBN3.out.size (.cells #[.slice co C.length cc, vr, ve, vp, .slice lo L.length lc, .int .i64 0, .int .i64 0, .slice none 0 0, .slice (some ⟨w2.heap.size + 1, 0, none⟩) C.length C.length, .slice (some ⟨w2.heap.size + 2, 0, none⟩) L.length L.length, .slice (some ⟨w2.heap.size, 0, none⟩) C.length C.length, .int .i64 0] 88 (0, 0)))
    refine wpAnyH_ready (rs := [14]) (by kernel_rfl) (by simp) (AllReadyH.cons rfl (fun K hK => ?_) AllReadyH.nil)
    go_simp
    refine hK.out _ _ HBD.out (fun hHeld => ?_)
    clear hK K
    try simp only [pu]
    refine tkI 15 7 hHeld (h := ?_)
    try simp only [pu]
    refine wpAnyH_done (by kernel_rfl) ?_ _
    clear hHeld
    go_wp2_with fail
    go_meet
    obtain ⟨a1, a2, a3, a4, a5⟩ := al4 w2 (.cells LR 50 (0, 0)) (.cells HR 103 (0, 0)) (.cells GR 35 (0, 0)) (.cells #[.slice co C.length cc, vr, ve, vp, .slice lo L.length lc, .int .i64 0, .int .i64 0, .slice none 0 0, .slice (some ⟨w2.heap.size + 1, 0, none⟩) C.length C.length, .slice (some ⟨w2.heap.size + 2, 0, none⟩) L.length L.length, .slice (some ⟨w2.heap.size, 0, none⟩) C.length C.length, .int .i64 0] 88 (0, 0))
    obtain ⟨e1, e2, e3⟩ := HR3.out
    exact ⟨w2.heap.size + 3, w2.heap.size + 1, w2.heap.size + 2, w2.heap.size, by simp, (show Aside _ from ⟨a5, ⟨⟨by omega, by omega, by omega, by omega⟩, ⟨by omega, by omega, by omega⟩, by omega, by omega, by omega⟩, by rw [← e2]; exact a2, by rw [← e1]; exact a3, by rw [← e3]; exact a1, a4⟩)⟩
   ·have HBN2 := Lib.hid (HBN1.out.alloc HBN1.out.size (.cells GR 35 (0, 0)))
    go_simp
    refine hK.out _ _ HBN2.out (fun hHeld => ?_)
    clear hK K
    try simp only [pu]
    refine wpAnyH_ready (rs := [5]) (by kernel_rfl) (by simp) (AllReadyH.cons rfl (fun K hK => ?_) AllReadyH.nil)
    have HBN3 := Lib.hid (HBN2.out.alloc HBN2.out.size (.cells HR 103 (0, 0)))
    go_simp
    refine hK.out _ _ HBN3.out (fun hHeld => ?_)
    clear hK K
    try simp only [pu]
    refine tkI 13 22 hHeld (h := ?_)
    try simp only [pu]
    have HBD := Lib.hid (HBN3.out.alloc HBN3.out.size (.cells #[.slice co C.length cc, vr, ve, vp, .slice lo L.length lc, .int .i64 0, .int .i64 0, .slice none 0 0, .slice (some ⟨w2.heap.size + 2, 0, none⟩) C.length C.length, .slice (some ⟨w2.heap.size + 1, 0, none⟩) L.length L.length, .slice (some ⟨w2.heap.size, 0, none⟩) C.length C.length, .int .i64 0] 88 (0, 0)))
    refine wpAnyH_ready (rs := [14]) (by kernel_rfl) (by simp) (AllReadyH.cons rfl (fun K hK => ?_) AllReadyH.nil)
    go_simp
    refine hK.out _ _ HBD.out (fun hHeld => ?_)
    clear hK K
    try simp only [pu]
    refine tkI 15 7 hHeld (h := ?_)
    try simp only [pu]
    refine wpAnyH_done (by kernel_rfl) ?_ _
    clear hHeld
    go_wp2_with fail
    go_meet
    obtain ⟨a1, a2, a3, a4, a5⟩ := al4 w2 (.cells LR 50 (0, 0)) (.cells GR 35 (0, 0)) (.cells HR 103 (0, 0)) (.cells #[.slice co C.length cc, vr, ve, vp, .slice lo L.length lc, .int .i64 0, .int .i64 0, .slice none 0 0, .slice (some ⟨w2.heap.size + 2, 0, none⟩) C.length C.length, .slice (some ⟨w2.heap.size + 1, 0, none⟩) L.length L.length, .slice (some ⟨w2.heap.size, 0, none⟩) C.length C.length, .int .i64 0] 88 (0, 0))
    obtain ⟨e1, e2, e3⟩ := HR3.out
    exact ⟨w2.heap.size + 3, w2.heap.size + 2, w2.heap.size + 1, w2.heap.size, by simp, (show Aside _ from ⟨a5, ⟨⟨by omega, by omega, by omega, by omega⟩, ⟨by omega, by omega, by omega⟩, by omega, by omega, by omega⟩, by rw [← e2]; exact a3, by rw [← e1]; exact a2, by rw [← e3]; exact a1, a4⟩)⟩
 obtain ⟨q, hb, gb, lb, rfl, DB⟩ := hcut
 obtain ⟨w3, rfl⟩ : ∃ w3, w3 = wc := ⟨_, rfl⟩
 have hr0 := DB.out.rd hc30 hl1
 obtain ⟨A0, hA0⟩ : ∃ A0 : Rdr, A0 = ⟨q, .slice co C.length cc, vr, ve, vp, .slice lo L.length lc, .slice none 0 0, .slice (some ⟨hb, 0, none⟩) C.length C.length, .slice (some ⟨gb, 0, none⟩) L.length L.length, .slice (some ⟨lb, 0, none⟩) C.length C.length, [], List.replicate C.length (.slice none 0 0), []⟩ := ⟨_, rfl⟩
 rw [← hA0] at hr0
 obtain rfl : q = A0.q := by rw [hA0]
 have HE : Hid (EnvR w2 w2.heap.size A0 C R E P L) := Lib.hid ⟨Nat.le_refl _, by rw [hA0]; exact HIN.out.c, by rw [hA0]; exact HIN.out.r, by rw [hA0]; exact HIN.out.e, by rw [hA0]; exact HIN.out.p, by rw [hA0]; exact HIN.out.l⟩
 have HR0 := Lib.hid hr0
 have HB3 := Lib.hid DB.out.bel
 have HI0 : Hid (RInv C R E P L lim .out (xd0 C L.length)) := Lib.hid (RInv.zero HV.out)
 have HCM : Hid (∀ (W : World) (A' : Rdr) (X : Xd), RD W w2.heap.size A' X → RdrLe A0 A' → Below w2.heap.size w2 W → RInv C R E P L lim .out X → Calls Tryz.prog 64 #[.pointer (some ⟨A0.q, 0, none⟩)] W fun e w' => e = .returned (.int .i64 ((minT (X.times P L)).getD (-1))) ∧ Below W.heap.size W w') := Lib.hid fun W A' X hr hle hb hi => by
  have hE := HE.out.le hle
  have h1 := comingX_any W w2.heap.size A' X hr P L (hE.p.below hb (Nat.le_refl _)) (hE.l.below hb (Nat.le_refl _)) (times_ge HV.out hi.inv) (by obtain ⟨n, hcn, hn⟩ := hi.cap; have := hcn.ak; omega)
  rw [hle.q] at h1
  exact h1
 have HSP : Hid (∀ (W : World) (A' : Rdr) (X : Xd) (t : Int), RD W w2.heap.size A' X → RdrLe A0 A' → Below w2.heap.size w2 W → RInv C R E P L lim .out X → minT (X.times P L) = some t → ¬ lim < t → Calls Tryz.prog 65 #[.pointer (some ⟨A0.q, 0, none⟩), .int .i64 t] W (StPost C R E P L lim W w2.heap.size A' X)) := Lib.hid fun W A' X t hr hle hb hi ht hlt => by
  have h1 := stepX_any w2 W w2.heap.size A' X hr C R E P L (HE.out.le hle) hb HV.out HPA.out lim hi t ht hlt
  rw [hle.q] at h1
  exact h1
 clear DB hr0 hA0 HQ hm1 hm2 hm3 HBQ HR3 HNL HPA HIN
 have HC0 := Lib.hid (HCM.out w3 A0 _ HR0.out (RdrLe.refl _) HB3.out HI0.out)
 go_wp2_with (go_at_call 64; (with_reducible refine HC0.out.mono ?_); rintro e w4 ⟨rfl, hb4⟩; have HB4 := Lib.hid hb4; clear hb4)
 go_loopg [8] (muX C P L (xd0 C L.length)) (fun gg s8 wr => ∃ (X : Xd) (A' : Rdr), muX C P L X ≤ gg ∧ s8 = .int .i64 ((minT (X.times P L)).getD (-1)) ∧ Aside (RD wr w2.heap.size A' X ∧ RdrLe A0 A' ∧ Below w2.heap.size w2 wr ∧ RInv C R E P L lim .out X))
 case atStart => exact ⟨xd0 C L.length, A0, Nat.le_refl _, rfl, (show Aside (_ ∧ _ ∧ _ ∧ _) from ⟨HR0.out.below HB4.out, RdrLe.refl _, HB3.out.trans (HB4.out.mono HB3.out.size), HI0.out⟩)⟩
 case round =>
  obtain ⟨wz, rfl⟩ : ∃ wz, wz = wr := ⟨_, rfl⟩
  obtain ⟨X, A', hmu, rfl, ST⟩ := hrel
  have HRD := Lib.hid ST.out.1
  have HLE := Lib.hid ST.out.2.1
  have HBZ := Lib.hid ST.out.2.2.1
  have HRI := Lib.hid ST.out.2.2.2
  clear ST
  have HEND : Hid ((∀ t, minT (X.times P L) = some t → lim < t) → ∃ B A X, Ending.returned (.pointer (some ⟨A0.q, 0, none⟩)) = Ending.returned (.pointer (some ⟨Rdr.q A, 0, none⟩)) ∧ w.heap.size ≤ B ∧ RD wz B A X ∧ EndX C R E P L lim X ∧ Below w.heap.size w wz) := Lib.hid fun hn => ⟨w2.heap.size, A', X, by rw [HLE.out.q], HB2.out.size, HRD.out, ⟨HRI.out.rch, by
   unfold Xd.next
   dsimp only
   cases hm : minT (X.times P L) with
   | none => rfl
   | some t => dsimp only; rw [if_pos (hn t hm)], HRI.out.inv⟩, HB2.out.thru HBZ.out⟩
  cases hm : minT (X.times P L) with
  | none =>
   have HEN := Lib.hid (HEND.out (fun t h => by rw [hm] at h; cases h))
   rw [show (none : Option Int).getD (-1) = -1 from rfl]
   clear hm HEND
   go_wp2_with fail
   go_ret
   obtain ⟨B1, A1, X1, e1, r1, r2, r3⟩ := HEN.out
   first | exact ⟨B1, A1, X1, e1, r1, r2, r3⟩ | exact ⟨B1, A1, e1, r1, X1, r2, r3⟩
  | some t =>
   have ht0 := times_ge HV.out HRI.out.inv t (minT_spec hm).1
   have htl := (HRI.out.inv.now HV.out hm).no.2
   have htl : t ≤ 1000006100000 := htl
   rw [show (some t : Option Int).getD (-1) = t from rfl]
   by_cases hlt : lim < t
   ·have hun : ¬ u < 0 := fun h => by rcases hu with ⟨_, e⟩ | ⟨e, _⟩ <;> omega
    have hut : ¬ t ≤ u := fun h => by rcases hu with ⟨e, _⟩ | ⟨_, e⟩ <;> omega
    have HEN := Lib.hid (HEND.out (fun t' h => by rw [hm] at h; cases h; exact hlt))
    clear hm HEND hlt
    go_wp2_with fail
    go_ret
    obtain ⟨B1, A1, X1, e1, r1, r2, r3⟩ := HEN.out
    first | exact ⟨B1, A1, X1, e1, r1, r2, r3⟩ | exact ⟨B1, A1, e1, r1, X1, r2, r3⟩
   ·have HST := Lib.hid (HSP.out wz A' X t HRD.out HLE.out HBZ.out HRI.out hm (by omega))
    clear hm HEND
    by_cases hun : u < 0
    ·go_wp2_with (first
      | (go_at_call 65; (with_reducible refine HST.out.mono ?_); rintro e w5 ⟨A5, X5, rfl, g1, g2, g3, g4, g5⟩; have HR5 := Lib.hid g1; have HL5 := Lib.hid (HLE.out.trans g2); have HB5 := Lib.hid (HBZ.out.trans g3); have HI5 := Lib.hid g4; have HM5 := Lib.hid g5; have HC5 := Lib.hid (HCM.out w5 A5 X5 HR5.out HL5.out HB5.out HI5.out); clear g1 g2 g3 g4 g5)
      | (go_at_call 64; (with_reducible refine HC5.out.mono ?_); rintro e w6 ⟨rfl, hb6⟩; have HB6 := Lib.hid hb6; clear hb6)
      | fail)
     go_roundg (muX C P L X5)
     case measure => have := HM5.out; omega
     case rel => exact ⟨X5, A5, Nat.le_refl _, rfl, (show Aside (_ ∧ _ ∧ _ ∧ _) from ⟨HR5.out.below HB6.out, HL5.out, HB5.out.trans (HB6.out.mono HB5.out.size), HI5.out⟩)⟩
    ·have hut : t ≤ u := by rcases hu with ⟨e, _⟩ | ⟨_, e⟩ <;> omega
     go_wp2_with (first
      | (go_at_call 65; (with_reducible refine HST.out.mono ?_); rintro e w5 ⟨A5, X5, rfl, g1, g2, g3, g4, g5⟩; have HR5 := Lib.hid g1; have HL5 := Lib.hid (HLE.out.trans g2); have HB5 := Lib.hid (HBZ.out.trans g3); have HI5 := Lib.hid g4; have HM5 := Lib.hid g5; have HC5 := Lib.hid (HCM.out w5 A5 X5 HR5.out HL5.out HB5.out HI5.out); clear g1 g2 g3 g4 g5)
      | (go_at_call 64; (with_reducible refine HC5.out.mono ?_); rintro e w6 ⟨rfl, hb6⟩; have HB6 := Lib.hid hb6; clear hb6)
      | fail)
     go_roundg (muX C P L X5)
     case measure => have := HM5.out; omega
     case rel => exact ⟨X5, A5, Nat.le_refl _, rfl, (show Aside (_ ∧ _ ∧ _ ∧ _) from ⟨HR5.out.below HB6.out, HL5.out, HB5.out.trans (HB6.out.mono HB5.out.size), HI5.out⟩)⟩
theorem par_of {C : List Cch} {R : List Crl} {E : List Rel} {P : List Pur} {L : List Gt} (h : checkS C R E P L = 0) : ParOk C := by
 unfold checkS at h
 have hd : checkD C R E P = 0 := Classical.byContradiction fun hd => by rw [if_pos hd] at h; exact hd h
 obtain ⟨hC, -, -, -⟩ := checkD_zero hd
 obtain ⟨_, c1, c2⟩ := cc_at hC
 intro i x hx
 refine ⟨fun he => ?_, fun he => ?_⟩
 ·refine (fidxC_none fun j y hy => ?_).1
  have := name_ne (c2 j y hy).1
  unfold isC
  rw [he]
  cases e : (y.na.toList == (ByteArray.mk #[]).toList)
  ·rfl
  ·exact absurd (ba_list (by simpa using e)) this
 ·have q3 := (c2 i x hx).2.2.1
  unfold parB at q3
  rw [decide_eq_false he] at q3
  have hh : hasC (C.take i) x.pa = true := by simpa using q3
  have hs : hasC C x.pa = true := by
   unfold hasC at hh ⊢
   obtain ⟨y, hy, hyn⟩ := List.any_eq_true.1 hh
   exact List.any_eq_true.2 ⟨y, List.mem_of_mem_take hy, hyn⟩
  obtain ⟨n, hn, -⟩ := cNum_has hs
  omega
structure BoxR (w w2 : World) (C : List Cch) (R : List Crl) (E : List Rel) (P : List Pur) (L : List Gt) (vc vr ve vp vl : Value) : Prop where
 al : w2 = w.alloc (.cells #[vc, vr, ve, vp] 27)
 bel : Below w.heap.size w w2
 q : ∀ W, Below w2.heap.size w2 W → W.cell? ⟨w.heap.size, 0, none⟩ = some vc ∧ W.cell? ⟨w.heap.size, 1, none⟩ = some vr ∧ W.cell? ⟨w.heap.size, 2, none⟩ = some ve ∧ W.cell? ⟨w.heap.size, 3, none⟩ = some vp
 flt : ∀ W, Below w2.heap.size w2 W → Calls Tryz.prog 35 #[.agg #[vc, vr, ve, vp], vl] W fun e w' => e = .returned (.int .i64 (checkS C R E P L)) ∧ Below W.heap.size W w'
 ply : checkS C R E P L = 0 → ∀ W, Below w2.heap.size w2 W → ∀ u lim : Int, (u < 0 ∧ lim = 1152921504606846976) ∨ (0 ≤ u ∧ lim = u) → Calls Tryz.prog 36 #[.agg #[vc, vr, ve, vp], vl, .int .i64 u] W fun e w' => ∃ B A X, e = .returned (.pointer (some ⟨A.q, 0, none⟩)) ∧ W.heap.size ≤ B ∧ RD w' B A X ∧ EndX C R E P L lim X ∧ Below W.heap.size W w'
theorem boxR (w : World) {C : List Cch} {R : List Crl} {E : List Rel} {P : List Pur} {L : List Gt} {vc vr ve vp vl : Value} (h : InS w C R E P L vc vr ve vp vl) (hw : WfS C R E P L) : ∃ w2, BoxR w w2 C R E P L vc vr ve vp vl := by
 obtain ⟨w2, hw2⟩ : ∃ w2, w2 = w.alloc (.cells #[vc, vr, ve, vp] 27) := ⟨_, rfl⟩
 have hb2 : Below w.heap.size w w2 := by rw [hw2]; exact (Below.refl _ w).alloc (Nat.le_refl _) _
 have hnb : w2.heap[w.heap.size]? = some (.cells #[vc, vr, ve, vp] 27 (0, 0)) := by rw [hw2]; exact block_new w _
 have hlt : w.heap.size < w2.heap.size := (Array.getElem?_eq_some_iff.1 hnb).1
 refine ⟨w2, hw2, hb2, fun W hW => ?_, fun W hW => ?_, fun h0 W hW u lim hu => ?_⟩
 ·have h1 := (hW.block _ hlt).trans hnb
  exact ⟨cellF h1 0 rfl, cellF h1 1 rfl, cellF h1 2 rfl, cellF h1 3 rfl⟩
 ·exact checkGetsR_any W C R E P L vc vr ve vp vl (h.below (hb2.trans (hW.mono (Nat.le_of_lt hlt)))) hw
 ·exact runX_any W C R E P L vc vr ve vp vl (h.below (hb2.trans (hW.mono (Nat.le_of_lt hlt)))) (val_of h0) (par_of h0) u lim hu
set_option maxRecDepth 100000 in
set_option maxHeartbeats 4000000 in
theorem ServeR_any (w : World) (C : List Cch) (R : List Crl) (E : List Rel) (P : List Pur) (L : List Gt) (vc vr ve vp vl : Value) (h : InS w C R E P L vc vr ve vp vl) (hw : WfS C R E P L) :
 Calls Tryz.prog 19 #[.agg #[vc, vr, ve, vp], vl] w fun e w' => (∃ v, e = .returned (.tuple #[v, .int .i64 (checkS C R E P L)]) ∧ ∃ l, Sl w' 5 encN v l ∧ (checkS C R E P L ≠ 0 → l = []) ∧ (checkS C R E P L = 0 → ∃ X, EndX C R E P L 1152921504606846976 X ∧ l = X.go)) ∧ Below w.heap.size w w' := by
 obtain ⟨w2, hbx⟩ := boxR w h hw
 have HW2 := Lib.hid hbx.al
 have HB2 := Lib.hid hbx.bel
 have HF := Lib.hid (hbx.flt w2 (Below.refl _ _))
 have HPL := Lib.hid hbx.ply
 have HQ := Lib.hid hbx.q
 obtain ⟨q0, q1, q2, q3⟩ := hbx.q w2 (Below.refl _ _)
 have HV := Lib.hid (val_of (C := C) (R := R) (E := E) (P := P) (L := L))
 clear hbx h hw
 generalize checkS C R E P L = S at HF HPL HV ⊢
 go_enter Tryz.func19, Tryz.ntmps19
 go_upto_region 1 with (fail)
 rw [← HW2.out]
 go_wp2_with (go_at_call 35; (with_reducible refine HF.out.mono ?_); rintro e w3 ⟨rfl, hb3⟩; have HB3 := Lib.hid hb3; obtain ⟨r0, r1, r2, r3⟩ := HQ.out w3 hb3; clear hb3 q0 q1 q2 q3; by_cases hS : S = 0)
 ·subst hS
  have HPW := Lib.hid (HPL.out rfl w3 HB3.out (-1) _ (.inl ⟨by decide, rfl⟩))
  go_wp2_with (go_at_call 36; (with_reducible refine HPW.out.mono ?_); rintro e w4 ⟨B, A, X, rfl, hBl, hp, hE, hb4⟩; have hc : w4.cell? ⟨A.q, 9, none⟩ = some A.gv := cellF hp.qb.2 9 rfl; have HO := Lib.hid (hp.gots.sl encN_len); have HE := Lib.hid hE; have HB4 := Lib.hid (HB2.out.thru (HB3.out.thru hb4)); clear hb4 hE hp hBl r0 r1 r2 r3)
  go_wp2_with fail
  go_ret2
  exact ⟨⟨A.gv, by rfl, X.go, HO.out, X, HE.out, rfl⟩, HB4.out⟩
 ·go_wp2_with fail
  go_ret2
  exact ⟨⟨_, by rfl, [], Sl.nil, fun _ => rfl, fun h => absurd h hS⟩, HB2.out.thru HB3.out⟩
set_option maxRecDepth 100000 in
set_option maxHeartbeats 4000000 in
theorem LoadsR_any (w : World) (C : List Cch) (R : List Crl) (E : List Rel) (P : List Pur) (L : List Gt) (vc vr ve vp vl : Value) (h : InS w C R E P L vc vr ve vp vl) (hw : WfS C R E P L) :
 Calls Tryz.prog 21 #[.agg #[vc, vr, ve, vp], vl] w fun e w' => (∃ v, e = .returned (.tuple #[v, .int .i64 (checkS C R E P L)]) ∧ ∃ l, Sl w' 6 encD v l ∧ (checkS C R E P L ≠ 0 → l = []) ∧ (checkS C R E P L = 0 → ∃ X, EndX C R E P L 1152921504606846976 X ∧ l = X.ld)) ∧ Below w.heap.size w w' := by
 obtain ⟨w2, hbx⟩ := boxR w h hw
 have HW2 := Lib.hid hbx.al
 have HB2 := Lib.hid hbx.bel
 have HF := Lib.hid (hbx.flt w2 (Below.refl _ _))
 have HPL := Lib.hid hbx.ply
 have HQ := Lib.hid hbx.q
 obtain ⟨q0, q1, q2, q3⟩ := hbx.q w2 (Below.refl _ _)
 have HV := Lib.hid (val_of (C := C) (R := R) (E := E) (P := P) (L := L))
 clear hbx h hw
 generalize checkS C R E P L = S at HF HPL HV ⊢
 go_enter Tryz.func21, Tryz.ntmps21
 go_upto_region 1 with (fail)
 rw [← HW2.out]
 go_wp2_with (go_at_call 35; (with_reducible refine HF.out.mono ?_); rintro e w3 ⟨rfl, hb3⟩; have HB3 := Lib.hid hb3; obtain ⟨r0, r1, r2, r3⟩ := HQ.out w3 hb3; clear hb3 q0 q1 q2 q3; by_cases hS : S = 0)
 ·subst hS
  have HPW := Lib.hid (HPL.out rfl w3 HB3.out (-1) _ (.inl ⟨by decide, rfl⟩))
  go_wp2_with (go_at_call 36; (with_reducible refine HPW.out.mono ?_); rintro e w4 ⟨B, A, X, rfl, hBl, hp, hE, hb4⟩; have hc : w4.cell? ⟨A.q, 10, none⟩ = some A.lv := cellF hp.qb.2 10 rfl; have HO := Lib.hid (hp.lds.sl encD_len); have HE := Lib.hid hE; have HB4 := Lib.hid (HB2.out.thru (HB3.out.thru hb4)); clear hb4 hE hp hBl r0 r1 r2 r3)
  go_wp2_with fail
  go_ret2
  exact ⟨⟨A.lv, by rfl, X.ld, HO.out, X, HE.out, rfl⟩, HB4.out⟩
 ·go_wp2_with fail
  go_ret2
  exact ⟨⟨_, by rfl, [], Sl.nil, fun _ => rfl, fun h => absurd h hS⟩, HB2.out.thru HB3.out⟩
set_option maxRecDepth 100000 in
set_option maxHeartbeats 4000000 in
theorem OldestR_any (w : World) (C : List Cch) (R : List Crl) (E : List Rel) (P : List Pur) (L : List Gt) (vc vr ve vp vl : Value) (h : InS w C R E P L vc vr ve vp vl) (hw : WfS C R E P L) :
 Calls Tryz.prog 24 #[.agg #[vc, vr, ve, vp], vl] w fun e w' => (∃ n, e = .returned (.tuple #[.int .i64 n, .bool (oldB C R E P L), .int .i64 (checkS C R E P L)]) ∧ (checkS C R E P L ≠ 0 → n = 0) ∧ (checkS C R E P L = 0 → ∃ X, EndX C R E P L 1152921504606846976 X ∧ n = oldM X.go)) ∧ Below w.heap.size w w' := by
 obtain ⟨w2, hbx⟩ := boxR w h hw
 have HW2 := Lib.hid hbx.al
 have HB2 := Lib.hid hbx.bel
 have HF := Lib.hid (hbx.flt w2 (Below.refl _ _))
 have HPL := Lib.hid hbx.ply
 have HQ := Lib.hid hbx.q
 obtain ⟨q0, q1, q2, q3⟩ := hbx.q w2 (Below.refl _ _)
 have HV := Lib.hid (val_of (C := C) (R := R) (E := E) (P := P) (L := L))
 obtain ⟨lo, lc, rfl, hlc, hlm, -, -⟩ := h.l
 clear hbx h hw
 have HOB : Hid (oldB C R E P L = decide (checkS C R E P L = 0 ∧ 0 < L.length)) := Lib.hid rfl
 generalize oldB C R E P L = ob at HOB ⊢
 generalize checkS C R E P L = S at HF HPL HV HOB ⊢
 go_enter Tryz.func24, Tryz.ntmps24
 go_upto_region 1 with (fail)
 rw [← HW2.out]
 go_wp2_with (go_at_call 35; (with_reducible refine HF.out.mono ?_); rintro e w3 ⟨rfl, hb3⟩; have HB3 := Lib.hid hb3; obtain ⟨r0, r1, r2, r3⟩ := HQ.out w3 hb3; clear hb3 q0 q1 q2 q3; by_cases hS : S = 0)
 ·subst hS
  have HPW := Lib.hid (HPL.out rfl w3 HB3.out (-1) _ (.inl ⟨by decide, rfl⟩))
  go_wp2_with (go_at_call 36; (with_reducible refine HPW.out.mono ?_); rintro e w4 ⟨B, A, X, rfl, hBl, hp, hE, hb4⟩; have hc : w4.cell? ⟨A.q, 9, none⟩ = some A.gv := cellF hp.qb.2 9 rfl; have HE := Lib.hid hE; have HB4 := Lib.hid (HB2.out.thru (HB3.out.thru hb4)); obtain ⟨so, sc, hsv, -, -, -, hel⟩ := hp.gots.sl encN_len; clear hb4 hE hp hBl r0 r1 r2 r3; rw [hsv] at hc; have HEL := Lib.hid hel; clear hel hsv)
  have hvl : X.go.length ≤ 1000 ∧ L.length ≤ 1000 := by rw [HE.out.inv.le.2.2.1]; exact ⟨(HV.out (by trivial)).l, (HV.out (by trivial)).l⟩
  obtain ⟨hn, hlk⟩ := hvl
  have HX : Hid (∀ g, g ∈ X.go → (0 ≤ g.ti ∧ g.ti ≤ 10000000000000) ∧ (0 ≤ g.bo ∧ g.bo ≤ 10000000000000)) := Lib.hid (HE.out.gob (HV.out (by trivial)))
  go_wp2_with fail
  go_loopg [8, 10, 24] X.go.length (fun gg s8 s10 s24 wr => ∃ (kk : Nat), kk ≤ X.go.length ∧ X.go.length - kk ≤ gg ∧ s24 = .int .i64 kk ∧ s8 = .int .i64 (oldM (X.go.take kk)) ∧ Aside (Below w4.heap.size w4 wr))
  case atStart => exact ⟨0, Nat.zero_le _, by omega, rfl, rfl, Below.refl _ _⟩
  case round =>
   obtain ⟨kk, hkk, hg, rfl, rfl, BW⟩ := hrel
   by_cases hlt : kk < X.go.length
   ·have hltz : (kk : Int) < (X.go.length : Int) := by omega
    obtain ⟨g, hgk⟩ : ∃ g, X.go[kk]? = some g := ⟨_, List.getElem?_eq_getElem hlt⟩
    obtain ⟨b, off, rfl, hc2⟩ := HEL.out kk g hgk
    have hl4 := World.block_lt_of_cell? w4 _ (hc2 0 _ rfl)
    have c0 : wr.cell? ⟨b, off + kk * 5, none⟩ = some (.int .i64 g.ti) := by have h := (BW.out.cell (p := ⟨b, off + kk * 5 + 0, none⟩) hl4).trans (hc2 0 _ rfl); simpa using h
    have c1 : wr.cell? ⟨b, off + kk * 5 + 1, none⟩ = some (.int .i64 g.ve) := (BW.out.cell (p := ⟨b, off + kk * 5 + 1, none⟩) hl4).trans (hc2 1 _ rfl)
    have c2 : wr.cell? ⟨b, off + kk * 5 + 2, none⟩ = some (.int .i64 g.bo) := (BW.out.cell (p := ⟨b, off + kk * 5 + 2, none⟩) hl4).trans (hc2 2 _ rfl)
    have c3 : wr.cell? ⟨b, off + kk * 5 + 3, none⟩ = some (.string g.fr) := (BW.out.cell (p := ⟨b, off + kk * 5 + 3, none⟩) hl4).trans (hc2 3 _ rfl)
    have c4 : wr.cell? ⟨b, off + kk * 5 + 4, none⟩ = some (.int .i64 g.ho) := (BW.out.cell (p := ⟨b, off + kk * 5 + 4, none⟩) hl4).trans (hc2 4 _ rfl)
    obtain ⟨⟨b1, b2⟩, b3, b4⟩ := HX.out g (List.mem_of_getElem? hgk)
    have HNX : Hid (max (oldM (X.go.take kk)) (g.ti - g.bo) = oldM (X.go.take (kk + 1))) := Lib.hid (by rw [List.take_add_one, hgk]; exact (oldM_app _ _).symm)
    have hsz := BW.out.size
    generalize oldM (X.go.take kk) = m at HNX ⊢
    have HB := Lib.hid (BW.out.alloc hsz (.cells #[.int .i64 g.ti, .int .i64 g.ve, .int .i64 g.bo, .string g.fr, .int .i64 g.ho] 35))
    clear hc2 hgk
    go_wp2_with fail
    go_roundg (X.go.length - (kk + 1))
    case measure => omega
    case rel => exact ⟨kk + 1, by omega, by omega, by go_num, by rw [← HNX.out], HB.out⟩
   ·obtain rfl : kk = X.go.length := by omega
    have hltz : ¬ (X.go.length : Int) < (X.go.length : Int) := by omega
    have HB1 : Hid (ob = decide (0 < L.length)) := Lib.hid (by rw [HOB.out]; simp)
    go_wp2_with fail
    go_ret3
    exact ⟨⟨_, by rw [HB1.out]; rfl, X, HE.out, rfl⟩, HB4.out.trans (BW.out.mono HB4.out.size)⟩
 ·have HB1 : Hid (ob = false) := Lib.hid (by rw [HOB.out]; simp [hS])
  go_wp2_with fail
  go_ret3
  exact ⟨⟨_, by rw [HB1.out]; rfl, fun _ => rfl, fun h => absurd h hS⟩, HB2.out.thru HB3.out⟩
section
variable {C : List Cch} {R : List Crl} {E : List Rel} {P : List Pur} {L : List Gt} {X X' : Xd} {pd pd' : List Xw} {T lim : Int} {v : Nat → Option Gtn}
theorem XReach.trans {m m' m'' : Mod} {X'' : Xd} (h : XReach C R E P L lim m X m' X') (k : XReach C R E P L lim m' X' m'' X'') : XReach C R E P L lim m X m'' X'' := by
 induction k with
 | refl => exact h
 | step _ hn ih => exact .step (ih h) hn
theorem XReach.inv {m m' : Mod} (h : XReach C R E P L lim m X m' X') : (m' = m ∧ X' = X) ∨ ∃ m1 X1, X.next C R E P L lim m = some (m1, X1) ∧ XReach C R E P L lim m1 X1 m' X' := by
 induction h with
 | refl => exact .inl ⟨rfl, rfl⟩
 | step _ hn ih =>
  right
  rcases ih with ⟨rfl, rfl⟩ | ⟨m1, X1, h1, h2⟩
  ·exact ⟨_, _, hn, .refl _ _⟩
  ·exact ⟨m1, X1, h1, .step h2 hn⟩
theorem XReach.dir {m m1 m2 : Mod} {X1 X2 : Xd} (h : XReach C R E P L lim m X m1 X1) (k : XReach C R E P L lim m X m2 X2) : XReach C R E P L lim m1 X1 m2 X2 ∨ XReach C R E P L lim m2 X2 m1 X1 := by
 induction k with
 | refl => exact .inr h
 | step _ hn ih =>
  rcases ih h with h1 | h1
  ·exact .inl (.step h1 hn)
  ·rcases h1.inv with ⟨rfl, rfl⟩ | ⟨m3, X3, h2, h3⟩
   ·exact .inl (.step (.refl _ _) hn)
   ·rw [hn] at h2
    cases h2
    exact .inr h3
theorem XReach.last {m m1 m2 : Mod} {X1 X2 : Xd} (h : XReach C R E P L lim m X m1 X1) (k : XReach C R E P L lim m X m2 X2) (h1 : X1.next C R E P L lim m1 = none) : XReach C R E P L lim m2 X2 m1 X1 := by
 rcases h.dir k with g | g
 ·rcases g.inv with ⟨rfl, rfl⟩ | ⟨m3, X3, h2, h3⟩
  ·exact .refl _ _
  ·rw [h1] at h2; cases h2
 ·exact g
theorem EndX.uniq (h : EndX C R E P L lim X) (k : EndX C R E P L lim X') : X = X' := by
 rcases (h.rch.last k.rch h.nxt).inv with ⟨_, e⟩ | ⟨m3, X3, h2, _⟩
 ·exact e
 ·rw [k.nxt] at h2; cases h2
theorem Val.take (h : Val C R E P L) (k : Nat) : Val C R E P (L.take k) :=
 { h with
   l := by rw [List.length_take]; have := h.l; omega
   ls := fun i j x y hij hx hy => by
    rw [List.getElem?_take] at hx hy
    split at hx
    ·split at hy
     ·exact h.ls i j x y hij hx hy
     ·cases hy
    ·cases hx
   lt := fun x hx => h.lt x (List.mem_of_mem_take hx) }
end
end Go.Proofs.YtgohddfnhofjhaaGreatDoor
namespace Go.Proofs
open Go.Shelf
def Tryz.laysIns_ren : Go.Shelf.Ren := ⟨fun | 20 => 138 | n => n, fun | 24 => 9 | 22 => 114 | 3 => 3 | 25 => 99 | 4 => 4 | 0 => 0 | n => n, fun | n => n⟩
theorem Tryz.laysIns : Go.Proofs.SlLaysF.n20 Tryz.prog Tryz.laysIns_ren := {
 mixed := by kernel_rfl
 f20 := ⟨Tryz.f138.name, by decide, Tryz.func138.trans (congrArg some (by kernel_rfl))⟩
 t0 := Tryz.underlying0
 a0 := Tryz.isAgg0
 z0 := Tryz.sizeOf0
 v0 := Tryz.zeroValue0
 t3 := Tryz.underlying3
 a3 := Tryz.isAgg3
 z3 := Tryz.sizeOf3
 v3 := Tryz.zeroValue3
 t4 := Tryz.underlying4
 a4 := Tryz.isAgg4
 z4 := Tryz.sizeOf4
 v4 := Tryz.zeroValue4
 t22 := Tryz.underlying114
 a22 := Tryz.isAgg114
 z22 := Tryz.sizeOf114
 v22 := Tryz.zeroValue114
 a24 := Tryz.isAgg9
 z24 := Tryz.sizeOf9
 t25 := Tryz.underlying99
 a25 := Tryz.isAgg99
 z25 := Tryz.sizeOf99
 v25 := Tryz.zeroValue99 }
end Go.Proofs

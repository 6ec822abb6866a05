/- A slice that the call owns, as slices.SortFunc sees it, and back; strings in order. -/
import Derived.Test.YtgohddfnhofjhaaGreatDoorK28
import Derived.Test.YtgohddfnhofjhaaGreatDoorK29
import Derived.Test.YtgohddfnhofjhaaGreatDoorK21
import Derived.Shelf.SlSortCmp.NoneTotal
import Derived.Shelf.SlGeneric
import Derived.Test.YtgohddfnhofjhaaGreatDoorProg
import Derived.Lib.OwnBridge
import Derived.Test.YtgohddfnhofjhaaGreatDoorK15
import Derived.Test.YtgohddfnhofjhaaGreatDoorK01
set_option maxRecDepth 100000
set_option maxHeartbeats 4000000
namespace Go.Proofs.YtgohddfnhofjhaaGreatDoor
open Go.RowKit
theorem al4 (W : World) (o1 o2 o3 o4 : Obj) : ((((W.drew.alloc o1).alloc o2).alloc o3).alloc o4).heap[W.heap.size]? = some o1 ∧ ((((W.drew.alloc o1).alloc o2).alloc o3).alloc o4).heap[W.heap.size + 1]? = some o2 ∧ ((((W.drew.alloc o1).alloc o2).alloc o3).alloc o4).heap[W.heap.size + 2]? = some o3 ∧ ((((W.drew.alloc o1).alloc o2).alloc o3).alloc o4).heap[W.heap.size + 3]? = some o4 ∧ Below W.heap.size W ((((W.drew.alloc o1).alloc o2).alloc o3).alloc o4) := by
 refine ⟨?_, ?_, ?_, ?_, ((((LD _ W).drew.alloc (Ls _) _).alloc (by simp) _).alloc (by simp <;> omega) _).alloc (by simp <;> omega) _⟩
 ·rw [Below.heap_alloc _ _ _ (by simp <;> omega), Below.heap_alloc _ _ _ (by simp <;> omega), Below.heap_alloc _ _ _ (by simp)]; exact ag W.drew _
 ·rw [Below.heap_alloc _ _ _ (by simp <;> omega), Below.heap_alloc _ _ _ (by simp)]; have h := ag (W.drew.alloc o1) o2
  simpa using h
 ·rw [Below.heap_alloc _ _ _ (by simp)]; have h := ag ((W.drew.alloc o1).alloc o2) o3
  simpa using h
 ·have h := ag (((W.drew.alloc o1).alloc o2).alloc o3) o4
  simpa using h
theorem vW {C : List Cch} {R : List Crl} {E : List Rel} {P : List Pur} {L : List Gt} {X : Xd} (hv : Val C R E P L) (hx : aP C P L [] X) : ∀ t, t ∈ X.times P L → 0 ≤ t := fun t ht => by
 rcases bD.1 ht with ⟨x, hx2, rfl⟩ | ⟨x, hx2, rfl⟩ | ⟨j, k, hk, e⟩
 ·exact (hv.lt x (List.mem_of_getElem? hx2)).1.1
 ·exact (hv.pt x (List.mem_of_getElem? hx2)).1.1
 ·have h1 := hx.tm j k hk; have h2 := hx.no; rcases e with ⟨e1, rfl⟩ | ⟨e1, e2, rfl⟩
  ·have := (h1.2.1 e1).1; omega
  ·have := (h1.2.2 e1 e2).1; omega
set_option linter.unusedSimpArgs false in
theorem Em (w : World) (C : List Cch) (R : List Crl) (E : List Rel) (P : List Pur) (L : List Gt) (vc vr ve vp vl : Value) (h : InS w C R E P L vc vr ve vp vl) (hv : Val C R E P L) (hpa : Ik C) (u lim : Int) (hu : (u < 0 ∧ lim = 1152921504606846976) ∨ (0 ≤ u ∧ lim = u)) :
 Calls Tryz.prog 36 #[.agg #[vc, vr, ve, vp], vl, .int .i64 u] w fun e w' => ∃ B A X, e = .returned (.pointer (some ⟨A.q, 0, none⟩)) ∧ w.heap.size ≤ B ∧ RD w' B A X ∧ qp C R E P L lim X ∧ Below w.heap.size w w' := by
 obtain ⟨w2, hw2⟩ : ∃ w2, w2 = w.alloc (.cells #[vc, vr, ve, vp] 27) := ⟨_, rfl⟩
 have hb2 : Below w.heap.size w w2 := by rw [hw2]; exact (LD _ w).alloc (Ls _) _
 have hnb : w2.heap[w.heap.size]? = some (.cells #[vc, vr, ve, vp] 27 (0, 0)) := by rw [hw2]; exact ag w _
 have hnl := (Array.getElem?_eq_some_iff.1 hnb).1; have h2 := h.below hb2; obtain ⟨co, cc, rfl, -⟩ := h2.c; obtain ⟨lo, lc, rfl, -⟩ := h2.l; have HQ : Hid (∀ W : World, Below w2.heap.size w2 W → W.cell? ⟨w.heap.size, 0, none⟩ = some (.slice co C.length cc) ∧ W.cell? ⟨w.heap.size, 1, none⟩ = some vr ∧ W.cell? ⟨w.heap.size, 2, none⟩ = some ve ∧ W.cell? ⟨w.heap.size, 3, none⟩ = some vp) := Lr fun W hW => by
  have h1 := (hW.block _ hnl).trans hnb; exact ⟨af h1 0 rfl, af h1 1 rfl, af h1 2 rfl, af h1 3 rfl⟩
 have hc30 := hv.c; have hl1 := hv.l; have hm1 := tX L.length hv.l; have hm2 := BP C.length (by omega); have hm3 := ED C.length (by omega); have HBQ : Hid (Below w2.heap.size w2 w2.drew) := Lr (LD _ w2).drew; have HIN := Lr h2; have HW2 := Lr hw2; have HB2 := Lr hb2; have HV := Lr hv; have HPA := Lr hpa; have HNL := Lr hnl; clear h hw2 hb2 hnb h2 hv hpa hnl; obtain ⟨GR, hGR⟩ : ∃ GR : Array Value, GR = ((List.replicate L.length (⟨0, 0, 0, ⟨#[]⟩, 0⟩ : Gtn)).flatMap jF).toArray := ⟨_, rfl⟩
 obtain ⟨HR, hHR⟩ : ∃ HR : Array Value, HR = ((List.replicate C.length (Value.slice none 0 0)).flatMap zO).toArray := ⟨_, rfl⟩
 obtain ⟨LR, hLR⟩ : ∃ LR : Array Value, LR = ((List.replicate C.length (default : Ldd)).flatMap lL).toArray := ⟨_, rfl⟩
 rw [← hGR] at hm1; rw [← hHR] at hm2; rw [← hLR] at hm3; have HR3 := Lr (And.intro hGR (And.intro hHR hLR)); clear hGR hHR hLR
 go_enter Tryz.func36, Tryz.ntmps36
 go_upto_region 1 with (fail)
 rw [← HW2.out]
 go_cut [7] (fun s7 W => ∃ q hb gb lb, s7 = .pointer (some ⟨q, 0, none⟩) ∧ Aside (Kw w2 W (.slice co C.length cc) vr ve vp (.slice lo L.length lc) C.length L.length q hb gb lb))
 case first =>
  refine wp_region_held_drew (S := fun W => Below w2.heap.size w2 W) (by kernel_rfl) HBQ.out (fun hHeld => ?_); refine tkI 0 9 hHeld (hy := by (intro w' hSw; obtain ⟨z0, z1, z2, z3⟩ := HQ.out _ hSw; go_simp) <;> with_reducible rfl) (h := ?_)
  try simp only [pu]
  refine tkI 1 10 hHeld (h := ?_)
  try simp only [pu]
  refine tkI 2 11 hHeld (h := ?_)
  try simp only [pu]
  refine tkI 3 12 hHeld (hy := by (intro w' hSw; obtain ⟨z0, z1, z2, z3⟩ := HQ.out _ hSw; go_simp) <;> with_reducible rfl) (h := ?_)
  try simp only [pu]
  refine tkI 4 13 hHeld (h := ?_)
  try simp only [pu]
  refine tkI 6 15 hHeld (h := ?_)
  try simp only [pu]
  refine tkI 7 16 hHeld (h := ?_)
  try simp only [pu]
  refine tkI 9 18 hHeld (h := ?_)
  try simp only [pu]
  refine tkI 10 19 hHeld (hy := by (intro w' hSw; obtain ⟨z0, z1, z2, z3⟩ := HQ.out _ hSw; go_simp) <;> with_reducible rfl) (h := ?_)
  try simp only [pu]
  refine tkI 11 20 hHeld (h := ?_)
  try simp only [pu]
  refine wpAnyH_ready (rs := [5, 8, 12]) (by kernel_rfl) (by simp) (AllReadyH.cons rfl (fun K hK => ?_) (AllReadyH.cons rfl (fun K hK => ?_) (AllReadyH.cons rfl (fun K hK => ?_) AllReadyH.nil)))
  ·have HBN1 := Lr (HBQ.out.alloc HBQ.out.size (.cells HR 103 (0, 0)))
   go_simp
   refine hK.out _ _ HBN1.out (fun hHeld => ?_); clear hK K
   try simp only [pu]
   refine wpAnyH_ready (rs := [8, 12]) (by kernel_rfl) (by simp) (AllReadyH.cons rfl (fun K hK => ?_) (AllReadyH.cons rfl (fun K hK => ?_) AllReadyH.nil))
   ·have HBN2 := Lr (HBN1.out.alloc HBN1.out.size (.cells GR 35 (0, 0)))
    go_simp
    refine hK.out _ _ HBN2.out (fun hHeld => ?_); clear hK K
    try simp only [pu]
    refine wpAnyH_ready (rs := [12]) (by kernel_rfl) (by simp) (AllReadyH.cons rfl (fun K hK => ?_) AllReadyH.nil); have HBN3 := Lr (HBN2.out.alloc HBN2.out.size (.cells LR 50 (0, 0)))
    go_simp
    refine hK.out _ _ HBN3.out (fun hHeld => ?_); clear hK K
    try simp only [pu]
    refine tkI 13 22 hHeld (h := ?_)
    try simp only [pu]
    have HBD := Lr (HBN3.out.alloc HBN3.out.size (.cells #[.slice co C.length cc, vr, ve, vp, .slice lo L.length lc, .int .i64 0, .int .i64 0, .slice none 0 0, .slice (some ⟨w2.heap.size, 0, none⟩) C.length C.length, .slice (some ⟨w2.heap.size + 1, 0, none⟩) L.length L.length, .slice (some ⟨w2.heap.size + 2, 0, none⟩) C.length C.length, .int .i64 0] 88 (0, 0))); refine wpAnyH_ready (rs := [14]) (by kernel_rfl) (by simp) (AllReadyH.cons rfl (fun K hK => ?_) AllReadyH.nil)
    go_simp
    refine hK.out _ _ HBD.out (fun hHeld => ?_); clear hK K
    try simp only [pu]
    refine tkI 15 7 hHeld (h := ?_)
    try simp only [pu]
    refine wpAnyH_done (by kernel_rfl) ?_ _; clear hHeld
    go_wp2_with fail
    go_meet
    obtain ⟨a1, a2, a3, a4, a5⟩ := al4 w2 (.cells HR 103 (0, 0)) (.cells GR 35 (0, 0)) (.cells LR 50 (0, 0)) (.cells #[.slice co C.length cc, vr, ve, vp, .slice lo L.length lc, .int .i64 0, .int .i64 0, .slice none 0 0, .slice (some ⟨w2.heap.size, 0, none⟩) C.length C.length, .slice (some ⟨w2.heap.size + 1, 0, none⟩) L.length L.length, .slice (some ⟨w2.heap.size + 2, 0, none⟩) C.length C.length, .int .i64 0] 88 (0, 0)); obtain ⟨e1, e2, e3⟩ := HR3.out; exact ⟨w2.heap.size + 3, w2.heap.size, w2.heap.size + 1, w2.heap.size + 2, by simp, (show Aside _ from ⟨a5, ⟨⟨by omega, by omega, by omega, by omega⟩, ⟨by omega, by omega, by omega⟩, by omega, by omega, by omega⟩, by rw [← e2]; exact a1, by rw [← e1]; exact a2, by rw [← e3]; exact a3, a4⟩)⟩
   ·have HBN2 := Lr (HBN1.out.alloc HBN1.out.size (.cells LR 50 (0, 0)))
    go_simp
    refine hK.out _ _ HBN2.out (fun hHeld => ?_); clear hK K
    try simp only [pu]
    refine wpAnyH_ready (rs := [8]) (by kernel_rfl) (by simp) (AllReadyH.cons rfl (fun K hK => ?_) AllReadyH.nil); have HBN3 := Lr (HBN2.out.alloc HBN2.out.size (.cells GR 35 (0, 0)))
    go_simp
    refine hK.out _ _ HBN3.out (fun hHeld => ?_); clear hK K
    try simp only [pu]
    refine tkI 13 22 hHeld (h := ?_)
    try simp only [pu]
    have HBD := Lr (HBN3.out.alloc HBN3.out.size (.cells #[.slice co C.length cc, vr, ve, vp, .slice lo L.length lc, .int .i64 0, .int .i64 0, .slice none 0 0, .slice (some ⟨w2.heap.size, 0, none⟩) C.length C.length, .slice (some ⟨w2.heap.size + 2, 0, none⟩) L.length L.length, .slice (some ⟨w2.heap.size + 1, 0, none⟩) C.length C.length, .int .i64 0] 88 (0, 0))); refine wpAnyH_ready (rs := [14]) (by kernel_rfl) (by simp) (AllReadyH.cons rfl (fun K hK => ?_) AllReadyH.nil)
    go_simp
    refine hK.out _ _ HBD.out (fun hHeld => ?_); clear hK K
    try simp only [pu]
    refine tkI 15 7 hHeld (h := ?_)
    try simp only [pu]
    refine wpAnyH_done (by kernel_rfl) ?_ _; clear hHeld
    go_wp2_with fail
    go_meet
    obtain ⟨a1, a2, a3, a4, a5⟩ := al4 w2 (.cells HR 103 (0, 0)) (.cells LR 50 (0, 0)) (.cells GR 35 (0, 0)) (.cells #[.slice co C.length cc, vr, ve, vp, .slice lo L.length lc, .int .i64 0, .int .i64 0, .slice none 0 0, .slice (some ⟨w2.heap.size, 0, none⟩) C.length C.length, .slice (some ⟨w2.heap.size + 2, 0, none⟩) L.length L.length, .slice (some ⟨w2.heap.size + 1, 0, none⟩) C.length C.length, .int .i64 0] 88 (0, 0)); obtain ⟨e1, e2, e3⟩ := HR3.out; exact ⟨w2.heap.size + 3, w2.heap.size, w2.heap.size + 2, w2.heap.size + 1, by simp, (show Aside _ from ⟨a5, ⟨⟨by omega, by omega, by omega, by omega⟩, ⟨by omega, by omega, by omega⟩, by omega, by omega, by omega⟩, by rw [← e2]; exact a1, by rw [← e1]; exact a3, by rw [← e3]; exact a2, a4⟩)⟩
  ·have HBN1 := Lr (HBQ.out.alloc HBQ.out.size (.cells GR 35 (0, 0)))
   go_simp
   refine hK.out _ _ HBN1.out (fun hHeld => ?_); clear hK K
   try simp only [pu]
   refine wpAnyH_ready (rs := [5, 12]) (by kernel_rfl) (by simp) (AllReadyH.cons rfl (fun K hK => ?_) (AllReadyH.cons rfl (fun K hK => ?_) AllReadyH.nil))
   ·have HBN2 := Lr (HBN1.out.alloc HBN1.out.size (.cells HR 103 (0, 0)))
    go_simp
    refine hK.out _ _ HBN2.out (fun hHeld => ?_); clear hK K
    try simp only [pu]
    refine wpAnyH_ready (rs := [12]) (by kernel_rfl) (by simp) (AllReadyH.cons rfl (fun K hK => ?_) AllReadyH.nil); have HBN3 := Lr (HBN2.out.alloc HBN2.out.size (.cells LR 50 (0, 0)))
    go_simp
    refine hK.out _ _ HBN3.out (fun hHeld => ?_); clear hK K
    try simp only [pu]
    refine tkI 13 22 hHeld (h := ?_)
    try simp only [pu]
    have HBD := Lr (HBN3.out.alloc HBN3.out.size (.cells #[.slice co C.length cc, vr, ve, vp, .slice lo L.length lc, .int .i64 0, .int .i64 0, .slice none 0 0, .slice (some ⟨w2.heap.size + 1, 0, none⟩) C.length C.length, .slice (some ⟨w2.heap.size, 0, none⟩) L.length L.length, .slice (some ⟨w2.heap.size + 2, 0, none⟩) C.length C.length, .int .i64 0] 88 (0, 0))); refine wpAnyH_ready (rs := [14]) (by kernel_rfl) (by simp) (AllReadyH.cons rfl (fun K hK => ?_) AllReadyH.nil)
    go_simp
    refine hK.out _ _ HBD.out (fun hHeld => ?_); clear hK K
    try simp only [pu]
    refine tkI 15 7 hHeld (h := ?_)
    try simp only [pu]
    refine wpAnyH_done (by kernel_rfl) ?_ _; clear hHeld
    go_wp2_with fail
    go_meet
    obtain ⟨a1, a2, a3, a4, a5⟩ := al4 w2 (.cells GR 35 (0, 0)) (.cells HR 103 (0, 0)) (.cells LR 50 (0, 0)) (.cells #[.slice co C.length cc, vr, ve, vp, .slice lo L.length lc, .int .i64 0, .int .i64 0, .slice none 0 0, .slice (some ⟨w2.heap.size + 1, 0, none⟩) C.length C.length, .slice (some ⟨w2.heap.size, 0, none⟩) L.length L.length, .slice (some ⟨w2.heap.size + 2, 0, none⟩) C.length C.length, .int .i64 0] 88 (0, 0)); obtain ⟨e1, e2, e3⟩ := HR3.out; exact ⟨w2.heap.size + 3, w2.heap.size + 1, w2.heap.size, w2.heap.size + 2, by simp, (show Aside _ from ⟨a5, ⟨⟨by omega, by omega, by omega, by omega⟩, ⟨by omega, by omega, by omega⟩, by omega, by omega, by omega⟩, by rw [← e2]; exact a2, by rw [← e1]; exact a1, by rw [← e3]; exact a3, a4⟩)⟩
   ·have HBN2 := Lr (HBN1.out.alloc HBN1.out.size (.cells LR 50 (0, 0)))
    go_simp
    refine hK.out _ _ HBN2.out (fun hHeld => ?_); clear hK K
    try simp only [pu]
    refine wpAnyH_ready (rs := [5]) (by kernel_rfl) (by simp) (AllReadyH.cons rfl (fun K hK => ?_) AllReadyH.nil); have HBN3 := Lr (HBN2.out.alloc HBN2.out.size (.cells HR 103 (0, 0)))
    go_simp
    refine hK.out _ _ HBN3.out (fun hHeld => ?_); clear hK K
    try simp only [pu]
    refine tkI 13 22 hHeld (h := ?_)
    try simp only [pu]
    have HBD := Lr (HBN3.out.alloc HBN3.out.size (.cells #[.slice co C.length cc, vr, ve, vp, .slice lo L.length lc, .int .i64 0, .int .i64 0, .slice none 0 0, .slice (some ⟨w2.heap.size + 2, 0, none⟩) C.length C.length, .slice (some ⟨w2.heap.size, 0, none⟩) L.length L.length, .slice (some ⟨w2.heap.size + 1, 0, none⟩) C.length C.length, .int .i64 0] 88 (0, 0))); refine wpAnyH_ready (rs := [14]) (by kernel_rfl) (by simp) (AllReadyH.cons rfl (fun K hK => ?_) AllReadyH.nil)
    go_simp
    refine hK.out _ _ HBD.out (fun hHeld => ?_); clear hK K
    try simp only [pu]
    refine tkI 15 7 hHeld (h := ?_)
    try simp only [pu]
    refine wpAnyH_done (by kernel_rfl) ?_ _; clear hHeld
    go_wp2_with fail
    go_meet
    obtain ⟨a1, a2, a3, a4, a5⟩ := al4 w2 (.cells GR 35 (0, 0)) (.cells LR 50 (0, 0)) (.cells HR 103 (0, 0)) (.cells #[.slice co C.length cc, vr, ve, vp, .slice lo L.length lc, .int .i64 0, .int .i64 0, .slice none 0 0, .slice (some ⟨w2.heap.size + 2, 0, none⟩) C.length C.length, .slice (some ⟨w2.heap.size, 0, none⟩) L.length L.length, .slice (some ⟨w2.heap.size + 1, 0, none⟩) C.length C.length, .int .i64 0] 88 (0, 0)); obtain ⟨e1, e2, e3⟩ := HR3.out; exact ⟨w2.heap.size + 3, w2.heap.size + 2, w2.heap.size, w2.heap.size + 1, by simp, (show Aside _ from ⟨a5, ⟨⟨by omega, by omega, by omega, by omega⟩, ⟨by omega, by omega, by omega⟩, by omega, by omega, by omega⟩, by rw [← e2]; exact a3, by rw [← e1]; exact a1, by rw [← e3]; exact a2, a4⟩)⟩
  ·have HBN1 := Lr (HBQ.out.alloc HBQ.out.size (.cells LR 50 (0, 0)))
   go_simp
   refine hK.out _ _ HBN1.out (fun hHeld => ?_); clear hK K
   try simp only [pu]
   refine wpAnyH_ready (rs := [5, 8]) (by kernel_rfl) (by simp) (AllReadyH.cons rfl (fun K hK => ?_) (AllReadyH.cons rfl (fun K hK => ?_) AllReadyH.nil))
   ·have HBN2 := Lr (HBN1.out.alloc HBN1.out.size (.cells HR 103 (0, 0)))
    go_simp
    refine hK.out _ _ HBN2.out (fun hHeld => ?_); clear hK K
    try simp only [pu]
    refine wpAnyH_ready (rs := [8]) (by kernel_rfl) (by simp) (AllReadyH.cons rfl (fun K hK => ?_) AllReadyH.nil); have HBN3 := Lr (HBN2.out.alloc HBN2.out.size (.cells GR 35 (0, 0)))
    go_simp
    refine hK.out _ _ HBN3.out (fun hHeld => ?_); clear hK K
    try simp only [pu]
    refine tkI 13 22 hHeld (h := ?_)
    try simp only [pu]
    have HBD := Lr (HBN3.out.alloc HBN3.out.size (.cells #[.slice co C.length cc, vr, ve, vp, .slice lo L.length lc, .int .i64 0, .int .i64 0, .slice none 0 0, .slice (some ⟨w2.heap.size + 1, 0, none⟩) C.length C.length, .slice (some ⟨w2.heap.size + 2, 0, none⟩) L.length L.length, .slice (some ⟨w2.heap.size, 0, none⟩) C.length C.length, .int .i64 0] 88 (0, 0))); refine wpAnyH_ready (rs := [14]) (by kernel_rfl) (by simp) (AllReadyH.cons rfl (fun K hK => ?_) AllReadyH.nil)
    go_simp
    refine hK.out _ _ HBD.out (fun hHeld => ?_); clear hK K
    try simp only [pu]
    refine tkI 15 7 hHeld (h := ?_)
    try simp only [pu]
    refine wpAnyH_done (by kernel_rfl) ?_ _; clear hHeld
    go_wp2_with fail
    go_meet
    obtain ⟨a1, a2, a3, a4, a5⟩ := al4 w2 (.cells LR 50 (0, 0)) (.cells HR 103 (0, 0)) (.cells GR 35 (0, 0)) (.cells #[.slice co C.length cc, vr, ve, vp, .slice lo L.length lc, .int .i64 0, .int .i64 0, .slice none 0 0, .slice (some ⟨w2.heap.size + 1, 0, none⟩) C.length C.length, .slice (some ⟨w2.heap.size + 2, 0, none⟩) L.length L.length, .slice (some ⟨w2.heap.size, 0, none⟩) C.length C.length, .int .i64 0] 88 (0, 0)); obtain ⟨e1, e2, e3⟩ := HR3.out; exact ⟨w2.heap.size + 3, w2.heap.size + 1, w2.heap.size + 2, w2.heap.size, by simp, (show Aside _ from ⟨a5, ⟨⟨by omega, by omega, by omega, by omega⟩, ⟨by omega, by omega, by omega⟩, by omega, by omega, by omega⟩, by rw [← e2]; exact a2, by rw [← e1]; exact a3, by rw [← e3]; exact a1, a4⟩)⟩
   ·have HBN2 := Lr (HBN1.out.alloc HBN1.out.size (.cells GR 35 (0, 0)))
    go_simp
    refine hK.out _ _ HBN2.out (fun hHeld => ?_); clear hK K
    try simp only [pu]
    refine wpAnyH_ready (rs := [5]) (by kernel_rfl) (by simp) (AllReadyH.cons rfl (fun K hK => ?_) AllReadyH.nil); have HBN3 := Lr (HBN2.out.alloc HBN2.out.size (.cells HR 103 (0, 0)))
    go_simp
    refine hK.out _ _ HBN3.out (fun hHeld => ?_); clear hK K
    try simp only [pu]
    refine tkI 13 22 hHeld (h := ?_)
    try simp only [pu]
    have HBD := Lr (HBN3.out.alloc HBN3.out.size (.cells #[.slice co C.length cc, vr, ve, vp, .slice lo L.length lc, .int .i64 0, .int .i64 0, .slice none 0 0, .slice (some ⟨w2.heap.size + 2, 0, none⟩) C.length C.length, .slice (some ⟨w2.heap.size + 1, 0, none⟩) L.length L.length, .slice (some ⟨w2.heap.size, 0, none⟩) C.length C.length, .int .i64 0] 88 (0, 0))); refine wpAnyH_ready (rs := [14]) (by kernel_rfl) (by simp) (AllReadyH.cons rfl (fun K hK => ?_) AllReadyH.nil)
    go_simp
    refine hK.out _ _ HBD.out (fun hHeld => ?_); clear hK K
    try simp only [pu]
    refine tkI 15 7 hHeld (h := ?_)
    try simp only [pu]
    refine wpAnyH_done (by kernel_rfl) ?_ _; clear hHeld
    go_wp2_with fail
    go_meet
    obtain ⟨a1, a2, a3, a4, a5⟩ := al4 w2 (.cells LR 50 (0, 0)) (.cells GR 35 (0, 0)) (.cells HR 103 (0, 0)) (.cells #[.slice co C.length cc, vr, ve, vp, .slice lo L.length lc, .int .i64 0, .int .i64 0, .slice none 0 0, .slice (some ⟨w2.heap.size + 2, 0, none⟩) C.length C.length, .slice (some ⟨w2.heap.size + 1, 0, none⟩) L.length L.length, .slice (some ⟨w2.heap.size, 0, none⟩) C.length C.length, .int .i64 0] 88 (0, 0)); obtain ⟨e1, e2, e3⟩ := HR3.out; exact ⟨w2.heap.size + 3, w2.heap.size + 2, w2.heap.size + 1, w2.heap.size, by simp, (show Aside _ from ⟨a5, ⟨⟨by omega, by omega, by omega, by omega⟩, ⟨by omega, by omega, by omega⟩, by omega, by omega, by omega⟩, by rw [← e2]; exact a3, by rw [← e1]; exact a2, by rw [← e3]; exact a1, a4⟩)⟩
 obtain ⟨q, hb, gb, lb, rfl, DB⟩ := hcut; obtain ⟨w3, rfl⟩ : ∃ w3, w3 = wc := ⟨_, rfl⟩
 have hr0 := DB.out.rd hc30 hl1; obtain ⟨A0, hA0⟩ : ∃ A0 : Rdr, A0 = ⟨q, .slice co C.length cc, vr, ve, vp, .slice lo L.length lc, .slice none 0 0, .slice (some ⟨hb, 0, none⟩) C.length C.length, .slice (some ⟨gb, 0, none⟩) L.length L.length, .slice (some ⟨lb, 0, none⟩) C.length C.length, [], List.replicate C.length (.slice none 0 0), []⟩ := ⟨_, rfl⟩
 rw [← hA0] at hr0; obtain rfl : q = A0.q := by rw [hA0]
 have HE : Hid (oK w2 w2.heap.size A0 C R E P L) := Lr ⟨Ls _, by rw [hA0]; exact HIN.out.c, by rw [hA0]; exact HIN.out.r, by rw [hA0]; exact HIN.out.e, by rw [hA0]; exact HIN.out.p, by rw [hA0]; exact HIN.out.l⟩; have HR0 := Lr hr0; have HB3 := Lr DB.out.bel; have HI0 : Hid (RInv C R E P L lim .out (xd0 C L.length)) := Lr (RInv.zero HV.out); have HCM : Hid (∀ (W : World) (A' : Rdr) (X : Xd), RD W w2.heap.size A' X → bW A0 A' → Below w2.heap.size w2 W → RInv C R E P L lim .out X → Calls Tryz.prog 64 #[.pointer (some ⟨A0.q, 0, none⟩)] W fun e w' => e = .returned (.int .i64 ((pX (X.times P L)).getD (-1))) ∧ Below W.heap.size W w') := Lr fun W A' X hr hle hb hi => by
  have hE := HE.out.le hle; have h1 := vJ W w2.heap.size A' X hr P L (hE.p.below hb (Ls _)) (hE.l.below hb (Ls _)) (vW HV.out hi.inv) (by obtain ⟨n, hcn, hn⟩ := hi.cap; have := hcn.ak; omega); rw [hle.q] at h1; exact h1
 have HSP : Hid (∀ (W : World) (A' : Rdr) (X : Xd) (t : Int), RD W w2.heap.size A' X → bW A0 A' → Below w2.heap.size w2 W → RInv C R E P L lim .out X → pX (X.times P L) = some t → ¬ lim < t → Calls Tryz.prog 65 #[.pointer (some ⟨A0.q, 0, none⟩), .int .i64 t] W (DT C R E P L lim W w2.heap.size A' X)) := Lr fun W A' X t hr hle hb hi ht hlt => by
  have h1 := Aw w2 W w2.heap.size A' X hr C R E P L (HE.out.le hle) hb HV.out HPA.out lim hi t ht hlt; rw [hle.q] at h1; exact h1
 clear DB hr0 hA0 HQ hm1 hm2 hm3 HBQ HR3 HNL HPA HIN; have HC0 := Lr (HCM.out w3 A0 _ HR0.out (bW.refl _) HB3.out HI0.out)
 go_wp2_with (go_at_call 64; (with_reducible refine HC0.out.mono ?_); rintro e w4 ⟨rfl, hb4⟩; have HB4 := Lr hb4; clear hb4)
 go_loopg [8] (muX C P L (xd0 C L.length)) (fun gg s8 wr => ∃ (X : Xd) (A' : Rdr), muX C P L X ≤ gg ∧ s8 = .int .i64 ((pX (X.times P L)).getD (-1)) ∧ Aside (RD wr w2.heap.size A' X ∧ bW A0 A' ∧ Below w2.heap.size w2 wr ∧ RInv C R E P L lim .out X))
 case atStart => exact ⟨xd0 C L.length, A0, Ls _, rfl, (show Aside (_ ∧ _ ∧ _ ∧ _) from ⟨HR0.out.below HB4.out, bW.refl _, HB3.out.trans (HB4.out.mono HB3.out.size), HI0.out⟩)⟩
 case round =>
  obtain ⟨wz, rfl⟩ : ∃ wz, wz = wr := ⟨_, rfl⟩
  obtain ⟨X, A', hmu, rfl, ST⟩ := hrel; have HRD := Lr ST.out.1; have HLE := Lr ST.out.2.1; have HBZ := Lr ST.out.2.2.1; have HRI := Lr ST.out.2.2.2; clear ST; have HEND : Hid ((∀ t, pX (X.times P L) = some t → lim < t) → ∃ B A X, Ending.returned (.pointer (some ⟨A0.q, 0, none⟩)) = Ending.returned (.pointer (some ⟨Rdr.q A, 0, none⟩)) ∧ w.heap.size ≤ B ∧ RD wz B A X ∧ qp C R E P L lim X ∧ Below w.heap.size w wz) := Lr fun hn => ⟨w2.heap.size, A', X, by rw [HLE.out.q], HB2.out.size, HRD.out, ⟨HRI.out.rch, by
   unfold Xd.next
   dsimp only
   cases hm : pX (X.times P L) with
   | none => rfl
   | some t => dsimp only; rw [if_pos (hn t hm)], HRI.out.inv⟩, HB2.out.bf HBZ.out⟩
  cases hm : pX (X.times P L) with
  | none =>
   have HEN := Lr (HEND.out (fun t h => by rw [hm] at h; cases h)); rw [show (none : Option Int).getD (-1) = -1 from rfl]; clear hm HEND
   go_wp2_with fail
   go_ret
   obtain ⟨B1, A1, X1, e1, r1, r2, r3⟩ := HEN.out
   first | exact ⟨B1, A1, X1, e1, r1, r2, r3⟩ | exact ⟨B1, A1, e1, r1, X1, r2, r3⟩
  | some t =>
   have ht0 := vW HV.out HRI.out.inv t (fK hm).1; have htl := (HRI.out.inv.now HV.out hm).no.2; have htl : t ≤ 1000006100000 := htl; rw [show (some t : Option Int).getD (-1) = t from rfl]; by_cases hlt : lim < t
   ·have hun : ¬ u < 0 := fun h => by rcases hu with ⟨_, e⟩ | ⟨e, _⟩ <;> omega
    have hut : ¬ t ≤ u := fun h => by rcases hu with ⟨e, _⟩ | ⟨_, e⟩ <;> omega
    have HEN := Lr (HEND.out (fun t' h => by rw [hm] at h; cases h; exact hlt)); clear hm HEND hlt
    go_wp2_with fail
    go_ret
    obtain ⟨B1, A1, X1, e1, r1, r2, r3⟩ := HEN.out
    first | exact ⟨B1, A1, X1, e1, r1, r2, r3⟩ | exact ⟨B1, A1, e1, r1, X1, r2, r3⟩
   ·have HST := Lr (HSP.out wz A' X t HRD.out HLE.out HBZ.out HRI.out hm (by omega)); clear hm HEND; by_cases hun : u < 0
    ·go_wp2_with (first
      | (go_at_call 65; (with_reducible refine HST.out.mono ?_); rintro e w5 ⟨A5, X5, rfl, g1, g2, g3, g4, g5⟩; have HR5 := Lr g1; have HL5 := Lr (HLE.out.trans g2); have HB5 := Lr (HBZ.out.trans g3); have HI5 := Lr g4; have HM5 := Lr g5; have HC5 := Lr (HCM.out w5 A5 X5 HR5.out HL5.out HB5.out HI5.out); clear g1 g2 g3 g4 g5)
      | (go_at_call 64; (with_reducible refine HC5.out.mono ?_); rintro e w6 ⟨rfl, hb6⟩; have HB6 := Lr hb6; clear hb6)
      | fail)
     go_roundg (muX C P L X5)
     case measure => have := HM5.out; omega
     case rel => exact ⟨X5, A5, Ls _, rfl, (show Aside (_ ∧ _ ∧ _ ∧ _) from ⟨HR5.out.below HB6.out, HL5.out, HB5.out.trans (HB6.out.mono HB5.out.size), HI5.out⟩)⟩
    ·have hut : t ≤ u := by rcases hu with ⟨e, _⟩ | ⟨_, e⟩ <;> omega
     go_wp2_with (first
      | (go_at_call 65; (with_reducible refine HST.out.mono ?_); rintro e w5 ⟨A5, X5, rfl, g1, g2, g3, g4, g5⟩; have HR5 := Lr g1; have HL5 := Lr (HLE.out.trans g2); have HB5 := Lr (HBZ.out.trans g3); have HI5 := Lr g4; have HM5 := Lr g5; have HC5 := Lr (HCM.out w5 A5 X5 HR5.out HL5.out HB5.out HI5.out); clear g1 g2 g3 g4 g5)
      | (go_at_call 64; (with_reducible refine HC5.out.mono ?_); rintro e w6 ⟨rfl, hb6⟩; have HB6 := Lr hb6; clear hb6)
      | fail)
     go_roundg (muX C P L X5)
     case measure => have := HM5.out; omega
     case rel => exact ⟨X5, A5, Ls _, rfl, (show Aside (_ ∧ _ ∧ _ ∧ _) from ⟨HR5.out.below HB6.out, HL5.out, HB5.out.trans (HB6.out.mono HB5.out.size), HI5.out⟩)⟩
theorem IL {C : List Cch} {R : List Crl} {E : List Rel} {P : List Pur} {L : List Gt} (h : bY C R E P L = 0) : Ik C := by
 unfold bY at h; have hd : eU C R E P = 0 := Classical.byContradiction fun hd => by rw [if_pos hd] at h; exact hd h
 obtain ⟨hC, -, -, -⟩ := oI hd; obtain ⟨_, c1, c2⟩ := Je hC; intro i x hx; refine ⟨fun he => ?_, fun he => ?_⟩
 ·refine (iZ fun j y hy => ?_).1; have := BM (c2 j y hy).1; unfold isC; rw [he]; cases e : (y.na.toList == (ByteArray.mk #[]).toList)
  ·rfl
  ·exact absurd (lh (by simpa using e)) this
 ·have q3 := (c2 i x hx).2.2.1; unfold tH at q3; rw [decide_eq_false he] at q3; have hh : iw (C.take i) x.pa = true := by simpa using q3
  have hs : iw C x.pa = true := by
   unfold iw at hh ⊢; obtain ⟨y, hy, hyn⟩ := List.any_eq_true.1 hh; exact List.any_eq_true.2 ⟨y, List.mem_of_mem_take hy, hyn⟩
  obtain ⟨n, hn, -⟩ := yl hs; omega
structure Lp (w w2 : World) (C : List Cch) (R : List Crl) (E : List Rel) (P : List Pur) (L : List Gt) (vc vr ve vp vl : Value) : Prop where
 al : w2 = w.alloc (.cells #[vc, vr, ve, vp] 27)
 bel : Below w.heap.size w w2
 q : ∀ W, Below w2.heap.size w2 W → W.cell? ⟨w.heap.size, 0, none⟩ = some vc ∧ W.cell? ⟨w.heap.size, 1, none⟩ = some vr ∧ W.cell? ⟨w.heap.size, 2, none⟩ = some ve ∧ W.cell? ⟨w.heap.size, 3, none⟩ = some vp
 flt : ∀ W, Below w2.heap.size w2 W → Calls Tryz.prog 35 #[.agg #[vc, vr, ve, vp], vl] W fun e w' => e = .returned (.int .i64 (bY C R E P L)) ∧ Below W.heap.size W w'
 ply : bY C R E P L = 0 → ∀ W, Below w2.heap.size w2 W → ∀ u lim : Int, (u < 0 ∧ lim = 1152921504606846976) ∨ (0 ≤ u ∧ lim = u) → Calls Tryz.prog 36 #[.agg #[vc, vr, ve, vp], vl, .int .i64 u] W fun e w' => ∃ B A X, e = .returned (.pointer (some ⟨A.q, 0, none⟩)) ∧ W.heap.size ≤ B ∧ RD w' B A X ∧ qp C R E P L lim X ∧ Below W.heap.size W w'
theorem La (w : World) {C : List Cch} {R : List Crl} {E : List Rel} {P : List Pur} {L : List Gt} {vc vr ve vp vl : Value} (h : InS w C R E P L vc vr ve vp vl) (hw : WfS C R E P L) : ∃ w2, Lp w w2 C R E P L vc vr ve vp vl := by
 obtain ⟨w2, hw2⟩ : ∃ w2, w2 = w.alloc (.cells #[vc, vr, ve, vp] 27) := ⟨_, rfl⟩
 have hb2 : Below w.heap.size w w2 := by rw [hw2]; exact (LD _ w).alloc (Ls _) _
 have hnb : w2.heap[w.heap.size]? = some (.cells #[vc, vr, ve, vp] 27 (0, 0)) := by rw [hw2]; exact ag w _
 have hlt : w.heap.size < w2.heap.size := (Array.getElem?_eq_some_iff.1 hnb).1; refine ⟨w2, hw2, hb2, fun W hW => ?_, fun W hW => ?_, fun h0 W hW u lim hu => ?_⟩
 ·have h1 := (hW.block _ hlt).trans hnb; exact ⟨af h1 0 rfl, af h1 1 rfl, af h1 2 rfl, af h1 3 rfl⟩
 ·exact pz W C R E P L vc vr ve vp vl (h.below (hb2.trans (hW.mono (Nat.le_of_lt hlt)))) hw
 ·exact Em W C R E P L vc vr ve vp vl (h.below (hb2.trans (hW.mono (Nat.le_of_lt hlt)))) (pG h0) (IL h0) u lim hu
end Go.Proofs.YtgohddfnhofjhaaGreatDoor
namespace Go.Proofs
open Go.Shelf
def Tryz.AA : Go.Shelf.Ren := ⟨fun | 6 => 40 | 15 => 75 | 14 => 74 | 28 => 125 | 29 => 126 | 20 => 117 | 21 => 118 | 22 => 119 | 23 => 120 | 24 => 121 | 25 => 122 | 26 => 123 | 27 => 124 | 46 => 156 | 47 => 157 | 48 => 158 | 49 => 159 | 50 => 160 | 57 => 175 | n => n, fun | 22 => 55 | 24 => 59 | 25 => 100 | 3 => 3 | 39 => 147 | 0 => 0 | 53 => 209 | 55 => 211 | 4 => 4 | 46 => 202 | 45 => 201 | 50 => 206 | 5 => 5 | 9 => 9 | 66 => 232 | 70 => 236 | 76 => 247 | 77 => 78 | n => n, fun | n => n⟩
theorem Tryz.sortK : Go.Proofs.SlLaysF0.n6 Tryz.prog Tryz.AA := {
 mixed := by kernel_rfl
 f6 := ⟨Tryz.f40.name, by decide, Tryz.func40.trans (congrArg some (by kernel_rfl))⟩
 f14 := ⟨Tryz.f74.name, by decide, Tryz.func74.trans (congrArg some (by kernel_rfl))⟩
 f15 := Tryz.func75.trans (congrArg some (by kernel_rfl))
 f20 := ⟨Tryz.f117.name, by decide, Tryz.func117.trans (congrArg some (by kernel_rfl))⟩
 f21 := ⟨Tryz.f118.name, by decide, Tryz.func118.trans (congrArg some (by kernel_rfl))⟩
 f22 := ⟨Tryz.f119.name, by decide, Tryz.func119.trans (congrArg some (by kernel_rfl))⟩
 f23 := ⟨Tryz.f120.name, by decide, Tryz.func120.trans (congrArg some (by kernel_rfl))⟩
 f24 := ⟨Tryz.f121.name, by decide, Tryz.func121.trans (congrArg some (by kernel_rfl))⟩
 f25 := ⟨Tryz.f122.name, by decide, Tryz.func122.trans (congrArg some (by kernel_rfl))⟩
 f26 := ⟨Tryz.f123.name, by decide, Tryz.func123.trans (congrArg some (by kernel_rfl))⟩
 f27 := ⟨Tryz.f124.name, by decide, Tryz.func124.trans (congrArg some (by kernel_rfl))⟩
 f28 := Tryz.func125.trans (congrArg some (by kernel_rfl))
 f29 := Tryz.func126.trans (congrArg some (by kernel_rfl))
 f46 := ⟨Tryz.f156.name, by decide, Tryz.func156.trans (congrArg some (by kernel_rfl))⟩
 f47 := Tryz.func157.trans (congrArg some (by kernel_rfl))
 f48 := Tryz.func158.trans (congrArg some (by kernel_rfl))
 f49 := ⟨Tryz.f159.name, by decide, Tryz.func159.trans (congrArg some (by kernel_rfl))⟩
 f50 := ⟨Tryz.f160.name, by decide, Tryz.func160.trans (congrArg some (by kernel_rfl))⟩
 f57 := ⟨Tryz.f175.name, by decide, Tryz.func175.trans (congrArg some (by kernel_rfl))⟩
 t0 := Tryz.underlying0
 a0 := Tryz.isAgg0
 z0 := Tryz.sizeOf0
 v0 := Tryz.zeroValue0
 t3 := Tryz.underlying3
 a3 := Tryz.isAgg3
 z3 := Tryz.sizeOf3
 v3 := Tryz.zeroValue3
 t4 := Tryz.underlying4
 a4 := Tryz.isAgg4
 z4 := Tryz.sizeOf4
 v4 := Tryz.zeroValue4
 t5 := Tryz.underlying5
 a5 := Tryz.isAgg5
 z5 := Tryz.sizeOf5
 v5 := Tryz.zeroValue5
 t9 := Tryz.underlying9
 a9 := Tryz.isAgg9
 z9 := Tryz.sizeOf9
 v9 := Tryz.zeroValue9
 t22 := Tryz.underlying55
 a22 := Tryz.isAgg55
 z22 := Tryz.sizeOf55
 v22 := Tryz.zeroValue55
 t25 := Tryz.underlying100
 a25 := Tryz.isAgg100
 z25 := Tryz.sizeOf100
 v25 := Tryz.zeroValue100
 t39 := Tryz.underlying147
 a39 := Tryz.isAgg147
 z39 := Tryz.sizeOf147
 v39 := Tryz.zeroValue147
 t45 := Tryz.underlying201
 a45 := Tryz.isAgg201
 z45 := Tryz.sizeOf201
 v45 := Tryz.zeroValue201
 t46 := Tryz.underlying202
 a46 := Tryz.isAgg202
 z46 := Tryz.sizeOf202
 v46 := Tryz.zeroValue202
 t50 := Tryz.underlying206
 a50 := Tryz.isAgg206
 z50 := Tryz.sizeOf206
 v50 := Tryz.zeroValue206
 t53 := Tryz.underlying209
 a53 := Tryz.isAgg209
 z53 := Tryz.sizeOf209
 v53 := Tryz.zeroValue209
 t55 := Tryz.underlying211
 a55 := Tryz.isAgg211
 z55 := Tryz.sizeOf211
 v55 := Tryz.zeroValue211
 t66 := Tryz.underlying232
 a66 := Tryz.isAgg232
 z66 := Tryz.sizeOf232
 v66 := Tryz.zeroValue232
 t70 := Tryz.underlying236
 a70 := Tryz.isAgg236
 z70 := Tryz.sizeOf236
 v70 := Tryz.zeroValue236
 t76 := Tryz.underlying247
 a76 := Tryz.isAgg247
 z76 := Tryz.sizeOf247
 v76 := Tryz.zeroValue247
 t77 := Tryz.underlying78
 a77 := Tryz.isAgg78
 z77 := Tryz.sizeOf78
 v77 := Tryz.zeroValue78 }
end Go.Proofs
namespace Go.Proofs.YtgohddfnhofjhaaGreatDoor
open Go.RowKit Go.Lib Go.Sort Go.Shelf
section
variable {α : Type} [Inhabited α] {w : World} {base g cap k : Nat} {E : TypeId} {enc : α → List Value} {l ys : List α}
theorem xP (hk : ∀ x, (enc x).length = k) (l : List α) : flatK enc k l.toArray = (l.flatMap enc).toArray := by
 have hlen := ay hk l; refine ext_get! (by simp [hlen]) fun t ht => ?_
 have ht' : t < l.length * k := by simpa using ht
 rw [get_flatK _ _ _ t (by simpa using ht')]
 have k0 : 0 < k := by rcases Nat.eq_zero_or_pos k with h | h; · subst h; simp at ht'
                       ·exact h
 have hq : t / k < l.length := Nat.div_lt_of_lt_mul (by rwa [Nat.mul_comm] at ht'); have h1 := dZ hk l (t / k) (t % k) l[t / k] (Lu hq) (Nat.mod_lt _ k0); rw [Nat.mul_comm, Nat.div_add_mod] at h1; have e1 : (l.toArray[t / k]! : α) = l[t / k] := by simp [hq]
 have h2 : t < (l.flatMap enc).length := by omega
 have h3 : t % k < (enc l[t / k]).length := by rw [hk]; exact Nat.mod_lt _ k0
 rw [e1, getElem!_pos (enc l[t / k]) (t % k) h3, getElem!_pos (l.flatMap enc).toArray t (by simpa using h2)]; rw [Lu h2, Lu h3] at h1
 simpa using h1.symm
theorem yT (hk : ∀ x, (enc x).length = k) (h : Own w base E k enc (.slice (some ⟨g, 0, none⟩) l.length cap) l) : HoldsK enc k w g 0 l.toArray := by
 unfold HoldsK; rw [xP hk]; obtain ⟨h1, h2⟩ := h; rcases h2 with ⟨e0, _⟩ | ⟨g', cap', cur, e0, hb, hg, hn, hm, hs, ht⟩
 ·cases e0
 ·simp only [Value.slice.injEq, Option.some.injEq, Addr.mk.injEq, and_true] at e0
  obtain ⟨rfl, _, rfl⟩ := e0; intro j hj; have hj' : j < (l.flatMap enc).length := by simpa using hj
  refine ⟨?_, by simp [World.frozen?, hg]⟩; have e1 : (cur.toList.take (l.length * k))[j]? = (l.flatMap enc)[j]? := by rw [ht]
  rw [List.getElem?_take, if_pos (by omega), Array.getElem?_toList] at e1; simp only [World.cell?, hg, Nat.zero_add]
  simp only [Option.isSome_none, Bool.false_eq_true, if_false]
  rw [e1, Lu hj', getElem!_pos (l.flatMap enc).toArray j hj]; simp
theorem uo (W : World) (os : Array Obj) {i : Nat} (h : i < W.heap.size) : (grow W os).heap[i]? = W.heap[i]? := by
 show (W.heap ++ os)[i]? = _
 rw [Array.getElem?_append_left h]
theorem Bo (hk : ∀ x, (enc x).length = k) (h : Own w base E k enc (.slice (some ⟨g, 0, none⟩) l.length cap) l) (hy : ys.length = l.length) (q : Nat) (os : Array Obj) :
 Own (sortWorldK enc k w g 0 q ys.toArray os) base E k enc (.slice (some ⟨g, 0, none⟩) l.length cap) ys := by
 have hlen := ay hk ys; obtain ⟨h1, h2⟩ := h; rcases h2 with ⟨e0, _⟩ | ⟨g', cap', cur, e0, hb, hg, hn, hm, hs, ht⟩
 ·cases e0
 ·simp only [Value.slice.injEq, Option.some.injEq, Addr.mk.injEq, and_true] at e0
  obtain ⟨rfl, _, rfl⟩ := e0; have hlt : g < w.heap.size := lt_of_block hg; have hmul : l.length * k ≤ cap * k := Nat.mul_le_mul_right k hn; unfold Own; rw [hy]; refine ⟨by rw [hlen, hy], .inr ⟨g, cap, putCells id 0 (ys.flatMap enc).toArray cur, rfl, hb, ?_, hn, hm, by simpa [putCells] using hs, ?_⟩⟩
  ·unfold sortWorldK; rw [uo _ _ (by simpa [putRowK, putRow, mapBlock, Sort.ahead] using hlt)]; unfold putRowK; rw [xP hk]; simp [putRow, mapBlock, Sort.ahead, Array.getElem?_modify, hg, onCells]
  ·apply List.ext_getElem?; intro j; rw [List.getElem?_take, Array.getElem?_toList]; by_cases hj : j < l.length * k
   ·have hjc : j < cur.size := by omega
    have hjy : j < (ys.flatMap enc).length := by rw [hlen, hy]; exact hj
    simp only [if_pos hj, putCells, Array.getElem?_mapIdx, Array.getElem?_eq_getElem hjc, Option.map_some]
    rw [if_pos (show 0 ≤ j ∧ j < 0 + (ys.flatMap enc).toArray.size from ⟨Nat.zero_le _, by rw [Nat.zero_add]; exact hjy⟩), Lu hjy]; simp only [Nat.sub_zero, id]
    rw [getElem!_pos (ys.flatMap enc).toArray j (by simpa using hjy)]; simp
   ·rw [if_neg hj, List.getElem?_eq_none (by rw [hlen, hy]; omega)]
theorem vS {w0 : World} (h : Below base w0 w) (hg : base ≤ g) (hb : base ≤ w0.heap.size) (q : Nat) (os : Array Obj) (ys : Array α) : Below base w0 (sortWorldK enc k w g 0 q ys os) := by
 have h1 : Below base w0 (putRowK enc k (Sort.ahead w q) g 0 ys) := below_putRow h hg; unfold sortWorldK; exact ⟨h1.os, h1.tape, h1.output, Nat.le_trans h1.size (by simp [grow]), fun i hi => by
  have hs := h1.size; rw [uo _ _ (by omega)]; exact h1.block i hi⟩
end
theorem Ap (a b : UInt8) : a < b ∨ a = b ∨ b < a := by
 rcases Nat.lt_trichotomy a.toNat b.toNat with h | h | h
 ·exact .inl h
 ·exact .inr (.inl (UInt8.toNat_inj.1 h))
 ·exact .inr (.inr h)
theorem DC : ∀ a b : List UInt8, Lib.compareBytes b a = - Lib.compareBytes a b
 | [], [] => rfl
 | [], _ :: _ => rfl
 | _ :: _, [] => rfl
 | a :: r, b :: s => by
  unfold Lib.compareBytes; by_cases h1 : a < b
  ·have h2 : ¬ b < a := fun h => absurd (UInt8.lt_trans h1 h) (UInt8.lt_irrefl _)
   simp [h1, h2]
  ·by_cases h2 : b < a
   ·simp [h1, h2]
   ·simp [h1, h2, DC r s]
theorem Dz : ∀ {a b : List UInt8}, Lib.compareBytes a b = 0 → a = b
 | [], [], _ => rfl
 | [], _ :: _, h => by simp [Lib.compareBytes] at h
 | _ :: _, [], h => by simp [Lib.compareBytes] at h
 | a :: r, b :: s, h => by
  unfold Lib.compareBytes at h; by_cases h1 : a < b
  ·simp [h1] at h
  ·by_cases h2 : b < a
   ·simp [h1, h2] at h
   ·simp only [h1, h2, if_false] at h
    rw [Dz h, UInt8.le_antisymm (UInt8.not_lt.1 h2) (UInt8.not_lt.1 h1)]
theorem Fj : ∀ {a b c : List UInt8}, Lib.compareBytes a b < 0 → Lib.compareBytes b c < 0 → Lib.compareBytes a c < 0
 | [], [], _, h, _ => by simp [Lib.compareBytes] at h
 | [], _ :: _, [], _, h => by simp [Lib.compareBytes] at h
 | [], _ :: _, _ :: _, _, _ => by simp [Lib.compareBytes]
 | _ :: _, [], _, h, _ => by simp [Lib.compareBytes] at h
 | _ :: _, _ :: _, [], _, h => by simp [Lib.compareBytes] at h
 | a :: r, b :: s, c :: t, h, g => by
  unfold Lib.compareBytes at h g ⊢; rcases Ap a b with h1 | h1 | h1
  ·rcases Ap b c with h2 | h2 | h2
   ·simp [UInt8.lt_trans h1 h2]
   ·subst h2; simp [h1]
   ·have h3 : ¬ b < c := fun h => absurd (UInt8.lt_trans h2 h) (UInt8.lt_irrefl _)
    simp [h2, h3] at g
  ·subst h1; simp only [UInt8.lt_irrefl, if_false] at h
   rcases Ap a c with h2 | h2 | h2
   ·simp [h2]
   ·subst h2; simp only [UInt8.lt_irrefl, if_false] at g ⊢
    exact Fj h g
   ·have h3 : ¬ a < c := fun h => absurd (UInt8.lt_trans h2 h) (UInt8.lt_irrefl _)
    simp [h2, h3] at g
  ·have h3 : ¬ a < b := fun h => absurd (UInt8.lt_trans h1 h) (UInt8.lt_irrefl _)
   simp [h1, h3] at h
def pq (a b : ByteArray) : Int := Lib.compareBytes a.data.toList b.data.toList
theorem fO (a b : ByteArray) : pq b a = - pq a b := DC _ _
theorem jY {a b : ByteArray} (h : pq a b = 0) : a = b := by
 have := Dz h; obtain ⟨⟨x⟩⟩ := a; obtain ⟨⟨y⟩⟩ := b; simp only at this
 rw [this]
theorem Jl : SWO (ltOf pq) where
 irrefl x := by
  unfold ltOf; have := fO x x; exact decide_eq_false (by omega)
 trans x y z h1 h2 := by
  unfold ltOf at *; rw [decide_eq_true_eq] at *; exact Fj h1 h2
 ntrans x y z h1 h2 := by
  unfold ltOf at *; rw [decide_eq_false_iff_not] at *; intro h; have e1 := fO x y; by_cases e : pq x y = 0
  ·have := jY e; subst this; exact h2 h
  ·exact h2 (Fj (a := y.data.toList) (show pq y x < 0 by omega) h)
theorem KO (x y : ByteArray) (h1 : ltOf pq x y = false) (h2 : ltOf pq y x = false) : x = y := by
 unfold ltOf at *; rw [decide_eq_false_iff_not] at *; have := fO x y; exact jY (by omega)
def yE (L : List ByteArray) : List ByteArray := L.mergeSort fun x y => !(ltOf pq) y x
theorem Ee (L : List ByteArray) : (yE L).length = L.length := by simp [yE]
theorem sK (L : List ByteArray) : (yE L).Perm L := List.mergeSort_perm _ _
theorem Ef {L : List ByteArray} (h : L.Nodup) : (yE L).Pairwise fun a b => pq a b < 0 := by
 have hs : (yE L).Pairwise fun x y => (!(ltOf pq) y x) = true := by
  unfold yE; refine List.pairwise_mergeSort ?_ ?_ L
  ·intro a b c h1 h2; rw [Bool.not_eq_true'] at *; exact Jl.ntrans _ _ _ h2 h1
  ·intro a b; cases h1 : ltOf pq b a
   ·simp
   ·cases h2 : ltOf pq a b
    ·simp
    ·have := Jl.trans _ _ _ h1 h2; rw [Jl.irrefl] at this; cases this
 have hn : (yE L).Nodup := (sK L).nodup_iff.2 h; refine List.Pairwise.imp ?_ (hs.and hn); rintro a b ⟨h1, h2⟩; rw [Bool.not_eq_true'] at h1; unfold ltOf at h1; rw [decide_eq_false_iff_not] at h1; have e := fO a b; by_cases hz : pq a b = 0
 ·exact absurd (jY hz) h2
 ·omega
def fB (f : ByteArray → Hld) (k : ByteArray) : List Value := [.string k, .int .i64 (f k).an.ve, .int .i64 (f k).an.bo, .int .i64 (f k).us]
theorem jX (f : ByteArray → Hld) (k : ByteArray) : (fB f k).length = 4 := rfl
theorem Du (f : ByteArray → Hld) (a b : ByteArray) (w : World) : Calls Tryz.prog 41 #[.agg (fB f a).toArray, .agg (fB f b).toArray] w fun e w' => e = .returned (.int .i64 (pq a b)) ∧ ∃ q os', w' = grow (w.drewN q) os' := by
 have HC := Lr (fun W => Any.strings_Compare Tryz.lays106 a b W); have hv : Hid (Lib.compareBytes a.data.toList b.data.toList = pq a b) := Lr rfl; unfold fB
 go_enter Tryz.func41, Tryz.ntmps41
 go_wp2_with (go_at_call 42; refine (HC.out _).mono ?_; rintro e w' ⟨rfl, rfl⟩)
 go_ret
 exact ⟨ah hv.out, 0, _, by rw [alloc_eq_grow, alloc_eq_grow, grow_grow]; rfl⟩
theorem AP (w : World) (base g cap : Nat) (f : ByteArray → Hld) (L : List ByteArray) (h : Own w base 59 4 (fB f) (.slice (some ⟨g, 0, none⟩) L.length cap) L) (hb : base ≤ w.heap.size) (hn : L.length ≤ 1000000) :
 Calls Tryz.prog 40 #[.slice (some ⟨g, 0, none⟩) L.length cap, .func (.func 41) #[] #[]] w fun e w' =>
  e = .returned (.tuple #[]) ∧ Own w' base 59 4 (fB f) (.slice (some ⟨g, 0, none⟩) L.length cap) (yE L) ∧ Below base w w' := by
 have hlt := World.ownsRow.lt h g rfl; have eg : ∀ args w, (callFunc 41 args).run Tryz.prog w = .ok (.enter 41 args) w := enters_of Tryz.func41 (by kernel_rfl) rfl; have hcon := AnyQ.slices_SortFunc_total Tryz.sortK 4 Tryz.isAgg59 Tryz.sizeOf59 (fB f) (fun _ => rfl) (fun x v hv => by simp [fB] at hv; rcases hv with rfl | rfl | rfl | rfl <;> rfl) pq Jl 41 #[] g 0 cap L.toArray w eg (fun _ _ _ _ x y => Du f x y _) (yT (jX f) h) hlt.2 (by simp; omega) KO; have hcon2 : Calls Tryz.prog 40 #[.slice (some ⟨g, 0, none⟩) L.length cap, .func (.func 41) #[] #[]] w fun e w' =>
  e = .returned (.tuple #[]) ∧ ∃ n os, w' = sortWorldK (fB f) 4 w g 0 n (yE L).toArray os := by
  rw [List.size_toArray] at hcon; exact hcon
 refine hcon2.mono ?_; rintro e w' ⟨rfl, nn, os, rfl⟩; exact ⟨rfl, Bo (jX f) h (Ee L) nn os, vS (LD _ _) hlt.1 hb nn os _⟩
theorem AO (w : World) (base : Nat) (f : ByteArray → Hld) (L : List ByteArray) (v : Value) (h : Own w base 59 4 (fB f) v L) (hb : base ≤ w.heap.size) (hn : L.length ≤ 1000000) :
 Calls Tryz.prog 40 #[v, .func (.func 41) #[] #[]] w fun e w' =>
  e = .returned (.tuple #[]) ∧ Own w' base 59 4 (fB f) v (yE L) ∧ Below base w w' := by
 rcases Own.slw h with ⟨rfl, rfl⟩ | ⟨g, cap, rfl⟩
 ·have hcon : Calls Tryz.prog 40 #[.slice none 0 0, .func (.func 41) #[] #[]] w fun e w' => e = .returned (.tuple #[]) ∧ w' = w := AnyF.slices_SortFunc_none Tryz.sortK none 0 _ w
  refine hcon.mono ?_; rintro e w' ⟨rfl, rfl⟩; exact ⟨rfl, by rw [show yE [] = [] from by simp [yE]]; exact Own.nil, LD _ _⟩
 ·exact AP w base g cap f L h hb hn
end Go.Proofs.YtgohddfnhofjhaaGreatDoor

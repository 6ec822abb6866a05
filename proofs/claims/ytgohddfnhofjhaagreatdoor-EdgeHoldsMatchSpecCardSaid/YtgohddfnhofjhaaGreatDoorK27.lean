/- The reference's within, of chapter 5. -/
import Derived.Test.YtgohddfnhofjhaaGreatDoorK23
import Derived.Test.YtgohddfnhofjhaaGreatDoorK14
import Derived.Test.YtgohddfnhofjhaaGreatDoorK26
import Derived.Test.YtgohddfnhofjhaaGreatDoorK15
import Derived.Test.YtgohddfnhofjhaaGreatDoorK22
import Derived.Test.YtgohddfnhofjhaaGreatDoorK02
import Derived.Test.YtgohddfnhofjhaaGreatDoorK01
set_option maxRecDepth 100000
set_option maxHeartbeats 4000000
namespace Go.Proofs.YtgohddfnhofjhaaGreatDoor
open Go.RowKit
def tmK (k : Xk) : List Int := (if k.cm = false then [k.ar] else []) ++ (if k.kn = true ∧ k.dn = false then [k.bk] else [])
theorem GU {l : List Int} (hl : ∀ t, t ∈ l → 0 ≤ t) : ∀ {a : Int}, 0 ≤ a → l.foldl (fun t n => if t < 0 ∨ n < t then n else t) a = l.foldl (fun x y => if y < x then y else x) a ∧ 0 ≤ l.foldl (fun t n => if t < 0 ∨ n < t then n else t) a := by
 induction l with
 | nil => exact fun h => ⟨rfl, h⟩
 | cons b l ih =>
  intro a ha; have hb := hl b (List.mem_cons_self ..); have hl' : ∀ t, t ∈ l → 0 ≤ t := fun t ht => hl t (List.mem_cons_of_mem _ ht)
  rw [List.foldl_cons, List.foldl_cons]; by_cases h : b < a
  ·rw [if_pos (.inr h), if_pos h]; exact ih hl' hb
  ·rw [if_neg (by omega), if_neg h]; exact ih hl' ha
theorem EC {l : List Int} (hl : ∀ t, t ∈ l → 0 ≤ t) : l.foldl (fun t n => if t < 0 ∨ n < t then n else t) (-1) = (pX l).getD (-1) := by
 cases l with
 | nil => rfl
 | cons a l =>
  rw [List.foldl_cons, if_pos (.inl (by omega))]; exact (GU (fun t ht => hl t (List.mem_cons_of_mem _ ht)) (hl a (List.mem_cons_self ..))).1
theorem zh {l : List Int} {f : Int → Int → Int} {a : Int} {k : Nat} {x : Int} (hx : l[k]? = some x) : (l.take (k + 1)).foldl f a = f ((l.take k).foldl f a) x := by
 rw [List.take_add_one, hx, List.foldl_append]
 rfl
theorem Hm {α β : Type} {l : List α} {f : α → List β} {k : Nat} {x : α} (hx : l[k]? = some x) : (l.take (k + 1)).flatMap f = (l.take k).flatMap f ++ f x := by
 rw [List.take_add_one, hx, List.flatMap_append]; simp
theorem IC (l : List Xk) : (l.flatMap tmK).length ≤ 2 * l.length := by
 induction l with
 | nil => simp
 | cons a l ih =>
  rw [List.flatMap_cons, List.length_append, List.length_cons]; have : (tmK a).length ≤ 2 := by unfold tmK; rw [List.length_append]; split <;> split <;> simp
  omega
theorem nC {α : Type} {w : World} {base P : Nat} {E : TypeId} {k : Nat} {enc : α → List Value} {v : Value} {l : List α} (h : Own w base E k enc v l) (hP : w.heap.size ≤ P) : df P v := by
 have hlt := World.ownsRow.lt h; rcases h.2 with ⟨rfl, _⟩ | ⟨g, cap, cur, rfl, _⟩
 ·exact df.nil P
 ·exact df.mk (by have := (hlt g rfl).2; omega)
structure TmS (w W : World) (v : Value) (l : List Int) : Prop where
 o : Own W w.heap.size 3 1 encI v l
 b : Below w.heap.size w W
theorem vJ (w : World) (B : Nat) (A : Rdr) (X : Xd) (h : RD w B A X) (P : List Pur) (L : List Gt) (hp : Sl w 2 xW A.d3 P) (hl : Sl w 3 F5 A.gt L) (ht : ∀ t, t ∈ X.times P L → 0 ≤ t) (hal : X.ak.length ≤ 900000) :
 Calls Tryz.prog 64 #[.pointer (some ⟨A.q, 0, none⟩)] w fun e w' => e = .returned (.int .i64 ((pX (X.times P L)).getD (-1))) ∧ Below w.heap.size w w' := by
 have hqb := h.qb.2; have hql := (Array.getElem?_eq_some_iff.1 hqb).1; obtain ⟨po, pc, e3, -, -, -, pel⟩ := hp; obtain ⟨lo, lc, e4, -, -, -, lel⟩ := hl; obtain ⟨so, sc, e7, hcap, hmax, -, hel⟩ := h.asks.sl bn; have q3 : w.cell? ⟨A.q, 3, none⟩ = some (.slice po P.length pc) := by rw [af hqb 3 rfl, ← e3]; rfl
 have q4 : w.cell? ⟨A.q, 4, none⟩ = some (.slice lo L.length lc) := by rw [af hqb 4 rfl, ← e4]; rfl
 have q5 : w.cell? ⟨A.q, 5, none⟩ = some (.int .i64 (X.nx : Nat)) := af hqb 5 rfl; have q6 : w.cell? ⟨A.q, 6, none⟩ = some (.int .i64 (X.pg : Nat)) := af hqb 6 rfl; have q7 : w.cell? ⟨A.q, 7, none⟩ = some (.slice so A.ks.length sc) := by rw [af hqb 7 rfl, ← e7]; rfl
 have HQ : Hid (∀ W : World, Below w.heap.size w W → W.cell? ⟨A.q, 3, none⟩ = some (.slice po P.length pc) ∧ W.cell? ⟨A.q, 4, none⟩ = some (.slice lo L.length lc) ∧ W.cell? ⟨A.q, 5, none⟩ = some (.int .i64 (X.nx : Nat)) ∧ W.cell? ⟨A.q, 6, none⟩ = some (.int .i64 (X.pg : Nat)) ∧ W.cell? ⟨A.q, 7, none⟩ = some (.slice so A.ks.length sc)) := Lr fun W hb => ⟨(hb.cell (p := ⟨A.q, 3, none⟩) hql).trans q3, (hb.cell (p := ⟨A.q, 4, none⟩) hql).trans q4, (hb.cell (p := ⟨A.q, 5, none⟩) hql).trans q5, (hb.cell (p := ⟨A.q, 6, none⟩) hql).trans q6, (hb.cell (p := ⟨A.q, 7, none⟩) hql).trans q7⟩
 obtain ⟨T, hT⟩ : ∃ T, T = X.times P L := ⟨_, rfl⟩
 rw [← hT]; have HTE := Lr hT; clear hT
 go_enter Tryz.func64, Tryz.ntmps64
 go_upto_region 3 with (fail)
 go_quiet (fail)
 obtain ⟨w3, hw3⟩ : ∃ w3, w3 = w.drewN nq := ⟨_, rfl⟩
 have HB3 : Hid (Below w.heap.size w w3) := Lr (by rw [hw3]; exact below_drewN (LD _ w) _); rw [← hw3]; clear hw3 q3 q4 q5 q6 q7
 go_upto_if 18 with (fail)
 go_cut [4] from 9 (fun s4 W => ∃ a n c, s4 = .slice a n c ∧ Aside (TmS w W (.slice a n c) (if X.nx < L.length then [(L.getD X.nx default).ti] else [])))
 case first =>
  by_cases hlt : X.nx < L.length
  ·have hltz : (X.nx : Int) < (L.length : Int) := by omega
   have hi0 : (0 : Int) ≤ (X.nx : Int) := by omega
   obtain ⟨x, hx⟩ : ∃ x, L[X.nx]? = some x := ⟨_, Lu hlt⟩
   obtain ⟨lb, loff, rfl, hc⟩ := lel X.nx x hx; have c0 : w.cell? ⟨lb, loff + X.nx * 3, none⟩ = some (.int .i64 x.ti) := by have h := hc 0 _ rfl; simpa using h
   have hlb := LC w _ c0; have HSS : Hid (∀ W : World, Below w.heap.size w W → W.cell? ⟨A.q, 4, none⟩ = some (.slice (some ⟨lb, loff, none⟩) L.length lc) ∧ W.cell? ⟨A.q, 5, none⟩ = some (.int .i64 (X.nx : Nat)) ∧ W.cell? ⟨lb, loff + X.nx * 3, none⟩ = some (.int .i64 x.ti)) := Lr fun W hb => ⟨(HQ.out W hb).2.1, (HQ.out W hb).2.2.1, (hb.cell (p := ⟨lb, loff + X.nx * 3, none⟩) hlb).trans c0⟩
   have HTX : Hid ((if X.nx < L.length then [(L.getD X.nx default).ti] else []) = [x.ti]) := Lr (by rw [if_pos hlt, getD_at hx]); have HBQ : Hid (Below w.heap.size w w3.drew) := Lr HB3.out.drew; have HBA := Lr (HBQ.out.alloc HBQ.out.size (.cells #[.int .i64 x.ti] 3 (0, 0))); have hsz : w.heap.size ≤ (w3.drew.alloc (.cells #[.int .i64 x.ti] 3 (0, 0))).heap.size := HBA.out.size; clear hx hc c0 lel
   go_upto_region 4 with (fail)
   go_region_held3 (fun W => W.cell? ⟨A.q, 4, none⟩ = some (.slice (some ⟨lb, loff, none⟩) L.length lc) ∧ W.cell? ⟨A.q, 5, none⟩ = some (.int .i64 (X.nx : Nat)) ∧ W.cell? ⟨lb, loff + X.nx * 3, none⟩ = some (.int .i64 x.ti))
    (first | exact HSS.out _ HBQ.out | exact HSS.out _ HBA.out | exact HSS.out _ HB7.out | fail)
    (first | (refine aW (enc := encI) (v := .slice none 0 0) (l := []) rfl (.tmp 19) (.tmp 31) 168 rfl slI (by decide) rfl rfl (x.ti : Int) rfl rfl Own.nil (ag _ _) (by decide) hsz ?_; intro v7 w7 ho7 hb7 hk7; have HO7 := Lr ho7; have HB7 := Lr (HBA.out.trans hb7); clear ho7 hb7 hk7) | fail)
   go_wp2_with fail
   go_meet
   obtain ⟨a, n, c, rfl⟩ := Own.slv jc HO7.out; exact ⟨a, n, c, rfl, (show Aside _ from ⟨by rw [HTX.out]; exact HO7.out, HB7.out⟩)⟩
  ·go_wp2_with fail
   go_meet
   exact ⟨none, 0, 0, rfl, (show Aside _ from ⟨by rw [if_neg hlt]; exact Own.nil, HB3.out⟩)⟩
 obtain ⟨a4, n4, c4, rfl, T4⟩ := hcut; obtain ⟨lA, hlA⟩ : ∃ lA, lA = (if X.nx < L.length then [(L.getD X.nx default).ti] else []) := ⟨_, rfl⟩
 have hA1 : lA.length ≤ 1 := by rw [hlA]; split <;> simp
 rw [← hlA] at T4; obtain ⟨z3, -, -, z6, z7⟩ := HQ.out _ T4.out.b; clear HB3
 go_upto_region 5 with (fail)
 go_quiet (fail)
 obtain ⟨w5, hw5⟩ : ∃ w5, w5 = wc.drewN nq := ⟨_, rfl⟩
 have HT5 : Hid (TmS w w5 (.slice a4 n4 c4) lA) := Lr (by rw [hw5]; exact ⟨T4.out.o.drewN _, below_drewN T4.out.b _⟩); rw [← hw5]; clear hw5 z3 z6 z7 T4
 go_upto_if 43 with (fail)
 go_cut [4] from 9 (fun s4 W => ∃ a n c, s4 = .slice a n c ∧ Aside (TmS w W (.slice a n c) (lA ++ (if X.pg < P.length then [(P.getD X.pg default).ti] else []))))
 case first =>
  by_cases hlt : X.pg < P.length
  ·have hltz : (X.pg : Int) < (P.length : Int) := by omega
   have hi0 : (0 : Int) ≤ (X.pg : Int) := by omega
   obtain ⟨x, hx⟩ : ∃ x, P[X.pg]? = some x := ⟨_, Lu hlt⟩
   obtain ⟨lb, loff, rfl, hc⟩ := pel X.pg x hx; have c0 : w.cell? ⟨lb, loff + X.pg * 2, none⟩ = some (.int .i64 x.ti) := by have h := hc 0 _ rfl; simpa using h
   have hlb := LC w _ c0; have HSS : Hid (∀ W : World, Below w.heap.size w W → W.cell? ⟨A.q, 3, none⟩ = some (.slice (some ⟨lb, loff, none⟩) P.length pc) ∧ W.cell? ⟨A.q, 6, none⟩ = some (.int .i64 (X.pg : Nat)) ∧ W.cell? ⟨lb, loff + X.pg * 2, none⟩ = some (.int .i64 x.ti)) := Lr fun W hb => ⟨(HQ.out W hb).1, (HQ.out W hb).2.2.2.1, (hb.cell (p := ⟨lb, loff + X.pg * 2, none⟩) hlb).trans c0⟩
   have HTX : Hid ((if X.pg < P.length then [(P.getD X.pg default).ti] else []) = [x.ti]) := Lr (by rw [if_pos hlt, getD_at hx]); have HBQ : Hid (Below w.heap.size w w5.drew) := Lr HT5.out.b.drew; have HBA := Lr (HBQ.out.alloc HBQ.out.size (.cells #[.int .i64 x.ti] 3 (0, 0))); have HOA : Hid (Own (w5.drew.alloc (.cells #[.int .i64 x.ti] 3 (0, 0))) w.heap.size 3 1 encI (.slice a4 n4 c4) lA) := Lr ((HT5.out.o.drewN 1).al _); have hsz : w.heap.size ≤ (w5.drew.alloc (.cells #[.int .i64 x.ti] 3 (0, 0))).heap.size := HBA.out.size; clear hx hc c0 pel
   go_upto_region 6 with (fail)
   go_region_held3 (fun W => W.cell? ⟨A.q, 3, none⟩ = some (.slice (some ⟨lb, loff, none⟩) P.length pc) ∧ W.cell? ⟨A.q, 6, none⟩ = some (.int .i64 (X.pg : Nat)) ∧ W.cell? ⟨lb, loff + X.pg * 2, none⟩ = some (.int .i64 x.ti))
    (first | exact HSS.out _ HBQ.out | exact HSS.out _ HBA.out | exact HSS.out _ HB7.out | fail)
    (first | (refine aW (enc := encI) (v := .slice a4 n4 c4) (l := lA) rfl (.tmp 44) (.tmp 57) 168 rfl slI (by decide) rfl rfl (x.ti : Int) rfl rfl HOA.out (ag _ _) (by omega) hsz ?_; intro v7 w7 ho7 hb7 hk7; have HO7 := Lr ho7; have HB7 := Lr (HBA.out.trans hb7); clear ho7 hb7 hk7) | fail)
   go_wp2_with fail
   go_meet
   obtain ⟨a, n, c, rfl⟩ := Own.slv jc HO7.out; exact ⟨a, n, c, rfl, (show Aside _ from ⟨by rw [HTX.out]; exact HO7.out, HB7.out⟩)⟩
  ·go_wp2_with fail
   go_meet
   exact ⟨a4, n4, c4, rfl, (show Aside _ from ⟨by rw [if_neg hlt, List.append_nil]; exact HT5.out.o, HT5.out.b⟩)⟩
 obtain ⟨a5, n5, c5, rfl, T6⟩ := hcut; obtain ⟨lB, hlB⟩ : ∃ lB, lB = (if X.pg < P.length then [(P.getD X.pg default).ti] else []) := ⟨_, rfl⟩
 have hB1 : lB.length ≤ 1 := by rw [hlB]; split <;> simp
 rw [← hlB] at T6; have HTM : Hid (T = (lA ++ lB) ++ A.ks.flatMap (fun p => tmK p.1)) := Lr (by
  rw [HTE.out]; unfold Xd.times; rw [← hlA, ← hlB, h.ka, List.flatMap_map, List.append_assoc]
  rfl)
 obtain ⟨l0, hl0⟩ : ∃ l0, l0 = lA ++ lB := ⟨_, rfl⟩
 have h01 : l0.length ≤ 2 := by rw [hl0, List.length_append]; omega
 rw [← hl0] at T6 HTM; have HTP : Hid (∀ t, t ∈ l0 ++ A.ks.flatMap (fun p => tmK p.1) → 0 ≤ t) := Lr (by rw [← HTM.out, HTE.out]; exact ht); have HTL : Hid (∀ kk, ((A.ks.take kk).flatMap (fun p => tmK p.1)).length ≤ 2 * kk) := Lr fun kk => by
  have h1 := IC ((A.ks.take kk).map Prod.fst); rw [List.flatMap_map, List.length_map, List.length_take] at h1; exact Nat.le_trans h1 (by omega)
 have hkl : A.ks.length ≤ 900000 := by rw [h.akl]; exact hal
 have HEL : Hid (∀ (j : Nat) (p : Xk × Value), A.ks[j]? = some p → ∃ b off, so = some ⟨b, off, none⟩ ∧ DX w b (off + j * 14) p) := Lr fun j p hj => by
  obtain ⟨b, off, e, hc⟩ := hel j p hj; exact ⟨b, off, e, DX.of hc⟩
 have HSV : Hid (∀ (j : Nat) (p : Xk × Value), A.ks[j]? = some p → ∃ a n c, p.2 = .slice a n c) := Lr fun j p hj => Own.slv bU (h.wait hj)
 have q7c := (HQ.out _ T6.out.b).2.2.2.2; have HT6 := Lr T6.out; clear h ht hal hqb hql pel lel hel e3 e4 e7 HTE hlA hlB hA1 hB1 hl0 HT5 HQ T6; generalize A.ks = l at HEL HSV HTL HTP HTM hkl hcap q7c
 go_upto_region 7 with (fail)
 go_wp2_with fail
 go_loopg [4, 6, 64] l.length (fun gg s4 s6 s64 wr => ∃ kk : Nat, kk ≤ l.length ∧ l.length - kk ≤ gg ∧ s64 = .int .i64 kk ∧ ∃ a n c, s4 = .slice a n c ∧ Aside (TmS w wr (.slice a n c) (l0 ++ (l.take kk).flatMap (fun p => tmK p.1))))
 case atStart => exact ⟨0, Nat.zero_le _, by omega, rfl, _, _, _, rfl, (show Aside _ from by rw [List.take_zero, List.flatMap_nil, List.append_nil]; exact HT6.out)⟩
 case round =>
  obtain ⟨kk, hkk, hg, rfl, a7, n7, c7, rfl, TR⟩ := hrel; by_cases hlt : kk < l.length
  ·have hltz : (kk : Int) < (l.length : Int) := by omega
   obtain ⟨x, hx⟩ : ∃ x, l[kk]? = some x := ⟨_, Lu hlt⟩
   obtain ⟨b, off, rfl, hc⟩ := HEL.out kk x hx; have hbk := hc.below TR.out.b; obtain ⟨k0, k1, k2, k3, k4, k5, k6, k7, k8, k9, k10, k11, k12, k13⟩ := hbk; obtain ⟨va, vn, vc, hxv⟩ := HSV.out kk x hx; have hlen : (l0 ++ (l.take kk).flatMap (fun p => tmK p.1)).length ≤ 2000000 := by have := HTL.out kk; rw [List.length_append]; omega
   have HNX : Hid ((l.take (kk + 1)).flatMap (fun p => tmK p.1) = (l.take kk).flatMap (fun p => tmK p.1) ++ tmK x.1) := Lr (Hm hx); obtain ⟨⟨xca, xke, xma, xar, xcm, xkn, xbk, xgo, xdn, xal, xws⟩, xv⟩ := x
   dsimp only at hxv
   subst hxv
   dsimp only at k0 k1 k2 k3 k4 k5 k6 k7 k8 k9 k10 k11 k12 k13 HNX
   obtain ⟨wb, hwb⟩ : ∃ wb, wb = wr.alloc (.cells #[.int .i64 (xca : Nat), .string xke, .int .i64 xma, .int .i64 xar, .bool xcm, .bool xkn, .int .i64 xbk, .int .i64 xgo.ve, .int .i64 xgo.bo, .int .i64 xgo.si, .string xgo.fr, .bool xdn, .bool xal, .slice va vn vc] 171) := ⟨_, rfl⟩
   obtain ⟨bx, hbx⟩ : ∃ bx, bx = wr.heap.size := ⟨_, rfl⟩
   have hTB : TmS w wb (.slice a7 n7 c7) (l0 ++ (l.take kk).flatMap (fun p => tmK p.1)) := by
    rw [hwb]; exact ⟨TR.out.o.al _, TR.out.b.alloc TR.out.b.size _⟩
   have hoff : df bx (.slice a7 n7 c7) := nC TR.out.o (by omega); have hbb : wb.heap[bx]? = some (.cells #[.int .i64 (xca : Nat), .string xke, .int .i64 xma, .int .i64 xar, .bool xcm, .bool xkn, .int .i64 xbk, .int .i64 xgo.ve, .int .i64 xgo.bo, .int .i64 xgo.si, .string xgo.fr, .bool xdn, .bool xal, .slice va vn vc] 171 (0, 0)) := by rw [hwb, hbx]; exact ag _ _
   have HWB := Lr hwb; have HBX := Lr hbx; have HTB := Lr hTB; have HOF := Lr hoff; have HBB := Lr hbb; have b3 : wb.cell? ⟨bx, 3, none⟩ = some (.int .i64 xar) := af hbb 3 rfl; have b4 : wb.cell? ⟨bx, 4, none⟩ = some (.bool xcm) := af hbb 4 rfl; have b5 : wb.cell? ⟨bx, 5, none⟩ = some (.bool xkn) := af hbb 5 rfl; have b6 : wb.cell? ⟨bx, 6, none⟩ = some (.int .i64 xbk) := af hbb 6 rfl; have b11 : wb.cell? ⟨bx, 11, none⟩ = some (.bool xdn) := af hbb 11 rfl; clear hx hc hwb hbx hTB hoff hbb TR; obtain ⟨lk, hlk⟩ : ∃ lk, lk = l0 ++ (l.take kk).flatMap (fun p => tmK p.1) := ⟨_, rfl⟩
   have HLK := Lr hlk; rw [← hlk] at HTB hlen; clear hlk; have hsb := HTB.out.b.size; have hszb : w.heap.size ≤ (wb.alloc (.cells #[.int .i64 xar] 3 (0, 0))).heap.size := by simp; omega
   have HOA : Hid (Own (wb.alloc (.cells #[.int .i64 xar] 3 (0, 0))) w.heap.size 3 1 encI (.slice a7 n7 c7) lk) := Lr (HTB.out.o.al _); have HBA : Hid (Below w.heap.size w (wb.alloc (.cells #[.int .i64 xar] 3 (0, 0)))) := Lr (HTB.out.b.alloc hsb _)
   go_upto_region 10 with (fail)
   rw [← HWB.out, ← HBX.out]
   go_upto_if 70 with (fail)
   go_cut [4] from 65 to 88 (fun s4 W => ∃ a n c, s4 = .slice a n c ∧ Aside (TmS w W (.slice a n c) (lk ++ (if xcm = false then [xar] else [])) ∧ W.heap[bx]? = some (.cells #[.int .i64 (xca : Nat), .string xke, .int .i64 xma, .int .i64 xar, .bool xcm, .bool xkn, .int .i64 xbk, .int .i64 xgo.ve, .int .i64 xgo.bo, .int .i64 xgo.si, .string xgo.fr, .bool xdn, .bool xal, .slice va vn vc] 171 (0, 0)) ∧ df bx (.slice a n c)))
   case first =>
    cases xcm
    ·go_wp2_with (at_builtin; refine dM rfl (.tmp 71) (.tmp 74) 168 rfl slI (by decide) rfl rfl (xar : Int) rfl rfl HOA.out (ag _ _) (by omega) hszb ?_; intro v7 w7 ho7 hb7 hk7; have HO7 := Lr ho7; have HB7 := Lr hb7; have HK7 := Lr hk7; clear ho7 hb7 hk7)
     go_meet
     obtain ⟨a, n, c, rfl⟩ := Own.slv jc HO7.out; have hblt := (Array.getElem?_eq_some_iff.1 HBB.out).1; obtain ⟨e1, e2⟩ := HK7.out bx (by simp; omega) HOF.out; exact ⟨a, n, c, rfl, (show Aside _ from ⟨⟨HO7.out, HBA.out.trans HB7.out⟩, e1.trans ((Below.heap_alloc wb _ _ hblt).trans HBB.out), e2⟩)⟩
    ·go_wp2_with fail
     go_meet
     exact ⟨a7, n7, c7, rfl, (show Aside _ from ⟨by rw [if_neg (by simp), List.append_nil]; exact HTB.out, HBB.out, HOF.out⟩)⟩
   obtain ⟨a8, n8, c8, rfl, TC⟩ := hcut; obtain ⟨lm, hlm⟩ : ∃ lm, lm = lk ++ (if xcm = false then [xar] else []) := ⟨_, rfl⟩
   have hlen2 : lm.length ≤ 2000001 := by rw [hlm, List.length_append]; split <;> simp <;> omega
   rw [← hlm] at TC; have hbb := TC.out.2.1; have d5 : wc.cell? ⟨bx, 5, none⟩ = some (.bool xkn) := af hbb 5 rfl; have d6 : wc.cell? ⟨bx, 6, none⟩ = some (.int .i64 xbk) := af hbb 6 rfl; have d11 : wc.cell? ⟨bx, 11, none⟩ = some (.bool xdn) := af hbb 11 rfl; have hsc := TC.out.1.b.size; have hszc : w.heap.size ≤ (wc.alloc (.cells #[.int .i64 xbk] 3 (0, 0))).heap.size := by simp; omega
   have HOC : Hid (Own (wc.alloc (.cells #[.int .i64 xbk] 3 (0, 0))) w.heap.size 3 1 encI (.slice a8 n8 c8) lm) := Lr (TC.out.1.o.al _); have HBC : Hid (Below w.heap.size w (wc.alloc (.cells #[.int .i64 xbk] 3 (0, 0)))) := Lr (TC.out.1.b.alloc hsc _); have HTC := Lr TC.out.1; have HEN : Hid (l0 ++ (l.take (kk + 1)).flatMap (fun p => tmK p.1) = lm ++ (if xkn = true ∧ xdn = false then [xbk] else [])) := Lr (by
    rw [HNX.out, hlm, HLK.out, ← List.append_assoc, List.append_assoc (l0 ++ _) (if xcm = false then [xar] else [])]
    rfl)
   clear TC hlm hbb HOA HBA HTB HBB HOF b3 b4 b5 b6 b11 hsb hszb; cases xkn
   ·go_wp2_with fail
    go_roundg (l.length - (kk + 1))
    case measure => omega
    case rel => exact ⟨kk + 1, by omega, by omega, by go_num, a8, n8, c8, rfl, (show Aside _ from by rw [HEN.out, if_neg (by simp), List.append_nil]; exact HTC.out)⟩
   ·cases xdn
    ·go_wp2_with (at_builtin; refine dM rfl (.tmp 83) (.tmp 86) 168 rfl slI (by decide) rfl rfl (xbk : Int) rfl rfl HOC.out (ag _ _) (by omega) hszc ?_; intro v7 w7 ho7 hb7 hk7; have HO7 := Lr ho7; have HB7 := Lr hb7; have HK7 := Lr hk7; clear ho7 hb7 hk7)
     obtain ⟨a, n, c, rfl⟩ := Own.slv jc HO7.out
     go_roundg (l.length - (kk + 1))
     case measure => omega
     case rel => exact ⟨kk + 1, by omega, by omega, by go_num, a, n, c, rfl, (show Aside _ from by rw [HEN.out, if_pos (by simp)]; exact ⟨HO7.out, HBC.out.trans HB7.out⟩)⟩
    ·go_wp2_with fail
     go_roundg (l.length - (kk + 1))
     case measure => omega
     case rel => exact ⟨kk + 1, by omega, by omega, by go_num, a8, n8, c8, rfl, (show Aside _ from by rw [HEN.out, if_neg (by simp), List.append_nil]; exact HTC.out)⟩
  ·obtain rfl : kk = l.length := by omega
   have hltz : ¬ (l.length : Int) < (l.length : Int) := by omega
   obtain ⟨wz, rfl⟩ : ∃ wz, wz = wr := ⟨_, rfl⟩
   have hto : TmS w wz (.slice a7 n7 c7) T := by
    have h1 := TR.out; rw [List.take_length, ← HTM.out] at h1; exact h1
   have HTO := Lr hto; obtain ⟨tq, tc, e9, tcap, tmax, -, tel⟩ := hto.o.sl jc; obtain ⟨rfl, rfl, rfl⟩ : a7 = tq ∧ n7 = T.length ∧ c7 = tc := by simpa using e9
   have HT0 : Hid (∀ t, t ∈ T → 0 ≤ t) := Lr (by rw [HTM.out]; exact HTP.out); have HMN : Hid (T.foldl (fun t n => if t < 0 ∨ n < t then n else t) (-1) = (pX T).getD (-1)) := Lr (EC HT0.out); have HTE := Lr tel; unfold maxLen at tmax; clear hto tel e9 TR HTM HTP HT0 HEL HSV HTL
   go_wp2_with fail
   go_loopg [3, 8, 91] T.length (fun gg s3 s8 s91 ws => ∃ kk : Nat, kk ≤ T.length ∧ T.length - kk ≤ gg ∧ s91 = .int .i64 kk ∧ s3 = .int .i64 ((T.take kk).foldl (fun t n => if t < 0 ∨ n < t then n else t) (-1)) ∧ Aside (Below wz.heap.size wz ws))
   case atStart => exact ⟨0, Nat.zero_le _, by omega, rfl, rfl, LD _ _⟩
   case round =>
    obtain ⟨kk, hkk, hg, rfl, rfl, BW⟩ := hrel; by_cases hlt : kk < T.length
    ·have hltz : (kk : Int) < (T.length : Int) := by omega
     obtain ⟨x, hx⟩ : ∃ x, T[kk]? = some x := ⟨_, Lu hlt⟩
     obtain ⟨b, off, rfl, hc⟩ := HTE.out kk x hx; have c0 : wz.cell? ⟨b, off + kk, none⟩ = some (.int .i64 x) := by have h := hc 0 _ rfl; simpa using h
     have c1 := (BW.out.cell (p := ⟨b, off + kk, none⟩) (LC wz _ c0)).trans c0; have HNX := Lr (zh (f := fun t n => if t < 0 ∨ n < t then n else t) (a := -1) hx); have HB := Lr BW.out; obtain ⟨v2, hv2⟩ : ∃ v2, v2 = (T.take (kk + 1)).foldl (fun t n => if t < 0 ∨ n < t then n else t) (-1) := ⟨_, rfl⟩
     have HV2 := Lr hv2; rw [← hv2] at HNX; clear hv2; generalize (T.take kk).foldl (fun t n => if t < 0 ∨ n < t then n else t) (-1) = v at HNX; clear hx hc c0 BW; by_cases h0 : v < 0
     ·have hv : Hid (v2 = x) := Lr (by rw [HNX.out, if_pos (.inl h0)])
      go_wp2_with fail
      go_roundg (T.length - (kk + 1))
      case measure => omega
      case rel => exact ⟨kk + 1, by omega, by omega, by go_num, by rw [← HV2.out, hv.out], HB.out⟩
     ·by_cases h1 : x < v
      ·have hv : Hid (v2 = x) := Lr (by rw [HNX.out, if_pos (.inr h1)])
       go_wp2_with fail
       go_roundg (T.length - (kk + 1))
       case measure => omega
       case rel => exact ⟨kk + 1, by omega, by omega, by go_num, by rw [← HV2.out, hv.out], HB.out⟩
      ·have hv : Hid (v2 = v) := Lr (by rw [HNX.out, if_neg (by omega)])
       go_wp2_with fail
       go_roundg (T.length - (kk + 1))
       case measure => omega
       case rel => exact ⟨kk + 1, by omega, by omega, by go_num, by rw [← HV2.out, hv.out], HB.out⟩
    ·obtain rfl : kk = T.length := by omega
     have hltz : ¬ (T.length : Int) < (T.length : Int) := by omega
     have HB := Lr (HTO.out.b.bf BW.out)
     go_wp2_with fail
     go_ret
     exact ⟨by rw [← HMN.out]; rfl, HB.out⟩
theorem DD : ∀ {a b : List UInt8}, Lib.compareBytes a b < 0 ↔ a < b
 | [], [] => by simp [Lib.compareBytes]
 | [], _ :: _ => by simp [Lib.compareBytes]
 | _ :: _, [] => by simp [Lib.compareBytes]
 | a :: r, b :: s => by
  rw [List.cons_lt_cons_iff]; unfold Lib.compareBytes; by_cases h1 : a < b
  ·simp [h1]
  ·by_cases h2 : b < a
   ·have h3 : ¬ a = b := fun e => by subst e; exact h1 h2
    simp [h1, h2, h3]
   ·have h3 : a = b := UInt8.le_antisymm (UInt8.not_lt.1 h2) (UInt8.not_lt.1 h1); subst h3; simp only [UInt8.lt_irrefl, if_false, false_or, true_and]
    exact DD
theorem H9 (a b : ByteArray) : decide (Lib.compareBytes a.data.toList b.data.toList < 0) = Op.bytesLess a.toList b.toList := by
 rw [bytesLess_eq, ByteArray.toList_eq, ByteArray.toList_eq]; exact decide_eq_decide.2 DD
structure OrQ (w W : World) (v : Value) (m : List Nat) : Prop where
 o : Own W w.heap.size 3 1 mD v m
 b : Below w.heap.size w W
theorem OrQ.drew {w W : World} {v : Value} {m : List Nat} (h : OrQ w W v m) : OrQ w W.drew v m := ⟨h.o.drewN 1, h.b.drew⟩
theorem yK (w : World) (B : Nat) (A : Rdr) (X : Xd) (h : RD w B A X) (l : List Nat) (v : Value) (hl : Sl w 1 mD v l) (hin : ∀ j, j ∈ l → j < X.ak.length) (hlen : l.length ≤ 1000000) :
 Calls Tryz.prog 101 #[.pointer (some ⟨A.q, 0, none⟩), v] w (gI w 3 1 mD (rZ X l)) := by
 have hqb := h.qb.2; have hql := (Array.getElem?_eq_some_iff.1 hqb).1; obtain ⟨ao, cap, rfl, hcap, hmax, -, hel⟩ := hl; obtain ⟨so, sc, e7, hkc, hkm, -, hkel⟩ := h.asks.sl bn; have q7 : w.cell? ⟨A.q, 7, none⟩ = some (.slice so A.ks.length sc) := by rw [af hqb 7 rfl, ← e7]; rfl
 have HASK : Hid (∀ j, j < X.ak.length → ∃ b off, so = some ⟨b, off, none⟩ ∧ (j : Int) < (A.ks.length : Int) ∧ ∀ W : World, Below w.heap.size w W → W.cell? ⟨A.q, 7, none⟩ = some (.slice so A.ks.length sc) ∧ W.cell? ⟨b, off + j * 14, none⟩ = some (.int .i64 ((X.K j).ca : Nat)) ∧ W.cell? ⟨b, off + j * 14 + 1, none⟩ = some (.string (X.K j).ke)) := Lr fun j hj => by
  obtain ⟨u, hu⟩ := h.at_ hj; obtain ⟨b, off, rfl, hc⟩ := hkel j _ hu; have hbl := LC w _ (hc 1 _ rfl); refine ⟨b, off, rfl, by rw [h.akl]; omega, fun W hW => ⟨(hW.cell (p := ⟨A.q, 7, none⟩) hql).trans q7, ?_, (hW.cell (p := ⟨b, off + j * 14 + 1, none⟩) hbl).trans (hc 1 _ rfl)⟩⟩; have h1 := (hW.cell (p := ⟨b, off + j * 14 + 0, none⟩) hbl).trans (hc 0 _ rfl)
  simpa using h1
 have HLI : Hid (∀ (k j : Nat), l[k]? = some j → ∃ b off, ao = some ⟨b, off, none⟩ ∧ ∀ W : World, Below w.heap.size w W → W.cell? ⟨b, off + k, none⟩ = some (.int .i64 (j : Nat))) := Lr fun k j hj => by
  obtain ⟨b, off, rfl, hc⟩ := hel k j hj; have hbl := LC w _ (hc 0 _ rfl); refine ⟨b, off, rfl, fun W hW => ?_⟩; have h1 := (hW.cell (p := ⟨b, off + k * 1 + 0, none⟩) hbl).trans (hc 0 _ rfl)
  simpa using h1
 obtain ⟨M, hM⟩ : ∃ M : Nat → List Nat, M = fun k => rZ X (l.take k) := ⟨_, rfl⟩
 have HM0 : Hid (M 0 = []) := Lr (by rw [hM]; rfl); have HMS : Hid (∀ k i, l[k]? = some i → M (k + 1) = DY X (M k) i) := Lr fun k i hi => by rw [hM]; exact tN hi
 have HML : Hid (rZ X l = M l.length) := Lr (by rw [hM]; show _ = rZ X (l.take l.length); rw [List.take_length]); have HMN : Hid (∀ k, k ≤ l.length → (M k).length = k ∧ ∀ j, j ∈ M k → j < X.ak.length) := Lr fun k => by
  induction k with
  | zero => intro _; rw [HM0.out]; exact ⟨rfl, fun j hj => by cases hj⟩
  | succ k ih =>
   intro hk; obtain ⟨h1, h2⟩ := ih (by omega); have hx := Lu (show k < l.length by omega); rw [HMS.out k _ hx]; refine ⟨by rw [wI, h1], fun j hj => ?_⟩; rcases wH.1 hj with hj | rfl
   ·exact h2 j hj
   ·exact hin _ (List.getElem_mem _)
 have HIN := Lr hin; have hcmp := Lr (fun (a b : ByteArray) (W : World) => Tryz.strings_Compare a b W); rw [HML.out]; unfold maxLen at hmax; clear h hqb hql hel hkc hkm hkel e7 q7 hM hin HML
 go_enter Tryz.func101, Tryz.ntmps101
 go_wp2_with fail
 go_loopg [5, 7, 8, 11] l.length (fun gg s5 s7 s8 s11 wr => ∃ kk : Nat, kk ≤ l.length ∧ l.length - kk ≤ gg ∧ s11 = .int .i64 kk ∧ ∃ a n c, s5 = .slice a n c ∧ Aside (OrQ w wr (.slice a n c) (M kk)))
 case atStart => exact ⟨0, Nat.zero_le _, by omega, rfl, none, 0, 0, rfl, ⟨by rw [HM0.out]; exact ⟨rfl, .inl ⟨rfl, rfl⟩⟩, LD _ _⟩⟩
 case round =>
  obtain ⟨wz, rfl⟩ : ∃ wz, wz = wr := ⟨_, rfl⟩
  obtain ⟨kk, hkk, hg, rfl, a, n, c, rfl, OS⟩ := hrel; by_cases hlt : kk < l.length
  ·have hltz : (kk : Int) < (l.length : Int) := by omega
   obtain ⟨i, hi⟩ : ∃ i, l[kk]? = some i := ⟨_, Lu hlt⟩
   obtain ⟨lb, loff, rfl, hlc⟩ := HLI.out kk i hi; have c0 := hlc wz OS.out.b; have hil := HIN.out i (List.mem_of_getElem? hi); obtain ⟨kb, koff, rfl, hiz, hic⟩ := HASK.out i hil; have HIC := Lr hic; have HIZ := Lr hiz; obtain ⟨m, hm⟩ : ∃ m, m = M kk := ⟨_, rfl⟩
   have HNX := Lr (HMS.out kk i hi); obtain ⟨hml, hmj⟩ := HMN.out kk hkk; rw [← hm] at OS HNX hml hmj; obtain ⟨oa, oc, oP, e5, ho1, ho2, ho3, hoel⟩ := tJ dI OS.out.o; simp only [Value.slice.injEq] at e5
   obtain ⟨rfl, rfl, rfl⟩ := e5; have HOE := Lr hoel; have HOS := Lr OS.out; have HMJ := Lr hmj; have HMLN := Lr hml; have hmx : m.length ≤ 1000000 := by omega
   obtain ⟨PO, hPO⟩ : ∃ PO, PO = tC X i m m.length := ⟨_, rfl⟩
   have HPO := Lr hPO; have HM2 := Lr hm; clear OS hi hlc hic hiz hml hmj hoel hm hPO
   go_wp2_with fail
   go_loopg [8] m.length (fun gg s8 wr => ∃ p : Nat, p ≤ m.length ∧ p ≤ gg ∧ s8 = .int .i64 p ∧ Aside (OrQ w wr (.slice a m.length c) m) ∧ Aside (tC X i m p = PO))
   case atStart => exact ⟨m.length, Ls _, Ls _, rfl, (show Aside _ from HOS.out), (show Aside _ from HPO.out.symm)⟩
   case round =>
    obtain ⟨wy, rfl⟩ : ∃ wy, wy = wr := ⟨_, rfl⟩
    obtain ⟨p, hp, hpg, rfl, OY, PP⟩ := hrel; have HOY := Lr OY.out; have HPP := Lr PP.out; clear OY PP; have q7 := (HIC.out wy HOY.out.b).1
    (first | go_upto_region 6 with (fail) | go_upto_region 5 with (fail))
    go_cut [88] from 17 to 90 (fun s88 W => ∃ t : Bool, s88 = .bool t ∧ Aside (OrQ w W (.slice a m.length c) m ∧ ((t = true ∧ p ≠ 0 ∧ tC X i m (p - 1) = PO) ∨ (t = false ∧ PO = p))))
    case first =>
     have HBQ : Hid (Below wy.heap.size wy wy.drew) := Lr (LD _ wy).drew; by_cases hp0 : p = 0
     ·have hv : Hid (PO = p) := Lr (by rw [← HPP.out, hp0]; rfl); subst hp0; refine wp_region_held_drew (S := fun W => Below wy.heap.size wy W) (by kernel_rfl) HBQ.out (fun hHeld => ?_); refine tkI 0 17 hHeld (h := ?_)
      try simp only [pu]
      refine tkI 1 18 hHeld (h := ?_)
      try simp only [pu]
      refine tkI 2 19 hHeld (h := ?_)
      try simp only [pu]
      refine tkO 3 20 hHeld (h := ?_)
      try simp only [pu]
      refine tkO 4 21 hHeld (h := ?_)
      try simp only [pu]
      refine tkO 5 22 hHeld (h := ?_)
      try simp only [pu]
      refine tkO 6 23 hHeld (h := ?_)
      try simp only [pu]
      refine tkO 7 24 hHeld (h := ?_)
      try simp only [pu]
      refine tkO 8 25 hHeld (h := ?_)
      try simp only [pu]
      refine tkO 9 26 hHeld (h := ?_)
      try simp only [pu]
      refine tkO 10 27 hHeld (h := ?_)
      try simp only [pu]
      refine tkO 11 28 hHeld (h := ?_)
      try simp only [pu]
      refine tkO 12 29 hHeld (h := ?_)
      try simp only [pu]
      refine tkO 13 30 hHeld (h := ?_)
      try simp only [pu]
      refine tkO 14 31 hHeld (h := ?_)
      try simp only [pu]
      refine tkO 15 32 hHeld (h := ?_)
      try simp only [pu]
      refine tkO 16 33 hHeld (h := ?_)
      try simp only [pu]
      refine tkO 17 34 hHeld (h := ?_)
      try simp only [pu]
      refine tkO 18 35 hHeld (h := ?_)
      try simp only [pu]
      refine tkO 19 36 hHeld (h := ?_)
      try simp only [pu]
      refine tkO 20 37 hHeld (h := ?_)
      try simp only [pu]
      refine tkO 21 38 hHeld (h := ?_)
      try simp only [pu]
      refine tkO 22 39 hHeld (h := ?_)
      try simp only [pu]
      refine tkO 23 40 hHeld (h := ?_)
      try simp only [pu]
      refine tkO 24 41 hHeld (h := ?_)
      try simp only [pu]
      refine tkO 25 42 hHeld (h := ?_)
      try simp only [pu]
      refine tkO 26 43 hHeld (h := ?_)
      try simp only [pu]
      refine tkO 27 44 hHeld (h := ?_)
      try simp only [pu]
      refine tkO 28 45 hHeld (h := ?_)
      try simp only [pu]
      refine tkO 29 46 hHeld (h := ?_)
      try simp only [pu]
      refine tkO 30 47 hHeld (h := ?_)
      try simp only [pu]
      refine tkO 31 48 hHeld (h := ?_)
      try simp only [pu]
      refine tkO 32 49 hHeld (h := ?_)
      try simp only [pu]
      refine tkO 33 50 hHeld (h := ?_)
      try simp only [pu]
      refine tkO 34 51 hHeld (h := ?_)
      try simp only [pu]
      refine tkO 35 52 hHeld (h := ?_)
      try simp only [pu]
      refine tkO 36 53 hHeld (h := ?_)
      try simp only [pu]
      refine tkO 37 54 hHeld (h := ?_)
      try simp only [pu]
      refine tkO 38 55 hHeld (h := ?_)
      try simp only [pu]
      refine tkO 39 56 hHeld (h := ?_)
      try simp only [pu]
      refine tkO 40 57 hHeld (h := ?_)
      try simp only [pu]
      refine tkO 41 58 hHeld (h := ?_)
      try simp only [pu]
      refine tkO 42 59 hHeld (h := ?_)
      try simp only [pu]
      refine tkO 43 60 hHeld (h := ?_)
      try simp only [pu]
      refine tkO 44 61 hHeld (h := ?_)
      try simp only [pu]
      refine tkO 45 62 hHeld (h := ?_)
      try simp only [pu]
      refine tkO 46 63 hHeld (h := ?_)
      try simp only [pu]
      refine tkO 47 64 hHeld (h := ?_)
      try simp only [pu]
      refine tkO 48 65 hHeld (h := ?_)
      try simp only [pu]
      refine tkO 49 66 hHeld (h := ?_)
      try simp only [pu]
      refine tkO 50 67 hHeld (h := ?_)
      try simp only [pu]
      refine tkO 51 68 hHeld (h := ?_)
      try simp only [pu]
      refine tkO 52 69 hHeld (h := ?_)
      try simp only [pu]
      refine tkO 53 70 hHeld (h := ?_)
      try simp only [pu]
      refine tkO 54 71 hHeld (h := ?_)
      try simp only [pu]
      refine tkO 55 72 hHeld (h := ?_)
      try simp only [pu]
      refine tkO 56 73 hHeld (h := ?_)
      try simp only [pu]
      refine tkO 57 74 hHeld (h := ?_)
      try simp only [pu]
      refine tkO 58 75 hHeld (h := ?_)
      try simp only [pu]
      refine tkO 59 76 hHeld (h := ?_)
      try simp only [pu]
      refine tkO 60 77 hHeld (h := ?_)
      try simp only [pu]
      refine tkO 61 78 hHeld (h := ?_)
      try simp only [pu]
      refine tkO 62 79 hHeld (h := ?_)
      try simp only [pu]
      refine tkO 63 80 hHeld (h := ?_)
      try simp only [pu]
      refine tkO 64 81 hHeld (h := ?_)
      try simp only [pu]
      refine tkO 65 82 hHeld (h := ?_)
      try simp only [pu]
      refine tkO 66 83 hHeld (h := ?_)
      try simp only [pu]
      refine tkO 67 84 hHeld (h := ?_)
      try simp only [pu]
      refine tkO 68 85 hHeld (h := ?_)
      try simp only [pu]
      refine tkO 69 86 hHeld (h := ?_)
      try simp only [pu]
      refine tkO 70 87 hHeld (h := ?_)
      try simp only [pu]
      refine tkI 71 88 hHeld (h := ?_)
      try simp only [pu]
      refine wpAnyH_done (by kernel_rfl) ?_ _; clear hHeld
      go_wp2_with fail
      go_meet
      exact ⟨false, rfl, HOY.out.drew, .inr ⟨rfl, hv.out⟩⟩
     ·have hmne : m ≠ [] := fun e => by rw [e] at hp; simp at hp; exact hp0 hp
      obtain ⟨g2, c2, e2, -, hg2, -, -, hgc, -⟩ := Own.gZ dI HOY.out.o hmne; simp only [Value.slice.injEq, true_and] at e2
      obtain ⟨rfl, rfl⟩ := e2; have hpl : p - 1 < m.length := by omega
      obtain ⟨o, ho⟩ : ∃ o, m[p - 1]? = some o := ⟨_, Lu hpl⟩
      have og : wy.cell? ⟨g2, p - 1, none⟩ = some (.int .i64 (o : Nat)) := by have h := hgc (p - 1) o 0 _ ho rfl; simpa using h
      obtain ⟨kb2, koff2, ek, hoz, hoc⟩ := HASK.out o (HMJ.out o (List.mem_of_getElem? ho)); simp only [Option.some.injEq, Addr.mk.injEq, and_true] at ek
      obtain ⟨rfl, rfl⟩ := ek; have hDEC : ∀ t : Bool, t = zH X i o → ((t = true ∧ p ≠ 0 ∧ tC X i m (p - 1) = PO) ∨ (t = false ∧ PO = p)) := fun t ht => by
       have hs := HPP.out; obtain ⟨q, rfl⟩ : ∃ q, p = q + 1 := ⟨p - 1, by omega⟩
       rw [tC] at hs; have e : m.getD q default = o := by rw [Lt]; rw [Nat.add_sub_cancel] at ho; rw [ho]; rfl
       rw [e, ← ht] at hs; cases t
       ·exact .inr ⟨rfl, by simpa using hs.symm⟩
       ·exact .inl ⟨rfl, by omega, by simpa using hs⟩
      have HDEC := Lr hDEC; have HSQ : Hid (∀ W : World, Below wy.heap.size wy W → W.cell? ⟨A.q, 7, none⟩ = some (.slice (some ⟨kb, koff, none⟩) A.ks.length sc) ∧ W.cell? ⟨kb, koff + i * 14, none⟩ = some (.int .i64 ((X.K i).ca : Nat)) ∧ W.cell? ⟨kb, koff + i * 14 + 1, none⟩ = some (.string (X.K i).ke) ∧ W.cell? ⟨kb, koff + o * 14, none⟩ = some (.int .i64 ((X.K o).ca : Nat)) ∧ W.cell? ⟨kb, koff + o * 14 + 1, none⟩ = some (.string (X.K o).ke) ∧ W.cell? ⟨g2, p - 1, none⟩ = some (.int .i64 (o : Nat))) := Lr fun W hW => by
       obtain ⟨z1, z2, z3⟩ := HIC.out W (HOY.out.b.bf hW); obtain ⟨-, z4, z5⟩ := hoc W (HOY.out.b.bf hW); exact ⟨z1, z2, z3, z4, z5, (hW.cell (p := ⟨g2, p - 1, none⟩) hg2).trans og⟩
      have HAK : Hid (zH X i o = (decide (((X.K i).ca : Int) < ((X.K o).ca : Int)) || (decide (((X.K i).ca : Int) = ((X.K o).ca : Int)) && decide (Lib.compareBytes (X.K i).ke.data.toList (X.K o).ke.data.toList < 0)))) := Lr (by unfold zH; rw [H9, decide_eq_decide.2 (Int.ofNat_lt (n := (X.K i).ca) (m := (X.K o).ca)), decide_eq_decide.2 (Int.ofNat_inj (m := (X.K i).ca) (n := (X.K o).ca))]); have hz : decide ((0 : Int) < (p : Int)) = true := decide_eq_true (by omega); have hz2 : decide (0 < p) = true := decide_eq_true (by omega); have ez2 : ((p : Int) - 1).toNat = p - 1 := by omega
      have hm1 : (p : Int) - 1 < (m.length : Int) := by omega
      have hm2 : (0 : Int) ≤ (p : Int) - 1 := by omega
      have hm3 : (1 : Int) ≤ (p : Int) := by omega
      have hwk : IntKind.i64.wrap ((p : Int) - 1) = (p : Int) - 1 := IntWalk.i64_in _ (by omega); have hi0 : (0 : Int) ≤ (i : Int) := by omega
      have ho0 : (0 : Int) ≤ (o : Int) := by omega
      generalize ((X.K i).ca : Int) = ci at HSQ HAK; generalize ((X.K o).ca : Int) = co at HSQ HAK; generalize (X.K i).ke = ki at HSQ HAK; generalize (X.K o).ke = ko at HSQ HAK; have hiz := HIZ.out; clear hgc hoc ho hDEC og hmne q7; refine wp_region_held_drew (S := fun W => Below wy.heap.size wy W) (by kernel_rfl) HBQ.out (fun hHeld => ?_); refine tkI 0 17 hHeld (h := ?_)
      try simp only [pu]
      refine tkI 1 18 hHeld (h := ?_)
      try simp only [pu]
      refine tkI 2 19 hHeld (h := ?_)
      try simp only [pu]
      refine tkI 3 20 hHeld (h := ?_)
      try simp only [pu]
      refine tkI 4 21 hHeld (h := ?_)
      try simp only [pu]
      refine tkI 5 22 hHeld (h := ?_)
      try simp only [pu]
      refine tkI 6 23 hHeld (hy := by (intro w' hSw; have z1 := (HSQ.out _ hSw).1; go_simp) <;> with_reducible rfl) (h := ?_)
      try simp only [pu]
      refine tkI 7 24 hHeld (h := ?_)
      try simp only [pu]
      refine tkI 8 25 hHeld (h := ?_)
      try simp only [pu]
      refine tkI 9 26 hHeld (h := ?_)
      try simp only [pu]
      refine tkI 10 27 hHeld (hy := by (intro w' hSw; have z1 := (HSQ.out _ hSw).2.1; go_simp) <;> with_reducible rfl) (h := ?_)
      try simp only [pu]
      refine tkI 11 28 hHeld (h := ?_)
      try simp only [pu]
      refine tkI 12 29 hHeld (h := ?_)
      try simp only [pu]
      refine tkI 13 30 hHeld (h := ?_)
      try simp only [pu]
      refine tkI 14 31 hHeld (hy := by (intro w' hSw; have z1 := (HSQ.out _ hSw).1; go_simp) <;> with_reducible rfl) (h := ?_)
      try simp only [pu]
      refine tkI 15 32 hHeld (h := ?_)
      try simp only [pu]
      refine tkI 16 33 hHeld (h := ?_)
      try simp only [pu]
      refine tkI 17 34 hHeld (h := ?_)
      try simp only [pu]
      refine tkI 18 35 hHeld (h := ?_)
      try simp only [pu]
      refine tkI 19 36 hHeld (hy := by (intro w' hSw; have z1 := (HSQ.out _ hSw).2.2.2.2.2; go_simp) <;> with_reducible rfl) (h := ?_)
      try simp only [pu]
      refine tkI 20 37 hHeld (h := ?_)
      try simp only [pu]
      refine tkI 21 38 hHeld (h := ?_)
      try simp only [pu]
      refine tkI 22 39 hHeld (hy := by (intro w' hSw; have z1 := (HSQ.out _ hSw).2.2.2.1; go_simp) <;> with_reducible rfl) (h := ?_)
      try simp only [pu]
      by_cases h1 : ci < co
      ·have hv : Hid (true = zH X i o) := Lr (by rw [HAK.out, decide_eq_true h1, Bool.true_or]); refine tkI 23 40 hHeld (h := ?_)
       try simp only [pu]
       refine tkI 24 41 hHeld (h := ?_)
       try simp only [pu]
       refine tkO 25 42 hHeld (h := ?_)
       try simp only [pu]
       refine tkO 26 43 hHeld (h := ?_)
       try simp only [pu]
       refine tkO 27 44 hHeld (h := ?_)
       try simp only [pu]
       refine tkO 28 45 hHeld (h := ?_)
       try simp only [pu]
       refine tkO 29 46 hHeld (h := ?_)
       try simp only [pu]
       refine tkO 30 47 hHeld (h := ?_)
       try simp only [pu]
       refine tkO 31 48 hHeld (h := ?_)
       try simp only [pu]
       refine tkO 32 49 hHeld (h := ?_)
       try simp only [pu]
       refine tkO 33 50 hHeld (h := ?_)
       try simp only [pu]
       refine tkO 34 51 hHeld (h := ?_)
       try simp only [pu]
       refine tkO 35 52 hHeld (h := ?_)
       try simp only [pu]
       refine tkO 36 53 hHeld (h := ?_)
       try simp only [pu]
       refine tkO 37 54 hHeld (h := ?_)
       try simp only [pu]
       refine tkO 38 55 hHeld (h := ?_)
       try simp only [pu]
       refine tkO 39 56 hHeld (h := ?_)
       try simp only [pu]
       refine tkO 40 57 hHeld (h := ?_)
       try simp only [pu]
       refine tkO 41 58 hHeld (h := ?_)
       try simp only [pu]
       refine tkO 42 59 hHeld (h := ?_)
       try simp only [pu]
       refine tkO 43 60 hHeld (h := ?_)
       try simp only [pu]
       refine tkO 44 61 hHeld (h := ?_)
       try simp only [pu]
       refine tkO 45 62 hHeld (h := ?_)
       try simp only [pu]
       refine tkO 46 63 hHeld (h := ?_)
       try simp only [pu]
       refine tkO 47 64 hHeld (h := ?_)
       try simp only [pu]
       refine tkO 48 65 hHeld (h := ?_)
       try simp only [pu]
       refine tkO 49 66 hHeld (h := ?_)
       try simp only [pu]
       refine tkO 50 67 hHeld (h := ?_)
       try simp only [pu]
       refine tkO 51 68 hHeld (h := ?_)
       try simp only [pu]
       refine tkO 52 69 hHeld (h := ?_)
       try simp only [pu]
       refine tkO 53 70 hHeld (h := ?_)
       try simp only [pu]
       refine tkO 54 71 hHeld (h := ?_)
       try simp only [pu]
       refine tkO 55 72 hHeld (h := ?_)
       try simp only [pu]
       refine tkO 56 73 hHeld (h := ?_)
       try simp only [pu]
       refine tkO 57 74 hHeld (h := ?_)
       try simp only [pu]
       refine tkO 58 75 hHeld (h := ?_)
       try simp only [pu]
       refine tkO 59 76 hHeld (h := ?_)
       try simp only [pu]
       refine tkO 60 77 hHeld (h := ?_)
       try simp only [pu]
       refine tkO 61 78 hHeld (h := ?_)
       try simp only [pu]
       refine tkO 62 79 hHeld (h := ?_)
       try simp only [pu]
       refine tkO 63 80 hHeld (h := ?_)
       try simp only [pu]
       refine tkO 64 81 hHeld (h := ?_)
       try simp only [pu]
       refine tkO 65 82 hHeld (h := ?_)
       try simp only [pu]
       refine tkO 66 83 hHeld (h := ?_)
       try simp only [pu]
       refine tkO 67 84 hHeld (h := ?_)
       try simp only [pu]
       refine tkO 68 85 hHeld (h := ?_)
       try simp only [pu]
       refine tkO 69 86 hHeld (h := ?_)
       try simp only [pu]
       refine tkI 70 87 hHeld (h := ?_)
       try simp only [pu]
       refine tkI 71 88 hHeld (h := ?_)
       try simp only [pu]
       refine wpAnyH_done (by kernel_rfl) ?_ _; clear hHeld
       go_wp2_with fail
       go_meet
       exact ⟨true, rfl, HOY.out.drew, HDEC.out _ hv.out⟩
      ·refine tkI 23 40 hHeld (h := ?_)
       try simp only [pu]
       refine tkI 24 41 hHeld (h := ?_)
       try simp only [pu]
       refine tkI 25 42 hHeld (h := ?_)
       try simp only [pu]
       refine tkI 26 43 hHeld (h := ?_)
       try simp only [pu]
       refine tkI 27 44 hHeld (h := ?_)
       try simp only [pu]
       refine tkI 28 45 hHeld (hy := by (intro w' hSw; have z1 := (HSQ.out _ hSw).1; go_simp) <;> with_reducible rfl) (h := ?_)
       try simp only [pu]
       refine tkI 29 46 hHeld (h := ?_)
       try simp only [pu]
       refine tkI 30 47 hHeld (h := ?_)
       try simp only [pu]
       refine tkI 31 48 hHeld (h := ?_)
       try simp only [pu]
       refine tkI 32 49 hHeld (hy := by (intro w' hSw; have z1 := (HSQ.out _ hSw).2.1; go_simp) <;> with_reducible rfl) (h := ?_)
       try simp only [pu]
       refine tkI 33 50 hHeld (h := ?_)
       try simp only [pu]
       refine tkI 34 51 hHeld (h := ?_)
       try simp only [pu]
       refine tkI 35 52 hHeld (h := ?_)
       try simp only [pu]
       refine tkI 36 53 hHeld (hy := by (intro w' hSw; have z1 := (HSQ.out _ hSw).1; go_simp) <;> with_reducible rfl) (h := ?_)
       try simp only [pu]
       refine tkI 37 54 hHeld (h := ?_)
       try simp only [pu]
       refine tkI 38 55 hHeld (h := ?_)
       try simp only [pu]
       refine tkI 39 56 hHeld (h := ?_)
       try simp only [pu]
       refine tkI 40 57 hHeld (h := ?_)
       try simp only [pu]
       refine tkI 41 58 hHeld (hy := by (intro w' hSw; have z1 := (HSQ.out _ hSw).2.2.2.2.2; go_simp) <;> with_reducible rfl) (h := ?_)
       try simp only [pu]
       refine tkI 42 59 hHeld (h := ?_)
       try simp only [pu]
       refine tkI 43 60 hHeld (h := ?_)
       try simp only [pu]
       refine tkI 44 61 hHeld (hy := by (intro w' hSw; have z1 := (HSQ.out _ hSw).2.2.2.1; go_simp) <;> with_reducible rfl) (h := ?_)
       try simp only [pu]
       by_cases h2 : ci = co
       ·have hv : Hid (decide (Lib.compareBytes ki.data.toList ko.data.toList < 0) = zH X i o) := Lr (by rw [HAK.out, decide_eq_false h1, Bool.false_or, decide_eq_true h2, Bool.true_and]); subst h2; refine tkI 45 62 hHeld (h := ?_)
        try simp only [pu]
        refine tkI 46 63 hHeld (h := ?_)
        try simp only [pu]
        refine tkI 47 64 hHeld (h := ?_)
        try simp only [pu]
        refine tkI 48 65 hHeld (h := ?_)
        try simp only [pu]
        refine tkI 49 66 hHeld (h := ?_)
        try simp only [pu]
        refine tkI 50 67 hHeld (hy := by (intro w' hSw; have z1 := (HSQ.out _ hSw).1; go_simp) <;> with_reducible rfl) (h := ?_)
        try simp only [pu]
        refine tkI 51 68 hHeld (h := ?_)
        try simp only [pu]
        refine tkI 52 69 hHeld (h := ?_)
        try simp only [pu]
        refine tkI 53 70 hHeld (h := ?_)
        try simp only [pu]
        refine tkI 54 71 hHeld (hy := by (intro w' hSw; have z1 := (HSQ.out _ hSw).2.2.1; go_simp) <;> with_reducible rfl) (h := ?_)
        try simp only [pu]
        refine tkI 55 72 hHeld (h := ?_)
        try simp only [pu]
        refine tkI 56 73 hHeld (h := ?_)
        try simp only [pu]
        refine tkI 57 74 hHeld (h := ?_)
        try simp only [pu]
        refine tkI 58 75 hHeld (hy := by (intro w' hSw; have z1 := (HSQ.out _ hSw).1; go_simp) <;> with_reducible rfl) (h := ?_)
        try simp only [pu]
        refine tkI 59 76 hHeld (h := ?_)
        try simp only [pu]
        refine tkI 60 77 hHeld (h := ?_)
        try simp only [pu]
        refine tkI 61 78 hHeld (h := ?_)
        try simp only [pu]
        refine tkI 62 79 hHeld (h := ?_)
        try simp only [pu]
        refine tkI 63 80 hHeld (hy := by (intro w' hSw; have z1 := (HSQ.out _ hSw).2.2.2.2.2; go_simp) <;> with_reducible rfl) (h := ?_)
        try simp only [pu]
        refine tkI 64 81 hHeld (h := ?_)
        try simp only [pu]
        refine tkI 65 82 hHeld (h := ?_)
        try simp only [pu]
        refine tkI 66 83 hHeld (hy := by (intro w' hSw; have z1 := (HSQ.out _ hSw).2.2.2.2.1; go_simp) <;> with_reducible rfl) (h := ?_)
        try simp only [pu]
        refine iK (f := 42) (args := #[.string ki, .string ko]) 67 84 rfl rfl (by kernel_rfl) (by rfl) (by go_simp) ?_; clear hHeld; refine (hcmp.out _ _ _).mono ?_; rintro e w9 ⟨rfl, rfl⟩; have hHeld : Below wy.heap.size wy wy.drew := HBQ.out; refine ⟨_, rfl, hHeld, ?_⟩
        try simp only [pu]
        refine tkI 68 85 hHeld (h := ?_)
        try simp only [pu]
        refine tkI 69 86 hHeld (h := ?_)
        try simp only [pu]
        refine tkI 70 87 hHeld (h := ?_)
        try simp only [pu]
        refine tkI 71 88 hHeld (h := ?_)
        try simp only [pu]
        refine wpAnyH_done (by kernel_rfl) ?_ _; clear hHeld
        go_wp2_with fail
        go_meet
        exact ⟨_, rfl, HOY.out.drew, HDEC.out _ hv.out⟩
       ·have hv : Hid (false = zH X i o) := Lr (by rw [HAK.out, decide_eq_false h1, Bool.false_or, decide_eq_false h2, Bool.false_and]); have h2b : (ci == co) = false := beq_eq_false_iff_ne.2 h2; refine tkI 45 62 hHeld (h := ?_)
        try simp only [pu]
        refine tkI 46 63 hHeld (h := ?_)
        try simp only [pu]
        refine tkO 47 64 hHeld (h := ?_)
        try simp only [pu]
        refine tkO 48 65 hHeld (h := ?_)
        try simp only [pu]
        refine tkO 49 66 hHeld (h := ?_)
        try simp only [pu]
        refine tkO 50 67 hHeld (h := ?_)
        try simp only [pu]
        refine tkO 51 68 hHeld (h := ?_)
        try simp only [pu]
        refine tkO 52 69 hHeld (h := ?_)
        try simp only [pu]
        refine tkO 53 70 hHeld (h := ?_)
        try simp only [pu]
        refine tkO 54 71 hHeld (h := ?_)
        try simp only [pu]
        refine tkO 55 72 hHeld (h := ?_)
        try simp only [pu]
        refine tkO 56 73 hHeld (h := ?_)
        try simp only [pu]
        refine tkO 57 74 hHeld (h := ?_)
        try simp only [pu]
        refine tkO 58 75 hHeld (h := ?_)
        try simp only [pu]
        refine tkO 59 76 hHeld (h := ?_)
        try simp only [pu]
        refine tkO 60 77 hHeld (h := ?_)
        try simp only [pu]
        refine tkO 61 78 hHeld (h := ?_)
        try simp only [pu]
        refine tkO 62 79 hHeld (h := ?_)
        try simp only [pu]
        refine tkO 63 80 hHeld (h := ?_)
        try simp only [pu]
        refine tkO 64 81 hHeld (h := ?_)
        try simp only [pu]
        refine tkO 65 82 hHeld (h := ?_)
        try simp only [pu]
        refine tkO 66 83 hHeld (h := ?_)
        try simp only [pu]
        refine tkO 67 84 hHeld (h := ?_)
        try simp only [pu]
        refine tkO 68 85 hHeld (h := ?_)
        try simp only [pu]
        refine tkI 69 86 hHeld (h := ?_)
        try simp only [pu]
        refine tkI 70 87 hHeld (h := ?_)
        try simp only [pu]
        refine tkI 71 88 hHeld (h := ?_)
        try simp only [pu]
        refine wpAnyH_done (by kernel_rfl) ?_ _; clear hHeld
        go_wp2_with fail
        go_meet
        exact ⟨false, rfl, HOY.out.drew, HDEC.out _ hv.out⟩
    obtain ⟨t, rfl, TT⟩ := hcut; have HOC := Lr TT.out.1; have HTD := Lr TT.out.2; clear TT q7; cases t
    ·have hpp : Hid (PO = p) := Lr (by
      rcases HTD.out with ⟨h, _⟩ | ⟨_, h⟩
      ·cases h
      ·exact h)
     have HNX2 : Hid (M (kk + 1) = m.take p ++ i :: m.drop p) := Lr (by rw [HNX.out]; unfold DY; rw [← HPO.out, hpp.out]); have hbs := HOC.out.b.size; have hins := EM (wc.alloc (.cells #[.int .i64 (i : Nat)] 3)) w.heap.size wc.heap.size p m i (.slice a m.length c) (HOC.out.o.al _) (by simp; omega) hmx hp (ag _ _) (nC HOC.out.o (Ls _)); have HINS := Lr hins; have HBA := Lr (HOC.out.b.alloc hbs (.cells #[.int .i64 (i : Nat)] 3)); clear hins hbs
     go_wp2_with (go_at_call 144; (with_reducible refine HINS.out.mono ?_); rintro e w7 ⟨v7, rfl, ho7, hb7⟩; obtain ⟨a7, n7, c7, rfl⟩ := Own.slv dI ho7; have HO7 := Lr ho7; have HB7 := Lr hb7; clear ho7 hb7)
     go_roundg (l.length - (kk + 1))
     case measure => omega
     case rel => exact ⟨kk + 1, by omega, by omega, by go_num, a7, n7, c7, rfl, ⟨by rw [HNX2.out]; exact HO7.out, HBA.out.trans HB7.out⟩⟩
    ·have hpp : Hid (p ≠ 0 ∧ tC X i m (p - 1) = PO) := Lr (by
      rcases HTD.out with ⟨_, h⟩ | ⟨h, _⟩
      ·exact h
      ·cases h)
     have hp0 : p ≠ 0 := hpp.out.1; have hwk : IntKind.i64.wrap ((p : Int) - 1) = (p : Int) - 1 := IntWalk.i64_in _ (by omega); have hcz : Hid (((p - 1 : Nat) : Int) = (p : Int) - 1) := Lr (by omega)
     go_wp2_with fail
     go_roundg (p - 1)
     case measure => omega
     case rel => exact ⟨p - 1, by omega, Ls _, by rw [hcz.out], HOC.out, hpp.out.2⟩
  ·obtain rfl : kk = l.length := by omega
   have hltz : ¬ (l.length : Int) < (l.length : Int) := by omega
   have HOS := Lr OS.out; clear OS
   go_wp2_with fail
   go_ret
   exact ⟨_, rfl, HOS.out.o, HOS.out.b⟩
def Ld6 (c f s t a b : Nat) (X : Xd) : Prop := ∀ i, ((0 ≤ (X.Ld i).ca ∧ (X.Ld i).ca ≤ c) ∧ (0 ≤ (X.Ld i).fr ∧ (X.Ld i).fr ≤ f) ∧ (0 ≤ (X.Ld i).sl ∧ (X.Ld i).sl ≤ s)) ∧ (0 ≤ (X.Ld i).wt ∧ (X.Ld i).wt ≤ t) ∧ (0 ≤ (X.Ld i).ak ∧ (X.Ld i).ak ≤ a) ∧ (0 ≤ (X.Ld i).bs ∧ (X.Ld i).bs ≤ b)
theorem zJ {X : Xd} {i : Nat} {f : Ldd → Ldd} (a : Nat) : (X.aO i f).Ld a = X.Ld a ∨ (X.aO i f).Ld a = f (X.Ld i) := by
 show (X.ld.set i (f (X.Ld i))).getD a default = X.ld.getD a default ∨ (X.ld.set i (f (X.Ld i))).getD a default = f (X.Ld i)
 rw [Lt, Lt, List.getElem?_set]; by_cases e : i = a
 ·subst e; rw [if_pos rfl]; by_cases hl : i < X.ld.length
  ·rw [if_pos hl]; exact .inr rfl
  ·rw [if_neg hl, List.getElem?_eq_none (by omega)]; exact .inl rfl
 ·rw [if_neg e]; exact .inl rfl
section
variable {X X' : Xd} {c f s t a b : Nat}
theorem Ld6.of (h : Ld6 c f s t a b X) (e : X'.ld = X.ld) : Ld6 c f s t a b X' := fun i => by unfold Xd.Ld; rw [e]; exact h i
theorem Ld6.mono {c' f' s' t' a' b' : Nat} (h : Ld6 c f s t a b X) (h1 : c ≤ c') (h2 : f ≤ f') (h3 : s ≤ s') (h4 : t ≤ t') (h5 : a ≤ a') (h6 : b ≤ b') : Ld6 c' f' s' t' a' b' X := fun i => by
 obtain ⟨⟨g1, g2, g3⟩, g4, g5, g6⟩ := h i; exact ⟨⟨⟨g1.1, by omega⟩, ⟨g2.1, by omega⟩, ⟨g3.1, by omega⟩⟩, ⟨g4.1, by omega⟩, ⟨g5.1, by omega⟩, ⟨g6.1, by omega⟩⟩
theorem Ld6.ca (h : Ld6 c f s t a b X) (i : Nat) : Ld6 (c + 1) f s t a b (X.aO i dw) := fun j => by
 rcases zJ (X := X) (i := i) (f := dw) j with e | e
 ·rw [e]; exact h.mono (Nat.le_succ _) (Ls _) (Ls _) (Ls _) (Ls _) (Ls _) j
 ·rw [e]; obtain ⟨⟨g1, g2, g3⟩, g4⟩ := h i; exact ⟨⟨⟨by show 0 ≤ (X.Ld i).ca + 1; omega, by show (X.Ld i).ca + 1 ≤ _; omega⟩, g2, g3⟩, g4⟩
theorem Ld6.fr (h : Ld6 c f s t a b X) (i : Nat) : Ld6 c (f + 1) s t a b (X.aO i yO) := fun j => by
 rcases zJ (X := X) (i := i) (f := yO) j with e | e
 ·rw [e]; exact h.mono (Ls _) (Nat.le_succ _) (Ls _) (Ls _) (Ls _) (Ls _) j
 ·rw [e]; obtain ⟨⟨g1, g2, g3⟩, g4⟩ := h i; exact ⟨⟨g1, ⟨by show 0 ≤ (X.Ld i).fr + 1; omega, by show (X.Ld i).fr + 1 ≤ _; omega⟩, g3⟩, g4⟩
theorem Ld6.sl (h : Ld6 c f s t a b X) (i : Nat) : Ld6 c f (s + 1) t a b (X.aO i jB) := fun j => by
 rcases zJ (X := X) (i := i) (f := jB) j with e | e
 ·rw [e]; exact h.mono (Ls _) (Ls _) (Nat.le_succ _) (Ls _) (Ls _) (Ls _) j
 ·rw [e]; obtain ⟨⟨g1, g2, g3⟩, g4⟩ := h i; exact ⟨⟨g1, g2, ⟨by show 0 ≤ (X.Ld i).sl + 1; omega, by show (X.Ld i).sl + 1 ≤ _; omega⟩⟩, g4⟩
theorem Ld6.wt (h : Ld6 c f s t a b X) (i : Nat) : Ld6 c f s (t + 1) a b (X.aO i tZ) := fun j => by
 rcases zJ (X := X) (i := i) (f := tZ) j with e | e
 ·rw [e]; exact h.mono (Ls _) (Ls _) (Ls _) (Nat.le_succ _) (Ls _) (Ls _) j
 ·rw [e]; obtain ⟨g1, g4, g5⟩ := h i; exact ⟨g1, ⟨by show 0 ≤ (X.Ld i).wt + 1; omega, by show (X.Ld i).wt + 1 ≤ _; omega⟩, g5⟩
theorem Ld6.ak (h : Ld6 c f s t a b X) (i : Nat) : Ld6 c f s t (a + 1) b (X.aO i BZ) := fun j => by
 rcases zJ (X := X) (i := i) (f := BZ) j with e | e
 ·rw [e]; exact h.mono (Ls _) (Ls _) (Ls _) (Ls _) (Nat.le_succ _) (Ls _) j
 ·rw [e]; obtain ⟨g1, g4, g5, g6⟩ := h i; exact ⟨g1, g4, ⟨by show 0 ≤ (X.Ld i).ak + 1; omega, by show (X.Ld i).ak + 1 ≤ _; omega⟩, g6⟩
theorem Ld6.bs (h : Ld6 c f s t a b X) (i : Nat) {n : Int} {m : Nat} (h0 : 0 ≤ n) (hn : n ≤ m) : Ld6 c f s t a (b + m) (X.aO i (GY n)) := fun j => by
 rcases zJ (X := X) (i := i) (f := GY n) j with e | e
 ·rw [e]; exact h.mono (Ls _) (Ls _) (Ls _) (Ls _) (Ls _) (Nat.le_add_right _ _) j
 ·rw [e]; obtain ⟨g1, g4, g5, g6⟩ := h i; exact ⟨g1, g4, g5, ⟨by show 0 ≤ (X.Ld i).bs + n; omega, by show (X.Ld i).bs + n ≤ _; omega⟩⟩
end
theorem Jp {X : Xd} {i : Nat} {l : List Xh} (a : Nat) : (X.setH i l).H a = X.H a ∨ (X.setH i l).H a = l := by
 show (X.he.set i l).getD a [] = X.he.getD a [] ∨ (X.he.set i l).getD a [] = l
 rw [Lt, Lt, List.getElem?_set]; by_cases e : i = a
 ·subst e; rw [if_pos rfl]; by_cases hl : i < X.he.length
  ·rw [if_pos hl]; exact .inr rfl
  ·rw [if_neg hl, List.getElem?_eq_none (by omega)]; exact .inl rfl
 ·rw [if_neg e]; exact .inl rfl
structure Cap (n : Nat) (X : Xd) : Prop where
 ak : X.ak.length ≤ n
 wt : (aB X).length ≤ n
 he : ∀ i, (X.H i).length ≤ n
 ld : Ld6 n n n n n (n * 1000000000) X
def Alo (R : List Crl) (X : Xd) : Prop := ∀ (j : Nat) (k : Xk), X.ak[j]? = some k → k.al = false → (ruI R k.ke R.length).isSome = true
section
variable {C : List Cch} {R : List Crl} {E : List Rel} {P : List Pur} {L : List Gt} {X : Xd} {pd : List Xw}
theorem fM {w : Xw} {a : Ans} : (X.aI C w a).ak.length = X.ak.length := by
 unfold Xd.aI; cases w.ak with
 | none => rfl
 | some j => exact List.length_set
theorem jU {w : Xw} {a : Ans} : (X.aI C w a).ld = X.ld := by
 unfold Xd.aI; cases w.ak <;> rfl
theorem jV {w : Xw} {a : Ans} : (X.aI C w a).he = X.he := by
 unfold Xd.aI; cases w.ak <;> rfl
theorem iR {i : Nat} {key : ByteArray} {al : Bool} {ws : List Xw} : (X.aA C i key al ws).ak.length = X.ak.length + 1 := by
 show (X.ak ++ [_]).length = _; simp
theorem Fg {i : Nat} {key : ByteArray} {ge : Nat} {ak : Option Nat} : (X.aY C R P i key ge ak).ak.length ≤ X.ak.length + 1 := by
 unfold Xd.aY; split
 ·rw [iR]; exact Ls _
 ·split
  ·split
   ·rw [fM]; exact Nat.le_succ _
   ·split
    ·rw [fM]; exact Nat.le_succ _
    ·rw [fM, iR]; exact Ls _
  ·split
   ·show (X.ak.set _ _).length ≤ _; rw [List.length_set]; exact Nat.le_succ _
   ·rw [iR]; exact Ls _
theorem Ea {l : List Xh} {k : ByteArray} {no : Int} : (gz l k no).length = l.length := List.length_map _
theorem Hz {i : Nat} {key : ByteArray} {ge : Nat} {ak : Option Nat} {n : Nat} (h : ∀ i, (X.H i).length ≤ n) : ∀ m, ((X.aY C R P i key ge ak).H m).length ≤ n := fun m => by
 have hu : ∀ {Y : Xd}, Y.he = X.he → ∀ {f : Ldd → Ldd}, ((((Y.aO i dw).aO i f).setH i (gz (X.H i) key X.no)).H m).length ≤ n := fun {Y} e {f} => by
  rcases Jp (X := (Y.aO i dw).aO i f) (i := i) (l := gz (X.H i) key X.no) m with e2 | e2
  ·rw [e2]; show (Y.he.getD m []).length ≤ n
   rw [e]; exact h m
  ·rw [e2, Ea]; exact h i
 unfold Xd.aY; split
 ·exact h m
 ·split
  ·split
   ·unfold Xd.H; rw [jV]; exact hu rfl
   ·split
    ·unfold Xd.H; rw [jV]; exact hu rfl
    ·unfold Xd.H; rw [jV]; exact hu rfl
  ·split
   ·exact h m
   ·exact h m
theorem Hy {i : Nat} {key : ByteArray} {ge : Nat} {ak : Option Nat} {c f s t a b : Nat} (h : Ld6 c f s t a b X) : Ld6 (c + 1) (f + 1) (s + 1) (t + 1) (a + 1) b (X.aY C R P i key ge ak) := by
 have hst : ∀ {Y : Xd} {key : ByteArray} {al : Bool} {ws : List Xw} {c f s t b : Nat}, Ld6 c f s t a b Y → Ld6 c f s t (a + 1) b (Y.aA C i key al ws) := fun h => (h.ak i).of rfl
 unfold Xd.aY; split
 ·exact (hst (h.ca i)).mono (Ls _) (Nat.le_succ _) (Nat.le_succ _) (Nat.le_succ _) (Ls _) (Ls _)
 ·split
  ·split
   ·exact (((h.ca i).fr i).of (X' := Xd.aI C _ _ _) (by rw [jU]; rfl)).mono (Ls _) (Ls _) (Nat.le_succ _) (Nat.le_succ _) (Nat.le_succ _) (Ls _)
   ·split
    ·exact (((h.ca i).sl i).of (X' := Xd.aI C _ _ _) (by rw [jU]; rfl)).mono (Ls _) (Nat.le_succ _) (Ls _) (Nat.le_succ _) (Nat.le_succ _) (Ls _)
    ·exact ((hst (((h.ca i).sl i).of (X' := ((X.aO i dw).aO i jB).setH i (gz (X.H i) key X.no)) rfl)).of (X' := Xd.aI C _ _ _) (by rw [jU])).mono (Ls _) (Nat.le_succ _) (Ls _) (Nat.le_succ _) (Ls _) (Ls _)
  ·split
   ·exact (((h.ca i).wt i).of (X' := Xd.nK _ _ _) rfl).mono (Ls _) (Nat.le_succ _) (Nat.le_succ _) (Ls _) (Nat.le_succ _) (Ls _)
   ·exact (hst (h.ca i)).mono (Ls _) (Nat.le_succ _) (Nat.le_succ _) (Nat.le_succ _) (Ls _) (Ls _)
theorem Cap.mono {n m : Nat} (h : Cap n X) (hm : n ≤ m) : Cap m X :=
 ⟨Nat.le_trans h.ak hm, Nat.le_trans h.wt hm, fun i => Nat.le_trans (h.he i) hm, h.ld.mono hm hm hm hm hm (Nat.mul_le_mul_right _ hm)⟩
theorem Cap.come {n i : Nat} {key : ByteArray} {ge : Nat} {ak : Option Nat} (h : Cap n X) (hV : ∀ (i : Nat) (x : Cch), C[i]? = some x → 1 ≤ x.de ∧ x.de ≤ 100000) (hj : ∀ j, ak = some j → j < X.ak.length ∧ (X.K j).ca < C.length) : Cap (n + 1) (X.aY C R P i key ge ak) :=
 ⟨by have := Fg (C := C) (R := R) (P := P) (X := X) (i := i) (key := key) (ge := ge) (ak := ak); have := h.ak; omega,
  by have h1 : (aB (X.aY C R P i key ge ak)).length ≤ (aB X).length + 1 := (Lf.come (R := R) (P := P) (i := i) (key := key) (ge := ge) hV hj).wt; have := h.wt; omega,
  fun m => Nat.le_succ_of_le (Hz h.he m), (Hy h.ld).mono (Ls _) (Ls _) (Ls _) (Ls _) (Ls _) (by omega)⟩
theorem Cap.give {n : Nat} {w : Xw} {a : Ans} (h : Cap n X) (hV : ∀ (i : Nat) (x : Cch), C[i]? = some x → 1 ≤ x.de ∧ x.de ≤ 100000) (hj : ∀ j, w.ak = some j → j < X.ak.length ∧ (X.K j).ca < C.length) : Cap n (X.aI C w a) :=
 ⟨by rw [fM]; exact h.ak,
  by have h1 : (aB (X.aI C w a)).length ≤ (aB X).length + 0 := (Lf.give (a := a) hV hj).wt; have := h.wt; omega,
  fun i => by unfold Xd.H; rw [jV]; exact h.he i, h.ld.of jU⟩
theorem jC {a : Ans} : ∀ (ws : List Xw) (X : Xd), (X.bQ C ws a).ak.length = X.ak.length ∧ (X.bQ C ws a).ld = X.ld ∧ (X.bQ C ws a).he = X.he
 | [], X => ⟨rfl, rfl, rfl⟩
 | w :: ws, X => by
  obtain ⟨h1, h2, h3⟩ := jC (a := a) ws (X.aI C w a); exact ⟨h1.trans fM, h2.trans jU, h3.trans jV⟩
theorem Cap.keep {n i : Nat} {key : ByteArray} {a : Ans} (h : Cap n X) : Cap (n + 1) (X.dS C R P i key a) := by
 have hd : (eH (X.H i) key).length ≤ n := Nat.le_trans (List.length_filter_le _ _) (h.he i); have hset : ∀ l : List Xh, l.length ≤ n + 1 → Cap (n + 1) (X.setH i l) := fun l hl => by
  have h1 := h.mono (Nat.le_succ n); refine ⟨h1.ak, h1.wt, fun m => ?_, h1.ld.of rfl⟩; rcases Jp (X := X) (i := i) (l := l) m with e | e
  ·rw [e]; exact h1.he m
  ·rw [e]; exact hl
 unfold Xd.dS; split
 ·exact h.mono (Nat.le_succ n)
 ·split
  ·exact hset _ (Nat.le_succ_of_le hd)
  ·refine hset _ ?_; rw [List.length_append]; have : (evX (eH (X.H i) key) (C.getD i default).ro (aT a)).length ≤ (eH (X.H i) key).length := List.length_filter_le _ _; simp only [List.length_cons, List.length_nil]
   omega
theorem Cap.back {n j : Nat} (h : Cap n X) (hx : aP C P L [] X) (hV : ∀ (i : Nat) (x : Cch), C[i]? = some x → 1 ≤ x.de ∧ x.de ≤ 100000) (hj : j < X.ak.length) (hkn : (X.K j).kn = true) (hd : (X.K j).dn = false) : Cap (n + 1) (X.dR C R P j) := by
 have ha := hx.an j _ (Xd.at_ hj) hkn; have hsi : 0 ≤ (X.K j).go.si ∧ (X.K j).go.si ≤ ((1000000000 : Nat) : Int) := by
  cases hn : (X.K j).go.no
  ·have := ha.s1 hn; omega
  ·have := ha.s0 hn; omega
 obtain ⟨g1, g2, g3⟩ := jC (C := C) (a := (X.K j).go) (X.K j).ws (X.bP j); have hdl : (X.bP j).ak.length = X.ak.length := List.length_set; have hw := (kz (R := R) hx hV hj hkn hd).2.2.2.2; have hld : Ld6 (n + 1) (n + 1) (n + 1) (n + 1) (n + 1) ((n + 1) * 1000000000) ((X.bP j).bQ C (X.K j).ws (X.K j).go) := by
  have h1 : Ld6 n n n n n (n * 1000000000 + 1000000000) (X.bP j) := (Ld6.of (X' := X.bT j { X.K j with dn := true }) h.ld rfl).bs (X.K j).ca hsi.1 hsi.2; exact (h1.of (X' := (X.bP j).bQ C (X.K j).ws (X.K j).go) g2).mono (Nat.le_succ _) (Nat.le_succ _) (Nat.le_succ _) (Nat.le_succ _) (Nat.le_succ _) (by omega)
 have hhe : ∀ m, (((X.bP j).bQ C (X.K j).ws (X.K j).go).H m).length ≤ n := fun m => by
  unfold Xd.H; rw [g3]; exact h.he m
 have hwt := h.wt; have hak := h.ak; unfold Xd.dR at hw ⊢; split
 ·rename_i hal; rw [if_pos hal] at hw; have hk : ∀ (Y : Xd), (∀ m, (Y.H m).length ≤ n) → ∀ m, ((Y.dS C R P (X.K j).ca (X.K j).ke (X.K j).go).H m).length ≤ n + 1 := fun Y hY m => by
   have hd2 : (eH (Y.H (X.K j).ca) (X.K j).ke).length ≤ n := Nat.le_trans (List.length_filter_le _ _) (hY _); unfold Xd.dS; split
   ·exact Nat.le_succ_of_le (hY m)
   ·split
    ·rcases Jp (X := Y) (i := (X.K j).ca) (l := eH (Y.H (X.K j).ca) (X.K j).ke) m with e | e
     ·rw [e]; exact Nat.le_succ_of_le (hY m)
     ·rw [e]; exact Nat.le_succ_of_le hd2
    ·rcases Jp (X := Y) (i := (X.K j).ca) (l := evX (eH (Y.H (X.K j).ca) (X.K j).ke) (C.getD (X.K j).ca default).ro (aT (X.K j).go) ++ [⟨(X.K j).ke, (X.K j).go, Y.no⟩]) m with e | e
     ·rw [e]; exact Nat.le_succ_of_le (hY m)
     ·rw [e, List.length_append]; have : (evX (eH (Y.H (X.K j).ca) (X.K j).ke) (C.getD (X.K j).ca default).ro (aT (X.K j).go)).length ≤ (eH (Y.H (X.K j).ca) (X.K j).ke).length := List.length_filter_le _ _; simp only [List.length_cons, List.length_nil]
      omega
  have hkk : ∀ (Y : Xd), (Y.dS C R P (X.K j).ca (X.K j).ke (X.K j).go).ak = Y.ak ∧ (Y.dS C R P (X.K j).ca (X.K j).ke (X.K j).go).ld = Y.ld := fun Y => by
   unfold Xd.dS; split
   ·exact ⟨rfl, rfl⟩
   ·split <;> exact ⟨rfl, rfl⟩
  refine ⟨?_, by omega, hk _ hhe, hld.of (hkk _).2⟩; rw [(hkk _).1, g1, hdl]; omega
 ·rename_i hal; rw [if_neg hal] at hw; exact ⟨by rw [g1, hdl]; omega, by omega, fun m => Nat.le_succ_of_le (hhe m), hld⟩
theorem Cap.arr {n j : Nat} (h : Cap n X) (hx : aP C P L [] X) (hv : Val C R E P L) (hj : j < X.ak.length) : Cap (n + 1) (X.jv C R E P j) := by
 have hk := Xd.at_ hj; have hV : ∀ (i : Nat) (x : Cch), C[i]? = some x → 1 ≤ x.de ∧ x.de ≤ 100000 := fun i x hx => (hv.cd i x hx).1
 have hc : Lf X (X.cZ j) true (2 * (X.K j).ca + 1) 0 := Lf.bT (k' := { X.K j with cm := true }) hj (by unfold wK; simp; exact Nat.le_trans (Nat.le_add_left _ _) (Nat.le_add_right _ _)) (Ls _) (fun h => h); have h1 : Cap n (X.cZ j) := ⟨by show (X.ak.set _ _).length ≤ n; rw [List.length_set]; exact h.ak, by have := hc.wt; have := h.wt; omega, h.he, h.ld.of rfl⟩
 have hl : ∀ a, some j = some a → a < (X.cZ j).ak.length ∧ ((X.cZ j).K a).ca < C.length := fun a ha => by
  cases ha
  refine ⟨by show j < (X.bT j _).ak.length; rw [bG]; exact hj, ?_⟩; have e : ((X.cZ j).K j).ca = (X.K j).ca := fH (k' := { X.K j with cm := true }) hj rfl; rw [e]; exact (hx.kk j _ hk).1
 unfold Xd.jv; split
 ·exact h1.come hV hl
 ·exact (h1.give (w := ⟨0, some j, 0⟩) hV hl).mono (Nat.le_succ n)
theorem Alo.bT {j : Nat} {k' : Xk} (h : Alo R X) (hj : j < X.ak.length) (h1 : k'.ke = (X.K j).ke) (h2 : k'.al = (X.K j).al) : Alo R (X.bT j k') := fun a k ha hal => by
 rcases aX ha with ⟨rfl, rfl⟩ | ⟨_, ha⟩
 ·rw [h1]; exact h a _ (Xd.at_ hj) (h2 ▸ hal)
 ·exact h a k ha hal
theorem Alo.give {w : Xw} {a : Ans} (h : Alo R X) (hj : ∀ j, w.ak = some j → j < X.ak.length) : Alo R (X.aI C w a) := by
 unfold Xd.aI; cases hw : w.ak with
 | none => exact h
 | some j => exact Alo.bT (k' := { X.K j with kn := true, go := a, bk := X.no + deO C (X.K j).ca }) h (hj j hw) rfl rfl
theorem Alo.start {i : Nat} {key : ByteArray} {al : Bool} {ws : List Xw} (h : Alo R X) (hr : al = false → (ruI R key R.length).isSome = true) : Alo R (X.aA C i key al ws) := fun a k ha hal => by
 have ha' : (X.ak ++ [_])[a]? = some k := ha; rcases dL ha' with ⟨rfl, rfl⟩ | ⟨_, ha'⟩
 ·exact hr hal
 ·exact h a k ha' hal
theorem Alo.come {i : Nat} {key : ByteArray} {ge : Nat} {ak : Option Nat} (h : Alo R X) (hj : ∀ j, ak = some j → j < X.ak.length) : Alo R (X.aY C R P i key ge ak) := by
 unfold Xd.aY; split
 ·exact Alo.start (X := X.aO i dw) h (fun h => by cases h)
 ·rename_i hru; have hr : (ruI R key R.length).isSome = true := eq_true_of_ne_false hru; split
  ·split
   ·exact Alo.give (X := ((X.aO i dw).aO i yO).setH i (gz (X.H i) key X.no)) (w := ⟨ge, ak, 1⟩) h hj
   ·split
    ·exact Alo.give (X := ((X.aO i dw).aO i jB).setH i (gz (X.H i) key X.no)) (w := ⟨ge, ak, 2⟩) h hj
    ·refine Alo.give (w := ⟨ge, ak, 2⟩) (Alo.start (X := ((X.aO i dw).aO i jB).setH i (gz (X.H i) key X.no)) h fun _ => hr) fun j h2 => ?_
     rw [iR]; exact Nat.lt_succ_of_lt (hj j h2)
  ·split
   ·rename_i j hw; exact Alo.bT (X := (X.aO i dw).aO i tZ) (k' := { ((X.aO i dw).aO i tZ).K j with ws := _ }) h (iy hw).1 rfl rfl
   ·exact Alo.start (X := X.aO i dw) h fun _ => hr
theorem Alo.gives {a : Ans} : ∀ (ws : List Xw) (X : Xd), Alo R X → (∀ w, w ∈ ws → ∀ j, w.ak = some j → j < X.ak.length) → Alo R (X.bQ C ws a)
 | [], X, h, _ => h
 | w :: ws, X, h, hj => Alo.gives (a := a) ws (X.aI C w a) (Alo.give h (hj w (List.mem_cons_self ..))) fun v hv j h2 => by
  rw [fM]; exact hj v (List.mem_cons_of_mem _ hv) j h2
theorem Alo.back {j : Nat} (h : Alo R X) (hx : aP C P L pd X) (hj : j < X.ak.length) (hkn : (X.K j).kn = true) (hd : (X.K j).dn = false) : Alo R (X.dR C R P j) := by
 have h1 : Alo R (X.bP j) := Alo.bT (k' := { X.K j with dn := true }) h hj rfl rfl; have h2 : Alo R ((X.bP j).bQ C (X.K j).ws (X.K j).go) := h1.gives _ _ fun w hw a ha => ((hx.done hj hkn hd).wk w (List.mem_append_left _ (List.mem_append_left _ hw)) a ha).1
 unfold Xd.dR; split
 ·intro a k ha hal; have e : (((X.bP j).bQ C (X.K j).ws (X.K j).go).dS C R P (X.K j).ca (X.K j).ke (X.K j).go).ak = ((X.bP j).bQ C (X.K j).ws (X.K j).go).ak := by
   unfold Xd.dS; split
   ·rfl
   ·split <;> rfl
  rw [e] at ha; exact h2 a k ha hal
 ·exact h2
theorem Alo.arr {j : Nat} (h : Alo R X) (hj : j < X.ak.length) : Alo R (X.jv C R E P j) := by
 have h1 : Alo R (X.cZ j) := Alo.bT (k' := { X.K j with cm := true }) h hj rfl rfl; have hl : ∀ a, some j = some a → a < (X.cZ j).ak.length := fun a ha => by
  cases ha
  show j < (X.bT j _).ak.length; rw [bG]; exact hj
 unfold Xd.jv; split
 ·exact h1.come hl
 ·exact h1.give (w := ⟨0, some j, 0⟩) hl
theorem vI {l : List Xh} {k : ByteArray} : (eH l k).length ≤ l.length := List.length_filter_le _ _
end
structure RInv (C : List Cch) (R : List Crl) (E : List Rel) (P : List Pur) (L : List Gt) (lim : Int) (m : Mod) (X : Xd) : Prop where
 rch : cu C R E P L lim .out (xd0 C L.length) m X
 inv : aP C P L [] X
 al : Alo R X
 cap : ∃ n, Cap n X ∧ n + muX C P L X ≤ 61200
section
variable {C : List Cch} {R : List Crl} {E : List Rel} {P : List Pur} {L : List Gt} {X X' : Xd} {lim : Int} {m m' : Mod}
theorem xM {α β : Type} (l : List α) (d : β) (i : Nat) : (l.map fun _ => d).getD i d = d := by
 rw [Lt, List.getElem?_map]; cases l[i]? <;> rfl
theorem RInv.zero (hv : Val C R E P L) : RInv C R E P L lim .out (xd0 C L.length) :=
 ⟨.refl _ _, Af hv, (fun j k h => by cases h), 0, ⟨Ls _, Ls _, fun i => by
  have e : (xd0 C L.length).H i = [] := xM C ([] : List Xh) i; rw [e]; exact Ls _, fun i => by
  have e : (xd0 C L.length).Ld i = default := xM C (default : Ldd) i; rw [e]; exact ⟨⟨⟨Int.le_refl _, Int.le_refl _⟩, ⟨Int.le_refl _, Int.le_refl _⟩, ⟨Int.le_refl _, Int.le_refl _⟩⟩, ⟨Int.le_refl _, Int.le_refl _⟩, ⟨Int.le_refl _, Int.le_refl _⟩, ⟨Int.le_refl _, Int.le_refl _⟩⟩⟩, by have := FI hv; omega⟩
theorem RInv.next (h : RInv C R E P L lim m X) (hv : Val C R E P L) (hn : X.next C R E P L lim m = some (m', X')) : RInv C R E P L lim m' X' := by
 have hV : ∀ (i : Nat) (x : Cch), C[i]? = some x → 1 ≤ x.de ∧ x.de ≤ 100000 := fun i x hx => (hv.cd i x hx).1
 have hx := h.inv; have hr : cu C R E P L lim .out (xd0 C L.length) m' X' := .step h.rch hn; have hi := hx.next hv hn; obtain ⟨n, hc, hcn⟩ := h.cap; have fin : Alo R X' → (∃ n, Cap n X' ∧ n + muX C P L X' ≤ 61200) → RInv C R E P L lim m' X' := fun a b => ⟨hr, hi, a, b⟩
 have hal := h.al; cases m with
 | out =>
  unfold Xd.next at hn
  dsimp only at hn
  split at hn
  ·cases hn
  ·split at hn
   ·cases hn
   ·cases hn
    exact fin hal ⟨n, ⟨hc.ak, hc.wt, hc.he, hc.ld⟩, hcn⟩
 | pur =>
  unfold Xd.next at hn
  dsimp only at hn
  split at hn
  ·rename_i hd; cases hn
   have e : muX C P L (X.yG (P.getD X.pg default).ke) + 1 = muX C P L X := by
    show lT X + ((L.drop X.nx).map (wG C)).sum + (P.length - (X.pg + 1)) + 1 = lT X + ((L.drop X.nx).map (wG C)).sum + (P.length - X.pg)
    omega
   refine fin hal ⟨n, ⟨hc.ak, hc.wt, fun i => ?_, hc.ld⟩, by omega⟩; show ((X.he.map fun l => eH l (P.getD X.pg default).ke).getD i []).length ≤ n
   have h1 : ((X.he.getD i []).length) ≤ n := hc.he i; rw [Lt] at h1; rw [Lt, List.getElem?_map]; cases hl : X.he[i]? with
   | none => exact Nat.zero_le _
   | some l =>
    rw [hl] at h1; exact Nat.le_trans vI h1
  ·cases hn
   exact fin hal ⟨n, hc, hcn⟩
 | bak =>
  unfold Xd.next at hn
  dsimp only at hn
  split at hn
  ·rename_i j hb; cases hn
   obtain ⟨⟨g1, g2, g3, g4⟩, _⟩ := fF hb; obtain ⟨l1, l2, l3, l4, l5⟩ := kz (R := R) hx hV g1 g2 g3; have e : muX C P L (X.dR C R P j) + 1 ≤ muX C P L X := by
    unfold muX; rw [l1, l2]; omega
   exact fin (hal.back hx g1 g2 g3) ⟨n + 1, hc.back hx hV g1 g2 g3, by omega⟩
  ·cases hn
   exact fin hal ⟨n, hc, hcn⟩
 | get =>
  unfold Xd.next at hn
  dsimp only at hn
  split at hn
  ·rename_i hd; cases hn
   obtain ⟨hl, hti⟩ := hd; have hxg : L[X.nx]? = some (L.getD X.nx default) := by rw [Lt, Lu hl]; rfl
   obtain ⟨g1, g2, i, g3, g4⟩ := hv.lt _ (List.mem_of_getElem? hxg); have hgi2 : (fC C (L.getD X.nx default).ca).toNat = i := by rw [g3]; rfl
   rw [hgi2]; have hlf := Lf.come (C := C) (R := R) (P := P) (X := { X with nx := X.nx + 1 }) (i := i) (key := (L.getD X.nx default).ke) (ge := X.nx) (ak := none) hV (fun j h => by cases h); have e : muX C P L (({ X with nx := X.nx + 1 } : Xd).aY C R P i (L.getD X.nx default).ke X.nx none) + 1 ≤ muX C P L X := by
    unfold muX; rw [hlf.nx, hlf.pg]; have h1 : lT (({ X with nx := X.nx + 1 } : Xd).aY C R P i (L.getD X.nx default).ke X.nx none) ≤ lT X + (2 * i + 2) := hlf.sk; have h2 : ((L.drop X.nx).map (wG C)).sum = (2 * i + 3) + ((L.drop (X.nx + 1)).map (wG C)).sum := by
     have hcons : L.drop X.nx = L.getD X.nx default :: L.drop (X.nx + 1) := by
      rw [List.drop_eq_getElem_cons hl]
      congr 1
      rw [Lu hl] at hxg; exact Option.some.inj hxg
     rw [hcons, List.map_cons, List.sum_cons]
     congr 1
     unfold wG; rw [hgi2]
    show _ + ((L.drop (X.nx + 1)).map (wG C)).sum + (P.length - X.pg) + 1 ≤ _
    omega
   have hc1 : Cap n { X with nx := X.nx + 1 } := ⟨hc.ak, hc.wt, hc.he, hc.ld⟩
   have ha1 : Alo R { X with nx := X.nx + 1 } := hal; rw [hgi2] at fin; exact fin (ha1.come fun j h => by cases h) ⟨n + 1, hc1.come hV fun j h => (by cases h), by omega⟩
  ·cases hn
   exact fin hal ⟨n, hc, hcn⟩
 | arr =>
  unfold Xd.next at hn
  dsimp only at hn
  split at hn
  ·rename_i j hb; cases hn
   obtain ⟨⟨g1, g2, g3⟩, _⟩ := gG hb; obtain ⟨l1, l2, l3, l4, l5, l6⟩ := rP hx hv g1 g2; have e : muX C P L (X.jv C R E P j) + 1 ≤ muX C P L X := by
    unfold muX; rw [l1, l2]; omega
   exact fin (hal.arr g1) ⟨n + 1, hc.arr hx hv g1, by omega⟩
  ·cases hn
   exact fin hal ⟨n, hc, hcn⟩
theorem Ai {j : Nat} (hj : j < X.ak.length) (hd : (X.K j).dn = false) : (X.K j).ws.length ≤ (aB X).length := by
 have h1 := (eu (X := X) (k' := { X.K j with dn := true }) (Xd.at_ hj)).length_eq; have e1 : iP (X.K j) = (X.K j).ws := if_neg (by simp [hd]); have e2 : iP { X.K j with dn := true } = [] := if_pos rfl; rw [e1, e2, List.length_append, List.nil_append] at h1; omega
theorem FK (hv : Val C R E P L) (k : ByteArray) (t : Int) : pbI P k t P.length = fQ P k t := Bj hv.ps (fun x hx => (hv.pt x hx).1.1) k t (Ls _)
theorem Am (hv : Val C R E P L) (i : Nat) (hi : i < C.length) : 0 ≤ deO C i ∧ deO C i ≤ 1000000 := by
 have := (hv.cd i (C.getD i default) (by rw [Lt, Lu hi]; rfl)).1; unfold deO; omega
end
theorem bC (n lo hi : Int) (w : World) :
 Calls Tryz.prog 44 #[.int .i64 n, .int .i64 lo, .int .i64 hi] w fun e w' => e = .returned (.bool (!aN n lo hi)) ∧ w = w' := by
 by_cases h : lo ≤ n
 ·go_enter Tryz.func44, Tryz.ntmps44
  go_wp2
  go_ret
  exact ⟨az (by rw [Bool.eq_iff_iff]; simp [aN]; omega), rfl⟩
 ·have h' : decide (lo ≤ n) = false := decide_eq_false h
  go_enter Tryz.func44, Tryz.ntmps44
  go_wp2
  go_ret
  exact ⟨az (by rw [Bool.eq_iff_iff]; simp [aN]; omega), rfl⟩
end Go.Proofs.YtgohddfnhofjhaaGreatDoor

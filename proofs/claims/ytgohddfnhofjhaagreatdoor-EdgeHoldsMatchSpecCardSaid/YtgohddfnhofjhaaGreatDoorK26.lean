/- The reference's day: in which order asks go; plain. -/
import Derived.Test.YtgohddfnhofjhaaGreatDoorK23
import Derived.Test.YtgohddfnhofjhaaGreatDoorK22
import Derived.Test.YtgohddfnhofjhaaGreatDoorK14
import Derived.Shelf.Spec.SlicesInsertGrow
import Derived.Shelf.SlGeneric
import Derived.Test.YtgohddfnhofjhaaGreatDoorProg
import Derived.Test.YtgohddfnhofjhaaGreatDoorK06
import Derived.Test.YtgohddfnhofjhaaGreatDoorK21
import Derived.Test.YtgohddfnhofjhaaGreatDoorK25
import Derived.Test.YtgohddfnhofjhaaGreatDoorK05
import Derived.Test.YtgohddfnhofjhaaGreatDoorK16
import Derived.Test.YtgohddfnhofjhaaGreatDoorK01
set_option maxRecDepth 100000
set_option maxHeartbeats 4000000
namespace Go.Proofs.YtgohddfnhofjhaaGreatDoor
open Go.RowKit
theorem uN (w0 w : World) (B : Nat) (A : Rdr) (X : Xd) (h : RD w B A X) (C : List Cch) (R : List Crl) (E : List Rel) (P : List Pur) (L : List Gt) (hE : oK w0 B A C R E P L) (hw : Below w0.heap.size w0 w) (j : Nat) (hj : j < X.ak.length) (hca : (X.K j).ca < C.length) (hno : 0 ≤ X.no ∧ X.no ≤ 1000000000000000) (hde : ∀ i, i < C.length → 0 ≤ deO C i ∧ deO C i ≤ 1000000) :
 Calls Tryz.prog 105 #[.pointer (some ⟨A.q, 0, none⟩), .int .i64 (j : Nat)] w fun e w' => ∃ A', e = .returned (.tuple #[]) ∧ RD w' B A' (X.aI C ⟨0, some j, 0⟩ (oV E (X.K j).ke X.no)) ∧ bW A A' ∧ Ij A A' ∧ A'.hs = A.hs ∧ Below B w w' := by
 have hqb := h.qb.2; have hql := (Array.getElem?_eq_some_iff.1 hqb).1; obtain ⟨v, hjk⟩ := h.at_ hj; obtain ⟨k, hk⟩ : ∃ k, k = X.K j := ⟨_, rfl⟩
 rw [← hk] at hjk; have hne : A.ks ≠ [] := fun e => by rw [e] at hjk; cases hjk
 obtain ⟨g, cap, hgv, hg1, hg2, hg3, hg4, hgc, hgf⟩ := Own.gZ bn h.asks hne; have q7 : w.cell? ⟨A.q, 7, none⟩ = some (.slice (some ⟨g, 0, none⟩) A.ks.length cap) := by rw [af hqb 7 rfl, ← hgv]; rfl
 have q11 : w.cell? ⟨A.q, 11, none⟩ = some (.int .i64 X.no) := af hqb 11 rfl; have k1 : w.cell? ⟨g, j * 14 + 1, none⟩ = some (.string k.ke) := hgc j (k, v) 1 _ hjk rfl; have hjz : (j : Int) < (A.ks.length : Int) := by have := (List.getElem?_eq_some_iff.1 hjk).1; omega
 have hj0 : (0 : Int) ≤ (j : Int) := by omega
 have he := hE.e.below hw (Ls _); have he2 := he; obtain ⟨eo, ec, e2, -, -, -, eel⟩ := he2; have q2 : w.cell? ⟨A.q, 2, none⟩ = some (.slice eo E.length ec) := by rw [af hqb 2 rfl, ← e2]; rfl
 obtain ⟨w2, hw2⟩ : ∃ w2, w2 = w.alloc (.cells #[.int .i64 (-1), .int .i64 X.no, .int .i64 0, .string ⟨#[]⟩] 105) := ⟨_, rfl⟩
 obtain ⟨bw, hbw⟩ : ∃ bw, bw = w.heap.size := ⟨_, rfl⟩
 have hb2 : Below w.heap.size w w2 := by rw [hw2]; exact (LD _ w).alloc (Ls _) _
 have hbb : w2.heap[bw]? = some (.cells #[.int .i64 (-1), .int .i64 X.no, .int .i64 0, .string ⟨#[]⟩] 105 (0, 0)) := by rw [hw2, hbw]; exact ag _ _
 have hbl := (Array.getElem?_eq_some_iff.1 hbb).1; have HSS : Hid (∀ W : World, Below w2.heap.size w2 W → W.cell? ⟨A.q, 2, none⟩ = some (.slice eo E.length ec) ∧ W.cell? ⟨A.q, 7, none⟩ = some (.slice (some ⟨g, 0, none⟩) A.ks.length cap) ∧ W.cell? ⟨g, j * 14 + 1, none⟩ = some (.string k.ke) ∧ W.cell? ⟨A.q, 11, none⟩ = some (.int .i64 X.no)) := Lr fun W hW => by
  have hb := hb2.bf hW; exact ⟨(hb.cell (p := ⟨A.q, 2, none⟩) hql).trans q2, (hb.cell (p := ⟨A.q, 7, none⟩) hql).trans q7, (hb.cell (p := ⟨g, j * 14 + 1, none⟩) hg2).trans k1, (hb.cell (p := ⟨A.q, 11, none⟩) hql).trans q11⟩
 have HVA : Hid (∀ W : World, Below w2.heap.size w2 W → Calls Tryz.prog 33 #[.slice eo E.length ec, .string k.ke, .int .i64 X.no] W fun e w' => e = .returned (.int .i64 (numO (veO E k.ke X.no))) ∧ Below W.heap.size W w') := Lr fun W hW => by
  have h1 := oQ W E A.d2 k.ke X.no (he.below (hb2.bf hW) (Ls _)); rw [e2] at h1; exact h1
 have HW2 := Lr hw2; have HBW := Lr hbw; have HB2 := Lr hb2; have HX := Lr h; have HBQ : Hid (Below w2.heap.size w2 w2.drew) := Lr (LD _ w2).drew; obtain ⟨F, hF⟩ : ∃ F, F = veO E k.ke X.no := ⟨_, rfl⟩
 rw [← hF] at HVA; have HF := Lr hF; have HK := Lr hk; have HJK := Lr hjk; have HBB := Lr hbb; have HEE := Lr he; have HQ2 := Lr q2; have HE2 := Lr e2; clear hF hk hjk h hqb hgv hgc hgf hne he e2 hb2 hbb
 go_enter Tryz.func105, Tryz.ntmps105
 go_upto_region 1 with (fail)
 rw [← HW2.out, ← HBW.out]; clear hw2 hbw q2 q7 q11 k1
 go_region_held3 (fun W => W.cell? ⟨A.q, 2, none⟩ = some (.slice eo E.length ec) ∧ W.cell? ⟨A.q, 7, none⟩ = some (.slice (some ⟨g, 0, none⟩) A.ks.length cap) ∧ W.cell? ⟨g, j * 14 + 1, none⟩ = some (.string k.ke) ∧ W.cell? ⟨A.q, 11, none⟩ = some (.int .i64 X.no))
  (first | exact HSS.out _ HBQ.out | exact HSS.out _ HB3.out | fail)
  (first | (go_at_call 33; (with_reducible refine (HVA.out _ HBQ.out).mono ?_); rintro e w3 ⟨rfl, hb3⟩; have HB3 := Lr (HBQ.out.bf hb3); clear hb3) | fail)
 have hp3 := HX.out.below (HB2.out.bf HB3.out); have hw3 : Below w0.heap.size w0 w3 := hw.bf (HB2.out.bf HB3.out); have hb3' : Below B w w3 := (HB2.out.bf HB3.out).mono HX.out.base; have hbk := (HB3.out.block _ hbl).trans HBB.out; have n0 : w3.cell? ⟨bw, 0, none⟩ = some (.int .i64 (-1)) := af hbk 0 rfl; have n1 : w3.cell? ⟨bw, 1, none⟩ = some (.int .i64 X.no) := af hbk 1 rfl; have n2 : w3.cell? ⟨bw, 2, none⟩ = some (.int .i64 0) := af hbk 2 rfl; have n3 : w3.cell? ⟨bw, 3, none⟩ = some (.string ⟨#[]⟩) := af hbk 3 rfl; cases hFe : F with
 | none =>
  have ho : oV E (X.K j).ke X.no = ⟨-1, X.no, 0, true, ⟨#[]⟩⟩ := by
   unfold oV; rw [← HK.out, ← HF.out, hFe, if_neg (by simp)]
  have HO := Lr ho; have HGI := Lr (kY w0 w3 B A X hp3 C R E P L hE hw3 j 0 0 0 ⟨-1, X.no, 0, true, ⟨#[]⟩⟩ hj hca hno (hde _ hca)); rw [show numO none = -1 from rfl]; have HB3' := Lr hb3'; clear hp3 hw3 hb3' hbk hFe ho
  go_wp2_with (go_at_call 102; (with_reducible refine HGI.out.mono ?_); rintro e w9 ⟨A9, rfl, h9, k9, s9, t9, b9⟩)
  go_end0
  refine ⟨A9, rfl, ?_, k9, s9, t9, HB3'.out.trans b9⟩; rw [HO.out]; exact h9
 | some n =>
  obtain ⟨r, hr, hro, -⟩ := Aj (HF.out.symm.trans hFe); have ho : oV E (X.K j).ke X.no = ⟨r.ti, X.no, r.si, false, ⟨#[]⟩⟩ := by
   unfold oV; rw [← HK.out, hro, ← HF.out, hFe, if_pos (by simp)]
  have HO := Lr ho; obtain ⟨eo2, ec2, e3, -, -, -, eel⟩ := HEE.out; rw [HE2.out] at e3; obtain ⟨rfl, -, rfl⟩ : eo = eo2 ∧ E.length = E.length ∧ ec = ec2 := by simpa using e3
  obtain ⟨eb, eoff, rfl, hc⟩ := eel n r hr; have d1 : w.cell? ⟨eb, eoff + n * 4 + 1, none⟩ = some (.int .i64 r.ti) := hc 1 _ rfl; have d2 : w.cell? ⟨eb, eoff + n * 4 + 2, none⟩ = some (.int .i64 r.si) := hc 2 _ rfl; have hel := LC w _ d1; have hnz : (n : Int) < (E.length : Int) := by have := (List.getElem?_eq_some_iff.1 hr).1; omega
  have hn0 : (0 : Int) ≤ (n : Int) := by omega
  rw [show numO (some n) = (n : Int) from rfl]; clear hFe ho hr hro e3 eel hc; have q2' : w.cell? ⟨A.q, 2, none⟩ = some (.slice (some ⟨eb, eoff, none⟩) E.length ec) := HQ2.out; have HSE : Hid (∀ W : World, Below w.heap.size w W → W.cell? ⟨A.q, 2, none⟩ = some (.slice (some ⟨eb, eoff, none⟩) E.length ec) ∧ W.cell? ⟨eb, eoff + n * 4 + 1, none⟩ = some (.int .i64 r.ti) ∧ W.cell? ⟨eb, eoff + n * 4 + 2, none⟩ = some (.int .i64 r.si)) := Lr fun W hb => ⟨(hb.cell (p := ⟨A.q, 2, none⟩) hql).trans q2', (hb.cell (p := ⟨eb, eoff + n * 4 + 1, none⟩) hel).trans d1, (hb.cell (p := ⟨eb, eoff + n * 4 + 2, none⟩) hel).trans d2⟩
  have HBD : Hid (Below w.heap.size w w3) := Lr (HB2.out.bf HB3.out); have HGE : Hid (w.heap.size ≤ bw) := Lr (by rw [HBW.out]; exact Ls _); have nf0 := cO hbk 0; have nf2 := cO hbk 2; have hp4 := HX.out.below (((HBD.out.setCell (p := ⟨bw, 0, none⟩) HGE.out (.int .i64 r.ti)).setCell (p := ⟨bw, 2, none⟩) HGE.out (.int .i64 r.si)).drew); have hw4 := hw.bf (((HBD.out.setCell (p := ⟨bw, 0, none⟩) HGE.out (.int .i64 r.ti)).setCell (p := ⟨bw, 2, none⟩) HGE.out (.int .i64 r.si)).drew); clear q2' d1 d2; obtain ⟨w4, hw4e⟩ : ∃ w4, w4 = ((w3.setCell ⟨bw, 0, none⟩ (.int .i64 r.ti)).setCell ⟨bw, 2, none⟩ (.int .i64 r.si)).drew := ⟨_, rfl⟩
  rw [← hw4e] at hp4 hw4; have HB4 : Hid (Below w.heap.size w w4) := Lr (by rw [hw4e]; exact ((HBD.out.setCell (p := ⟨bw, 0, none⟩) HGE.out (.int .i64 r.ti)).setCell (p := ⟨bw, 2, none⟩) HGE.out (.int .i64 r.si)).drew); have HW4 := Lr hw4e; have HGI := Lr (kY w0 w4 B A X hp4 C R E P L hE hw4 j 0 0 0 ⟨r.ti, X.no, r.si, false, ⟨#[]⟩⟩ hj hca hno (hde _ hca)); have hb4 : w4.heap[bw]? = some (.cells #[.int .i64 r.ti, .int .i64 X.no, .int .i64 r.si, .string ⟨#[]⟩] 105 (0, 0)) := by
   have h1 : w3.heap[bw]? = some (.cells #[.int .i64 (-1), .int .i64 X.no, .int .i64 0, .string ⟨#[]⟩] 105 (0, 0)) := hbk; rw [hw4e]; exact heap_setCell_same _ bw 2 _ _ (.int .i64 r.si) (heap_setCell_same _ bw 0 _ _ (.int .i64 r.ti) h1)
  have m0 : w4.cell? ⟨bw, 0, none⟩ = some (.int .i64 r.ti) := af hb4 0 rfl; have m1 : w4.cell? ⟨bw, 1, none⟩ = some (.int .i64 X.no) := af hb4 1 rfl; have m2 : w4.cell? ⟨bw, 2, none⟩ = some (.int .i64 r.si) := af hb4 2 rfl; have m3 : w4.cell? ⟨bw, 3, none⟩ = some (.string ⟨#[]⟩) := af hb4 3 rfl; have hbq : ¬ A.q = bw := fun e => by have := HBW.out; omega
  have heb : ¬ eb = bw := fun e => by have := HBW.out; have : eb < w.heap.size := hel; omega
  obtain ⟨z2, z3, z4⟩ := HSE.out _ (HB2.out.bf HB3.out); clear hw4e hp4 hw4 hb4 hp3 hw3 hb3' hbk hbl
  go_upto_region 3 with (fail)
  go_big_region
  rw [← HW4.out]; clear n0 n1 n2 n3 nf0 nf2 z2 z3 z4
  go_wp2_with (go_at_call 102; (with_reducible refine HGI.out.mono ?_); rintro e w9 ⟨A9, rfl, h9, k9, s9, t9, b9⟩)
  go_end0
  refine ⟨A9, rfl, ?_, k9, s9, t9, (HB4.out.mono HX.out.base).trans b9⟩; rw [HO.out]; exact h9
end Go.Proofs.YtgohddfnhofjhaaGreatDoor
namespace Go.Proofs
open Go.Shelf
def Tryz.lays21_ren : Go.Shelf.Ren := ⟨fun | 21 => 144 | 27 => 173 | 28 => 174 | 35 => 180 | 39 => 181 | n => n, fun | 22 => 168 | 3 => 3 | 4 => 4 | 0 => 0 | n => n, fun | n => n⟩
theorem Tryz.lays21 : Go.Proofs.Lays2.n21 Tryz.prog Tryz.lays21_ren := {
 mixed := by kernel_rfl
 f21 := Tryz.func144.trans (congrArg some (by kernel_rfl))
 f27 := Tryz.func173.trans (congrArg some (by kernel_rfl))
 f28 := Tryz.func174.trans (congrArg some (by kernel_rfl))
 f35 := Tryz.func180.trans (congrArg some (by kernel_rfl))
 f39 := Tryz.func181.trans (congrArg some (by kernel_rfl))
 t0 := Tryz.underlying0
 a0 := Tryz.isAgg0
 z0 := Tryz.sizeOf0
 v0 := Tryz.zeroValue0
 t3 := Tryz.underlying3
 a3 := Tryz.isAgg3
 z3 := Tryz.sizeOf3
 v3 := Tryz.zeroValue3
 t4 := Tryz.underlying4
 a4 := Tryz.isAgg4
 z4 := Tryz.sizeOf4
 v4 := Tryz.zeroValue4
 t22 := Tryz.underlying168
 a22 := Tryz.isAgg168
 z22 := Tryz.sizeOf168
 v22 := Tryz.zeroValue168
 i3 := by kernel_rfl }
end Go.Proofs
namespace Go.Proofs.YtgohddfnhofjhaaGreatDoor
open Go.RowKit
def mD (j : Nat) : List Value := [.int .i64 (j : Nat)]
theorem dI (j : Nat) : (mD j).length = 1 := rfl
def gX (l : List Nat) : List Value := l.map fun x => Value.int .i64 (x : Nat)
theorem xO (l : List Nat) : l.flatMap mD = gX l := by
 induction l with
 | nil => rfl
 | cons a r ih => rw [List.flatMap_cons, ih]; rfl
theorem Own.nD {w : World} {base : Nat} {m : List Nat} {g cap : Nat} {cur : Array Value} (hg : base ≤ g) (hh : w.heap[g]? = some (.cells cur 3 (0, 0))) (hs : cur.size = cap) (hn : m.length ≤ cap) (hm : cap ≤ maxLen) (ht : cur.toList.take m.length = gX m) :
 Own w base 3 1 mD (.slice (some ⟨g, 0, none⟩) m.length cap) m := ⟨ay dI m, .inr ⟨g, cap, cur, rfl, hg, hh, hn, hm, by rw [hs, Nat.mul_one], by rw [Nat.mul_one, xO]; exact ht⟩⟩
def Ku (base : Nat) (w : World) (m : List Nat) : Ending → World → Prop := fun e w' => ∃ v', e = .returned v' ∧ Own w' base 3 1 mD v' m ∧ Below base w w'
theorem EI (l : List Nat) (x : Nat) (i : Nat) (hi : i ≤ l.length) : (l.take i ++ x :: l.drop i).length = l.length + 1 := by simp; omega
theorem lZ (l : List Nat) (x : Nat) (i : Nat) : gX (l.take i ++ x :: l.drop i) = (gX l).take i ++ [Value.int .i64 (x : Nat)] ++ (gX l).drop i := by
 unfold gX; simp [List.map_take, List.map_drop]
theorem iO (n : Nat) : (Builtin.zeroCells (Value.int .i64 0).cells n).size = n := by simp [Builtin.zeroCells, Value.cells]
theorem EM (w : World) (base vb i : Nat) (l : List Nat) (x : Nat) (v : Value) (hown : Own w base 3 1 mD v l) (hbase : base ≤ w.heap.size) (hlen : l.length ≤ 1000000) (hi : i ≤ l.length) (hvb : w.heap[vb]? = some (.cells #[.int .i64 (x : Nat)] 3 (0, 0))) (hoff : df vb v) :
 Calls Tryz.prog 144 #[v, .int .i64 i, .slice (some ⟨vb, 0, none⟩) 1 1] w (Ku base w (l.take i ++ x :: l.drop i)) := by
 have hvs : ∀ j u, ([Value.int .i64 (x : Nat)] : List Value)[j]? = some u → w.cell? ⟨vb, 0 + j, none⟩ = some u := fun j u hu => by
  rw [Nat.zero_add, cell_of_block hvb]
  simpa using hu
 have h1v : ∀ u ∈ ([Value.int .i64 (x : Nat)] : List Value), u.oneCell' = true := fun u hu => by simp at hu; subst hu; rfl
 have hml := EI l x i hi; have hsl : (gX l).length = l.length := by simp [gX]
 have h1c : ∀ u ∈ gX l, u.oneCell' = true := fun u hu => by
  unfold gX at hu; rw [List.mem_map] at hu; obtain ⟨y, _, rfl⟩ := hu
  rfl
 have hlt := World.ownsRow.lt hown; obtain ⟨q1, q2⟩ := hown; have hgc : ∀ c, l.length + 1 ≤ grownCap w (l.length + 1) c 3 := fun c => grownCap_ge w _ _ _
 have hgm : ∀ c, grownCap w (l.length + 1) c 3 ≤ maxLen := fun c => grownCap_le_maxLen w (l.length + 1) c 3 (by unfold maxLen; omega)
 rcases q2 with ⟨rfl, q2⟩ | ⟨g, cap, cur, rfl, hg, hh, hn, hm, hs, ht⟩
 ·obtain rfl : l = [] := List.length_eq_zero_iff.1 q2; obtain rfl : i = 0 := by simpa using hi
  have h := Any2.slices_Insert_int_end_grow Tryz.lays21 none 0 0 vb 0 1 1 [] [Value.int .i64 (x : Nat)] w (by omega) (Ls _) (by omega) (by omega) rfl rfl (fun _ => rfl) (fun a ha => by cases ha) hvs h1v; refine h.mono ?_; rintro e w' ⟨rfl, rfl⟩; refine ⟨_, rfl, ?_, (LD base w).drew.alloc hbase _⟩; have h0 : 0 + 1 ≤ grownCap w (0 + 1) 0 3 := grownCap_ge w _ _ _; have h1 : grownCap w (0 + 1) 0 3 ≤ maxLen := grownCap_le_maxLen w (0 + 1) 0 3 (by unfold maxLen; omega); exact Own.nD (m := [x]) hbase (ag w.drew _) (by
   rw [Array.size_append, iO]; show 1 + (grownCap w (0 + 1) 0 3 - (0 + 1)) = grownCap w (0 + 1) 0 3
   omega) h0 h1 (by simp [gX])
 ·rw [Nat.mul_one] at hs; rw [Nat.mul_one, xO] at ht; have hgl := (hlt g rfl).2; have hcl : ∀ j u, (gX l)[j]? = some u → w.cell? ⟨g, 0 + j, none⟩ = some u := fun j u hu => by
   rw [Nat.zero_add, cell_of_block hh]; rw [← ht, List.getElem?_take] at hu; split at hu
   ·simpa using hu
   ·cases hu
  have hvg : vb ≠ g := fun e => hoff _ _ _ rfl e.symm
  unfold maxLen at hm; by_cases hroom : l.length + 1 ≤ cap
  ·have hsp : ∀ j, j < cap → (w.cell? ⟨g, j, none⟩).isSome = true := fun j hj => by
    rw [cell_of_block hh, Array.getElem?_eq_getElem (by rw [hs]; exact hj)]; rfl
   have hfz : ∀ j, w.frozen? ⟨g, j, none⟩ = false := fun j => by simp [World.frozen?, hh]
   have hcs : cur.toList.length = cap := by simpa using hs
   by_cases he : i = l.length
   ·subst he; have h := Any2.slices_Insert_int_end_room Tryz.lays21 g 0 l.length cap vb 0 1 1 [Value.int .i64 (x : Nat)] w (by omega) hroom hm rfl (fun j hj => hsp _ (by omega)) (fun j hj => hfz _) hvs h1v; refine h.mono ?_; rintro e w' ⟨rfl, rfl⟩; obtain ⟨cur1, hc1, hl1⟩ := aH (g := g) [Value.int .i64 (x : Nat)] (0 + l.length) w cur hh (by simp [hs]; omega); refine ⟨_, rfl, ?_, aF hg _ _ _ (LD base w)⟩; rw [← hml]; refine Own.nD hg hc1 (by
     have : cur1.toList.length = cap := by
      rw [hl1]; simp only [List.length_append, List.length_take, List.length_drop, hcs, List.length_cons, List.length_nil]
      omega
     simpa using this) (by rw [hml]; exact hroom) (by unfold maxLen; omega) ?_
    rw [hml, lZ, hl1, Nat.zero_add, ht, List.take_of_length_le (show (gX l).length ≤ l.length by omega), List.drop_of_length_le (show (gX l).length ≤ l.length by omega), List.append_nil]; exact List.take_left' (by simp [hsl])
   ·have h := Any2.slices_Insert_int_shift Tryz.lays21 g 0 l.length cap i vb 0 1 1 (gX l) [Value.int .i64 (x : Nat)] w (by omega) (by omega) hroom hm hvg hsl rfl hcl (fun j hj => by rw [Nat.zero_add]; exact hsp _ (by omega)) (fun j hj => hfz _) hvs h1c h1v 3 3 1 cap (by simp [World.shape?, hvb]) (by simp [World.shape?, hh, hs]) (by omega) (by simp [World.frozen?, hvb]) (by simp [World.frozen?, hvb]); refine h.mono ?_; rintro e w' ⟨rfl, rfl⟩; have hdl : ((gX l).drop i).length = l.length - i := by rw [List.length_drop, hsl]
    obtain ⟨cur1, hc1, hl1⟩ := aH (g := g) ((gX l).drop i) (0 + (i + 1)) w.drew cur hh (by rw [hdl, hs]; omega); have hs1 : cur1.toList.length = cap := by
     rw [hl1]; simp only [List.length_append, List.length_take, List.length_drop, hcs, hsl]
     omega
    obtain ⟨cur2, hc2, hl2⟩ := aH (g := g) [Value.int .i64 (x : Nat)] (0 + i) (w.drew.setCells g (0 + (i + 1)) ((gX l).drop i)) cur1 hc1 (by
     have h3 : cur1.size = cap := by simpa using hs1
     simp only [List.length_cons, List.length_nil]
     omega)
    have hs2 : cur2.toList.length = cap := by
     rw [hl2]; simp only [List.length_append, List.length_take, List.length_drop, hs1, List.length_cons, List.length_nil]
     omega
    refine ⟨_, rfl, ?_, aF hg _ _ _ (aF hg _ _ _ (LD base w).drew)⟩; rw [← hml]; refine Own.nD hg hc2 (by simpa using hs2) (by rw [hml]; exact hroom) (by unfold maxLen; omega) ?_; have a1 : cur1.toList.take i = (gX l).take i := by
     rw [hl1, Nat.zero_add, List.append_assoc, List.take_append_of_le_length (by rw [List.length_take, hcs]; omega), List.take_take, Nat.min_eq_left (by omega), ← ht, List.take_take, Nat.min_eq_left (by omega)]
    have a2 : cur1.toList.drop (i + 1) = (gX l).drop i ++ cur.toList.drop (i + 1 + (l.length - i)) := by
     rw [hl1, Nat.zero_add, hdl, List.append_assoc, List.drop_append_of_le_length (by rw [List.length_take, hcs]; omega), List.drop_of_length_le (by rw [List.length_take]; omega), List.nil_append]
    rw [hml, lZ, hl2, Nat.zero_add]; simp only [List.length_cons, List.length_nil, Nat.zero_add]
    rw [a1, a2, ← List.append_assoc]; exact List.take_left' (by simp [hsl]; omega)
  ·have hcap : cap = l.length := by omega
   by_cases he : i = l.length
   ·have h := Any2.slices_Insert_int_end_grow Tryz.lays21 (some ⟨g, 0, none⟩) l.length cap vb 0 1 1 (gX l) [Value.int .i64 (x : Nat)] w (by omega) hn (by omega) (by omega) hsl rfl (fun h => by cases h) (fun a ha j u hu => by
     simp only [Option.some.injEq] at ha
     subst ha; rw [Addr.add_lit]; exact hcl j u hu) hvs h1v
    subst he; refine h.mono ?_; rintro e w' ⟨rfl, rfl⟩; refine ⟨_, rfl, ?_, (LD base w).drew.alloc hbase _⟩; have hX : Own (w.drew.alloc (.cells ((gX l ++ [Value.int .i64 (x : Nat)]).toArray ++ Builtin.zeroCells (Value.int .i64 0).cells (grownCap w (l.length + 1) cap 3 - (l.length + 1))) 3)) base 3 1 mD (.slice (some ⟨w.drew.heap.size, 0, none⟩) (l.take l.length ++ x :: l.drop l.length).length (grownCap w (l.length + 1) cap 3)) (l.take l.length ++ x :: l.drop l.length) := by
     refine Own.nD hbase (ag w.drew _) ?_ (by rw [hml]; exact hgc cap) (hgm cap) ?_
     ·have := hgc cap; rw [Array.size_append, iO, List.size_toArray, List.length_append, hsl]; simp only [List.length_cons, List.length_nil]
      omega
     ·rw [hml, lZ, List.take_of_length_le (show (gX l).length ≤ l.length by omega), List.drop_of_length_le (show (gX l).length ≤ l.length by omega), List.append_nil, Array.toList_append]; exact List.take_left' (by simp [hsl])
    rw [hml] at hX; exact hX
   ·have h := Any2.slices_Insert_int_grow Tryz.lays21 g 0 l.length cap i vb 0 1 1 (gX l) [Value.int .i64 (x : Nat)] w (by omega) (by omega) hn (by omega) (by omega) hsl rfl hcl hvs h1c h1v; refine h.mono ?_; rintro e w' ⟨rfl, rfl⟩; obtain ⟨GC, hGC⟩ : ∃ GC, GC = grownCap w (l.length + 1) cap 3 := ⟨_, rfl⟩
    have hg1 := hgc cap; have hg2 := hgm cap; rw [← hGC] at hg1 hg2; obtain ⟨ROW, hROW⟩ : ∃ ROW : Array Value, ROW = ((gX l).take i).toArray ++ Builtin.zeroCells (Value.int .i64 0).cells (l.length + 1 - i) ++ Builtin.zeroCells (Value.int .i64 0).cells (GC - (l.length + 1)) := ⟨_, rfl⟩
    have hRs : ROW.size = GC := by
     rw [hROW, Array.size_append, Array.size_append, iO, iO, List.size_toArray, List.length_take, hsl]; omega
    have hb0 : (w.alloc (.cells ROW 3)).drew.heap[w.heap.size]? = some (.cells ROW 3 (0, 0)) := ag w _; have hdl : ((gX l).drop i).length = l.length - i := by rw [List.length_drop, hsl]
    have hRl : ROW.toList.length = GC := by simpa using hRs
    obtain ⟨cur1, hc1, hl1⟩ := aH (g := w.heap.size) [Value.int .i64 (x : Nat)] i (w.alloc (.cells ROW 3)).drew ROW hb0 (by rw [hRs]; simp only [List.length_cons, List.length_nil]; omega); have hs1 : cur1.toList.length = GC := by
     rw [hl1]; simp only [List.length_append, List.length_take, List.length_drop, hRl, List.length_cons, List.length_nil]
     omega
    obtain ⟨cur2, hc2, hl2⟩ := aH (g := w.heap.size) ((gX l).drop i) (i + 1) (((w.alloc (.cells ROW 3)).drew.setCells w.heap.size i [Value.int .i64 (x : Nat)]).drew) cur1 hc1 (by
     have : cur1.size = GC := by simpa using hs1
     rw [hdl]; omega)
    have hs2 : cur2.toList.length = GC := by
     rw [hl2]; simp only [List.length_append, List.length_take, List.length_drop, hs1, hsl]
     omega
    have hbl : Below base w ((((w.alloc (.cells ROW 3)).drew.setCells w.heap.size i [Value.int .i64 (x : Nat)]).drew).setCells w.heap.size (i + 1) ((gX l).drop i)) := aF hbase _ _ _ (aF hbase _ _ _ ((LD base w).alloc hbase _).drew).drew; have hE : (.slice (some ⟨w.heap.size, 0, none⟩) (l.length + 1) (grownCap w (l.length + 1) cap 3) : Value) = .slice (some ⟨w.heap.size, 0, none⟩) (l.take i ++ x :: l.drop i).length GC := by rw [hml, hGC]
    have hW : ((((w.alloc (.cells (((gX l).take i).toArray ++ Builtin.zeroCells (Value.int .i64 0).cells (l.length + 1 - i) ++ Builtin.zeroCells (Value.int .i64 0).cells (grownCap w (l.length + 1) cap 3 - (l.length + 1))) 3)).drew.setCells w.heap.size i [Value.int .i64 (x : Nat)]).drew).setCells w.heap.size (i + 1) ((gX l).drop i)) = ((((w.alloc (.cells ROW 3)).drew.setCells w.heap.size i [Value.int .i64 (x : Nat)]).drew).setCells w.heap.size (i + 1) ((gX l).drop i)) := by rw [hROW, hGC]
    refine ⟨_, rfl, ?_, ?_⟩
    ·show Own ((((w.alloc (.cells (((gX l).take i).toArray ++ Builtin.zeroCells (Value.int .i64 0).cells (l.length + 1 - i) ++ Builtin.zeroCells (Value.int .i64 0).cells (grownCap w (l.length + 1) cap 3 - (l.length + 1))) 3)).drew.setCells w.heap.size i [Value.int .i64 (x : Nat)]).drew).setCells w.heap.size (i + 1) ((gX l).drop i)) base 3 1 mD (.slice (some ⟨w.heap.size, 0, none⟩) (l.length + 1) (grownCap w (l.length + 1) cap 3)) _
     rw [hW, hE]; refine Own.nD hbase hc2 (by simpa using hs2) (by rw [hml]; exact hg1) hg2 ?_; have a1 : cur1.toList.take (i + 1) = (gX l).take i ++ [Value.int .i64 (x : Nat)] := by
      have hRt : ROW.toList.take i = (gX l).take i := by
       rw [hROW, Array.toList_append, Array.toList_append, List.append_assoc, List.take_append_of_le_length (by simp [hsl]; omega), List.take_of_length_le (by
        have h7 : ((gX l).take i).length ≤ i := by rw [List.length_take]; omega
        simpa using h7)]
      rw [hl1, hRt]; exact List.take_left' (by simp [hsl]; omega)
     rw [hml, lZ, hl2, a1]; exact List.take_left' (by simp [hsl]; omega)
    ·show Below base w ((((w.alloc (.cells (((gX l).take i).toArray ++ Builtin.zeroCells (Value.int .i64 0).cells (l.length + 1 - i) ++ Builtin.zeroCells (Value.int .i64 0).cells (grownCap w (l.length + 1) cap 3 - (l.length + 1))) 3)).drew.setCells w.heap.size i [Value.int .i64 (x : Nat)]).drew).setCells w.heap.size (i + 1) ((gX l).drop i))
     rw [hW]; exact hbl
def zH (X : Xd) (a b : Nat) : Bool := decide ((X.K a).ca < (X.K b).ca) || (decide ((X.K a).ca = (X.K b).ca) && Op.bytesLess (X.K a).ke.toList (X.K b).ke.toList)
theorem DR {X : Xd} {a b : Nat} (h : b < a) : zH X a b = gu X a b := by
 unfold zH gu; by_cases h1 : (X.K a).ca = (X.K b).ca
 ·rw [if_neg (by simp [h1]), decide_eq_false (by omega), decide_eq_true h1, Bool.false_or, Bool.true_and]; by_cases h2 : (X.K a).ke.toList = (X.K b).ke.toList
  ·rw [if_neg (by simp [h2]), decide_eq_false (by omega), h2, bytesLess_eq]; simp
  ·rw [if_pos (by simp [h2])]
 ·rw [if_pos h1, decide_eq_false h1, Bool.false_and, Bool.or_false]
theorem zG {X : Xd} {a b c : Nat} (h : gu X a b = true) (g : gu X b c = true) : gu X a c = true := by
 obtain ⟨o1, o2, o3, o4⟩ := gp X; cases e : gu X a c
 ·have h1 := o3 b c a (o2 b c g) e; rw [h] at h1; cases h1
 ·rfl
theorem Ig {X : Xd} {a b : Nat} (h : gu X a b = false) (hne : a ≠ b) : gu X b a = true := by
 obtain ⟨o1, o2, o3, o4⟩ := gp X; cases e : gu X b a
 ·exact absurd (o4 a b h e) hne
 ·rfl
def tC (X : Xd) (i : Nat) (out : List Nat) : Nat → Nat
 | 0 => 0
 | n + 1 => if zH X i (out.getD n default) = true then tC X i out n else n + 1
theorem uK {X : Xd} {i : Nat} {out : List Nat} : ∀ {n : Nat}, tC X i out n ≤ n
 | 0 => Ls _
 | n + 1 => by
  unfold tC; split
  ·exact Nat.le_succ_of_le uK
  ·exact Ls _
theorem tu {X : Xd} {i : Nat} {out : List Nat} : ∀ {n : Nat}, (∀ m, tC X i out n ≤ m → m < n → zH X i (out.getD m default) = true) ∧ (tC X i out n = 0 ∨ zH X i (out.getD (tC X i out n - 1) default) = false)
 | 0 => ⟨fun m _ h => absurd h (Nat.not_lt_zero _), .inl rfl⟩
 | n + 1 => by
  unfold tC; split
  ·rename_i hh; obtain ⟨h1, h2⟩ := tu (X := X) (i := i) (out := out) (n := n); refine ⟨fun m hm hn => ?_, h2⟩; by_cases e : m = n
   ·rw [e]; exact hh
   ·exact h1 m hm (by omega)
  ·rename_i hh; exact ⟨fun m hm hn => absurd hm (by omega), .inr (by simpa using hh)⟩
def DY (X : Xd) (out : List Nat) (i : Nat) : List Nat := out.take (tC X i out out.length) ++ i :: out.drop (tC X i out out.length)
def rZ (X : Xd) (l : List Nat) : List Nat := l.foldl (fun out i => DY X out i) []
theorem wI {X : Xd} {out : List Nat} {i : Nat} : (DY X out i).length = out.length + 1 := by
 have := uK (X := X) (i := i) (out := out) (n := out.length); unfold DY; rw [List.length_append, List.length_cons, List.length_take, List.length_drop]; omega
theorem wH {X : Xd} {out : List Nat} {i a : Nat} : a ∈ DY X out i ↔ a ∈ out ∨ a = i := by
 unfold DY; rw [List.mem_append, List.mem_cons]; constructor
 ·rintro (h | h | h)
  ·exact .inl (List.mem_of_mem_take h)
  ·exact .inr h
  ·exact .inl (List.mem_of_mem_drop h)
 ·rintro (h | h)
  ·rw [← List.take_append_drop (tC X i out out.length) out, List.mem_append] at h; rcases h with h | h
   ·exact .inl h
   ·exact .inr (.inr h)
  ·exact .inr (.inl h)
theorem En {X : Xd} {out : List Nat} {i : Nat} (h : out.Pairwise fun a b => gu X a b = true) (hi : ∀ a, a ∈ out → a < i) : (DY X out i).Pairwise fun a b => gu X a b = true := by
 obtain ⟨p1, p2⟩ := tu (X := X) (i := i) (out := out) (n := out.length); have hle := uK (X := X) (i := i) (out := out) (n := out.length); unfold DY; generalize tC X i out out.length = p at p1 p2 hle; have hd : ∀ b, b ∈ out.drop p → gu X i b = true := fun b hb => by
  obtain ⟨m, hm, e⟩ := List.mem_iff_getElem.1 hb; rw [List.length_drop] at hm; rw [List.getElem_drop] at e; have h1 := p1 (p + m) (by omega) (by omega); rw [Lt, Lu (by omega)] at h1; have h2 : zH X i out[p + m] = true := h1; rw [e, DR (hi b (List.mem_of_mem_drop hb))] at h2; exact h2
 have ht : ∀ a, a ∈ out.take p → gu X a i = true := fun a ha => by
  obtain ⟨m, hm, e⟩ := List.mem_iff_getElem.1 ha; rw [List.length_take] at hm; rw [List.getElem_take] at e; have hp : p ≠ 0 := by omega
  have hq : p - 1 < out.length := by omega
  rcases p2 with p2 | p2
  ·exact absurd p2 hp
  ·rw [Lt, Lu hq] at p2; have p2 : zH X i out[p - 1] = false := p2; have hl := hi out[p - 1] (List.getElem_mem hq); rw [DR hl] at p2; have h3 := Ig p2 (by omega); by_cases em : m = p - 1
   ·subst em; rw [← e]; exact h3
   ·have h4 := List.pairwise_iff_getElem.1 h m (p - 1) (by omega) hq (by omega); rw [← e]; exact zG h4 h3
 rw [List.pairwise_append]; have hsp := h; rw [← List.take_append_drop p out, List.pairwise_append] at hsp; obtain ⟨s1, s2, s3⟩ := hsp; refine ⟨s1, List.pairwise_cons.2 ⟨hd, s2⟩, fun a ha b hb => ?_⟩; rcases List.mem_cons.1 hb with rfl | hb
 ·exact ht a ha
 ·exact s3 a ha b hb
theorem tN {X : Xd} {l : List Nat} {k i : Nat} (h : l[k]? = some i) : rZ X (l.take (k + 1)) = DY X (rZ X (l.take k)) i := by
 unfold rZ; rw [List.take_add_one, h, List.foldl_append]
 rfl
theorem jP {X : Xd} {l : List Nat} (hl : l.Pairwise (· < ·)) : ∀ {k : Nat}, k ≤ l.length → (rZ X (l.take k)).Pairwise (fun a b => gu X a b = true) ∧ (∀ a, a ∈ rZ X (l.take k) ↔ a ∈ l.take k) ∧ (rZ X (l.take k)).length = k
 | 0, _ => by
  rw [List.take_zero]; exact ⟨List.Pairwise.nil, fun a => Iff.rfl, rfl⟩
 | k + 1, hk => by
  obtain ⟨h1, h2, h3⟩ := jP (X := X) hl (k := k) (by omega); have hx := Lu (show k < l.length by omega); rw [tN hx]; refine ⟨En h1 fun a ha => ?_, fun a => ?_, by rw [wI, h3]⟩
  ·rw [h2] at ha; obtain ⟨m, hm, e⟩ := List.mem_iff_getElem.1 ha; rw [List.length_take] at hm; rw [List.getElem_take] at e; have := List.pairwise_iff_getElem.1 hl m k (by omega) (by omega) (by omega); rw [← e]; exact this
  ·rw [wH, h2, List.take_add_one, hx, List.mem_append]; simp
structure Srt (X : Xd) (p : Nat → Bool) (S : List Nat) : Prop where
 o : S.Pairwise fun a b => gu X a b = true
 m : ∀ a, a ∈ S ↔ a < X.ak.length ∧ p a = true
structure yz (X : Xd) (p : Nat → Bool) (l : List Nat) : Prop where
 o : l.Pairwise (· < ·)
 m : ∀ a, a ∈ l ↔ a < X.ak.length ∧ p a = true
theorem yz.srt {X : Xd} {p : Nat → Bool} {l : List Nat} (h : yz X p l) : Srt X p (rZ X l) := by
 obtain ⟨h1, h2, -⟩ := jP (X := X) h.o (k := l.length) (Ls _); rw [List.take_length] at h1 h2; exact ⟨h1, fun a => (h2 a).trans (h.m a)⟩
theorem Srt.least {X : Xd} {p : Nat → Bool} {S : List Nat} (h : Srt X p S) : qf (gu X) ((List.range X.ak.length).filter p) = S.head? := by
 obtain ⟨o1, o2, o3, o4⟩ := gp X; have hm : ∀ a, a ∈ (List.range X.ak.length).filter p ↔ a ∈ S := fun a => by
  rw [List.mem_filter, List.mem_range, h.m]
 cases S with
 | nil =>
  have : (List.range X.ak.length).filter p = [] := by
   rw [List.eq_nil_iff_forall_not_mem]; intro a ha; have := (hm a).1 ha; cases this
  rw [this]; rfl
 | cons j S =>
  have hj := (hm j).2 (List.mem_cons_self ..); have hne : (List.range X.ak.length).filter p ≠ [] := fun e => by rw [e] at hj; cases hj
  obtain ⟨x, hx⟩ := jA (lt := gu X) hne; obtain ⟨g1, g2⟩ := jy o1 o2 o3 hx; rw [hx]; have g3 := g2 j hj; rcases List.mem_cons.1 ((hm x).1 g1) with e | hs
  ·rw [e]; rfl
  ·have := (List.pairwise_cons.1 h.o).1 x hs; rw [g3] at this; cases this
theorem yz.of {X : Xd} {p : Nat → Bool} : yz X p ((List.range X.ak.length).filter p) :=
 ⟨List.Pairwise.filter _ List.pairwise_lt_range, fun a => by rw [List.mem_filter, List.mem_range]⟩
structure Sta (b r : Option Nat) (X X' : Xd) : Prop where
 no : X'.no = X.no
 le : X.ak.length ≤ X'.ak.length
 ck : ∀ a, a < X.ak.length → (X'.K a).ca = (X.K a).ca ∧ (X'.K a).ke = (X.K a).ke
 bk : ∀ a, a < X'.ak.length → (X'.qR a = true ↔ a < X.ak.length ∧ b ≠ some a ∧ X.qR a = true)
 ar : ∀ a, a < X'.ak.length → (X'.lY a = true ↔ a < X.ak.length ∧ r ≠ some a ∧ X.lY a = true)
theorem Sta.lt {b r : Option Nat} {X X' : Xd} (h : Sta b r X X') {x y : Nat} (hx : x < X.ak.length) (hy : y < X.ak.length) : gu X' x y = gu X x y := by
 unfold gu; rw [(h.ck x hx).1, (h.ck x hx).2, (h.ck y hy).1, (h.ck y hy).2]
theorem wo {X X' : Xd} {p p' : Nat → Bool} {j : Nat} {S : List Nat} (h : Srt X p (j :: S)) (hle : X.ak.length ≤ X'.ak.length) (hlt : ∀ x y, x < X.ak.length → y < X.ak.length → gu X' x y = gu X x y) (hp : ∀ a, a < X'.ak.length → (p' a = true ↔ a < X.ak.length ∧ some j ≠ some a ∧ p a = true)) : Srt X' p' S := by
 have hc := List.pairwise_cons.1 h.o; have hin : ∀ a, a ∈ S → a < X.ak.length := fun a ha => ((h.m a).1 (List.mem_cons_of_mem _ ha)).1
 have hjn : ¬ j ∈ S := fun hj => by
  have := hc.1 j hj; rw [(gp X).1] at this; cases this
 refine ⟨?_, fun a => ?_⟩
 ·refine List.Pairwise.imp_of_mem (fun {x y} hx hy hxy => ?_) hc.2; rw [hlt x y (hin x hx) (hin y hy)]; exact hxy
 ·constructor
  ·intro ha; obtain ⟨g1, g2⟩ := (h.m a).1 (List.mem_cons_of_mem _ ha); have hl : a < X'.ak.length := Nat.lt_of_lt_of_le g1 hle; exact ⟨hl, (hp a hl).2 ⟨g1, fun e => hjn (by cases e; exact ha), g2⟩⟩
  ·rintro ⟨g1, g2⟩; obtain ⟨g3, g4, g5⟩ := (hp a g1).1 g2; rcases List.mem_cons.1 ((h.m a).2 ⟨g3, g5⟩) with e | hs
   ·exact absurd (congrArg some e.symm) g4
   ·exact hs
theorem Srt.back {X X' : Xd} {r : Option Nat} {j : Nat} {S : List Nat} (h : Srt X X.qR (j :: S)) (hs : Sta (some j) r X X') : Srt X' X'.qR S :=
 wo h hs.le (fun _ _ => hs.lt) hs.bk
theorem Srt.arr {X X' : Xd} {b : Option Nat} {j : Nat} {S : List Nat} (h : Srt X X.lY (j :: S)) (hs : Sta b (some j) X X') : Srt X' X'.lY S :=
 wo h hs.le (fun _ _ => hs.lt) hs.ar
theorem yz.ar {X X' : Xd} {b : Option Nat} {l : List Nat} (h : yz X X.lY l) (hs : Sta b none X X') : yz X' X'.lY l :=
 ⟨h.o, fun a => by
  constructor
  ·intro ha; obtain ⟨g1, g2⟩ := (h.m a).1 ha; have hl := Nat.lt_of_lt_of_le g1 hs.le; exact ⟨hl, (hs.ar a hl).2 ⟨g1, (by simp), g2⟩⟩
  ·rintro ⟨g1, g2⟩; obtain ⟨g3, g4, g5⟩ := (hs.ar a g1).1 g2; exact (h.m a).2 ⟨g3, g5⟩⟩
theorem Sta.same {X X' : Xd} (h1 : X'.ak = X.ak) (h2 : X'.no = X.no) : Sta none none X X' := by
 have hK : ∀ a, X'.K a = X.K a := fun a => by unfold Xd.K; rw [h1]
 refine ⟨h2, by rw [h1]; exact Ls _, fun a _ => by rw [hK]; exact ⟨rfl, rfl⟩, fun a ha => ?_, fun a ha => ?_⟩
 ·rw [h1] at ha; unfold Xd.qR; rw [hK, h2]; simp [ha]
 ·rw [h1] at ha; unfold Xd.lY; rw [hK, h2]; simp [ha]
theorem Sta.trans {b r : Option Nat} {X Y Z : Xd} (h : Sta b r X Y) (k : Sta none none Y Z) : Sta b r X Z := by
 refine ⟨k.no.trans h.no, Nat.le_trans h.le k.le, fun a ha => ?_, fun a ha => ?_, fun a ha => ?_⟩
 ·obtain ⟨g1, g2⟩ := k.ck a (Nat.lt_of_lt_of_le ha h.le); obtain ⟨g3, g4⟩ := h.ck a ha; exact ⟨g1.trans g3, g2.trans g4⟩
 ·rw [k.bk a ha]; constructor
  ·rintro ⟨g1, -, g2⟩; exact (h.bk a g1).1 g2
  ·intro g; have hl := Nat.lt_of_lt_of_le g.1 h.le; exact ⟨hl, by simp, (h.bk a hl).2 g⟩
 ·rw [k.ar a ha]; constructor
  ·rintro ⟨g1, -, g2⟩; exact (h.ar a g1).1 g2
  ·intro g; have hl := Nat.lt_of_lt_of_le g.1 h.le; exact ⟨hl, by simp, (h.ar a hl).2 g⟩
def bkT (no : Int) (k : Xk) : Bool := k.kn && (!k.dn && decide (k.bk = no))
def arT (no : Int) (k : Xk) : Bool := !k.cm && decide (k.ar = no)
theorem Sta.bT {X : Xd} {j : Nat} {k' : Xk} {b r : Option Nat} (hj : j < X.ak.length) (h1 : k'.ca = (X.K j).ca) (h2 : k'.ke = (X.K j).ke) (hb : (b = none ∧ bkT X.no k' = bkT X.no (X.K j)) ∨ (b = some j ∧ bkT X.no k' = false)) (hr : (r = none ∧ arT X.no k' = arT X.no (X.K j)) ∨ (r = some j ∧ arT X.no k' = false)) : Sta b r X (X.bT j k') := by
 have hl : (X.bT j k').ak.length = X.ak.length := bG; have hB : ∀ a, (X.bT j k').qR a = bkT X.no (if a = j then k' else X.K a) := fun a => by rw [← Xd.dB hj]; rfl
 have hA : ∀ a, (X.bT j k').lY a = arT X.no (if a = j then k' else X.K a) := fun a => by rw [← Xd.dB hj]; rfl
 refine ⟨rfl, by rw [hl]; exact Ls _, fun a _ => ?_, fun a ha => ?_, fun a ha => ?_⟩
 ·rw [Xd.dB hj]; split
  ·rename_i e; rw [e]; exact ⟨h1, h2⟩
  ·exact ⟨rfl, rfl⟩
 ·rw [hl] at ha; rw [hB]; show _ ↔ a < X.ak.length ∧ _ ∧ bkT X.no (X.K a) = true
  by_cases e : a = j
  ·rw [if_pos e]; rcases hb with ⟨rfl, hb⟩ | ⟨rfl, hb⟩
   ·rw [hb, e]; simp [hj]
   ·rw [hb, e]; simp
  ·rw [if_neg e]; rcases hb with ⟨rfl, hb⟩ | ⟨rfl, hb⟩
   ·simp [ha]
   ·have : ¬ j = a := fun h => e h.symm
    simp [ha, this]
 ·rw [hl] at ha; rw [hA]; show _ ↔ a < X.ak.length ∧ _ ∧ arT X.no (X.K a) = true
  by_cases e : a = j
  ·rw [if_pos e]; rcases hr with ⟨rfl, hr⟩ | ⟨rfl, hr⟩
   ·rw [hr, e]; simp [hj]
   ·rw [hr, e]; simp
  ·rw [if_neg e]; rcases hr with ⟨rfl, hr⟩ | ⟨rfl, hr⟩
   ·simp [ha]
   ·have : ¬ j = a := fun h => e h.symm
    simp [ha, this]
section
variable {C : List Cch} {R : List Crl} {E : List Rel} {P : List Pur} {L : List Gt} {X : Xd} {pd : List Xw}
theorem Sta.give {w : Xw} {a : Ans} (hj : ∀ j, w.ak = some j → j < X.ak.length ∧ (X.K j).kn = false ∧ 1 ≤ deO C (X.K j).ca) : Sta none none X (X.aI C w a) := by
 unfold Xd.aI; cases hw : w.ak with
 | none => exact Sta.same rfl rfl
 | some j =>
  obtain ⟨h1, h2, h3⟩ := hj j hw; refine Sta.bT (k' := { X.K j with kn := true, go := a, bk := X.no + deO C (X.K j).ca }) h1 rfl rfl (.inl ⟨rfl, ?_⟩) (.inl ⟨rfl, rfl⟩); unfold bkT; rw [h2, Bool.false_and]; show (true && (!(X.K j).dn && decide (X.no + deO C (X.K j).ca = X.no))) = false
  rw [decide_eq_false (by omega), Bool.and_false, Bool.and_false]
theorem qG {i a : Nat} {key : ByteArray} {al : Bool} {ws : List Xw} (ha : a < X.ak.length) : (X.aA C i key al ws).K a = X.K a := by
 show (X.ak ++ _).getD a default = _
 rw [Lt, List.getElem?_append_left ha, ← Lt]
 rfl
theorem Az {i : Nat} {key : ByteArray} {al : Bool} {ws : List Xw} : (X.aA C i key al ws).K X.ak.length = ⟨i, key, X.no, X.no + deO C i, false, false, 0, default, false, al, ws⟩ := by
 show (X.ak ++ _).getD X.ak.length default = _
 rw [Lt, List.getElem?_append_right (Ls _), Nat.sub_self]
 rfl
theorem Sta.start {i : Nat} {key : ByteArray} {al : Bool} {ws : List Xw} (hde : 1 ≤ deO C i) : Sta none none X (X.aA C i key al ws) := by
 have hl : (X.aA C i key al ws).ak.length = X.ak.length + 1 := by show (X.ak ++ [_]).length = _; simp
 refine ⟨rfl, by omega, fun a ha => by rw [qG ha]; exact ⟨rfl, rfl⟩, fun a ha => ?_, fun a ha => ?_⟩
 ·rw [hl] at ha; show bkT X.no ((X.aA C i key al ws).K a) = true ↔ _ ∧ _ ∧ bkT X.no (X.K a) = true
  by_cases e : a < X.ak.length
  ·rw [qG e]; simp [e]
  ·obtain rfl : a = X.ak.length := by omega
   rw [Az]; simp [bkT]
 ·rw [hl] at ha; show arT X.no ((X.aA C i key al ws).K a) = true ↔ _ ∧ _ ∧ arT X.no (X.K a) = true
  by_cases e : a < X.ak.length
  ·rw [qG e]; simp [e]
  ·obtain rfl : a = X.ak.length := by omega
   rw [Az]; have : ¬ X.no + deO C i = X.no := by omega
   simp [arT, this]
theorem Sta.come {i : Nat} {key : ByteArray} {ge : Nat} {ak : Option Nat} (hi : 1 ≤ deO C i) (hj : ∀ j, ak = some j → j < X.ak.length ∧ (X.K j).kn = false ∧ 1 ≤ deO C (X.K j).ca) : Sta none none X (X.aY C R P i key ge ak) := by
 have hs : ∀ {Y : Xd}, Y.ak = X.ak → Y.no = X.no → Sta none none X Y := Sta.same; have hg : ∀ {Y : Xd} {ho : Int} {a : Ans}, Sta none none X Y → (∀ j, j < X.ak.length → Y.K j = X.K j) → Sta none none X (Y.aI C ⟨ge, ak, ho⟩ a) := fun {Y ho a} h e => h.trans (Sta.give (w := ⟨ge, ak, ho⟩) fun j h2 => by
  obtain ⟨h3, h4, h5⟩ := hj j h2; rw [e j h3]; exact ⟨Nat.lt_of_lt_of_le h3 h.le, h4, h5⟩)
 unfold Xd.aY; split
 ·exact (hs (Y := X.aO i dw) rfl rfl).trans (Sta.start hi)
 ·split
  ·split
   ·exact hg (hs rfl rfl) fun j h => rfl
   ·split
    ·exact hg (hs rfl rfl) fun j h => rfl
    ·exact hg (Sta.trans (hs (Y := ((X.aO i dw).aO i jB).setH i (gz (X.H i) key X.no)) rfl rfl) (Sta.start hi)) fun j h => qG (X := ((X.aO i dw).aO i jB).setH i (gz (X.H i) key X.no)) h
  ·split
   ·rename_i j hw; have h1 := (iy hw).1; exact (hs (Y := (X.aO i dw).aO i tZ) rfl rfl).trans (Sta.bT (k' := { ((X.aO i dw).aO i tZ).K j with ws := _ }) h1 rfl rfl (.inl ⟨rfl, rfl⟩) (.inl ⟨rfl, rfl⟩))
   ·exact (hs (Y := X.aO i dw) rfl rfl).trans (Sta.start hi)
theorem Sta.gives {a : Ans} (hV : ∀ (i : Nat) (x : Cch), C[i]? = some x → 1 ≤ x.de ∧ x.de ≤ 100000) (ha : dF a) : ∀ (ws : List Xw) (X : Xd), aP C P L (ws ++ pd) X → (∀ w, w ∈ ws → ∀ j, w.ak = some j → X.no ≤ 1000000000000 + 100000 * (30 + ((X.K j).ca : Int))) → Sta none none X (X.bQ C ws a)
 | [], X, _, _ => Sta.same rfl rfl
 | w :: ws, X, h, hn => by
  have hw : ∀ j, w.ak = some j → j < X.ak.length ∧ (X.K j).kn = false ∧ 1 ≤ deO C (X.K j).ca := fun j hj => by
   obtain ⟨g1, g2, g3⟩ := h.wk w (List.mem_cons_self ..) j hj; have g4 := (h.kk j _ (Xd.at_ g1)).1; exact ⟨g1, g3, (hV (X.K j).ca (C.getD (X.K j).ca default) (by rw [Lt, Lu g4]; rfl)).1⟩
  refine (Sta.give (a := a) hw).trans (Sta.gives hV ha ws _ (aP.give (w := w) h hV ha (hn w (List.mem_cons_self ..))) fun v hv j hj => ?_); rw [mf, mg fun b hb => (h.wk w (List.mem_cons_self ..) b hb).1]; exact hn v (List.mem_cons_of_mem _ hv) j hj
theorem Sta.keep {i : Nat} {key : ByteArray} {a : Ans} : Sta none none X (X.dS C R P i key a) := by
 unfold Xd.dS; split
 ·exact Sta.same rfl rfl
 ·split <;> exact Sta.same rfl rfl
theorem yu {j : Nat} (h : aP C P L pd X) (hj : j < X.ak.length) (hkn : (X.K j).kn = true) (hd : (X.K j).dn = false) (hbk : (X.K j).bk = X.no) : ∀ w, w ∈ (X.K j).ws → ∀ a, w.ak = some a → X.no ≤ 1000000000000 + 100000 * (30 + (((X.bP j).K a).ca : Int)) := fun w hw a haw => by
 have hk := Xd.at_ hj; have e : ((X.bP j).K a).ca = (X.K a).ca := fH (k' := { X.K j with dn := true }) hj rfl; rw [e]; have g1 := h.wp j _ hk hd w hw a haw; have g2 := ((h.tm j _ hk).2.2 hkn hd).2; omega
theorem Sta.back {j : Nat} (h : aP C P L pd X) (hV : ∀ (i : Nat) (x : Cch), C[i]? = some x → 1 ≤ x.de ∧ x.de ≤ 100000) (hj : j < X.ak.length) (hkn : (X.K j).kn = true) (hd : (X.K j).dn = false) (hbk : (X.K j).bk = X.no) : Sta (some j) none X (X.dR C R P j) := by
 have hk := Xd.at_ hj; have ha := h.an j _ hk hkn; have h1 := h.done hj hkn hd; have h0 : Sta (some j) none X (X.bP j) := by
  have h2 : Sta (some j) none X (X.bT j { X.K j with dn := true }) := Sta.bT hj rfl rfl (.inr ⟨rfl, by unfold bkT; simp⟩) (.inl ⟨rfl, rfl⟩); exact h2.trans (Sta.same rfl rfl)
 have h2 := h0.trans (Sta.gives (pd := pd) hV ha (X.K j).ws (X.bP j) h1 (yu h hj hkn hd hbk)); unfold Xd.dR; split
 ·exact h2.trans Sta.keep
 ·exact h2
theorem Sta.Jg {j : Nat} (h : aP C P L pd X) (hv : Val C R E P L) (hj : j < X.ak.length) (hcm : (X.K j).cm = false) : Sta none (some j) X (X.jv C R E P j) := by
 have hk := Xd.at_ hj; have hkk := h.kk j _ hk; have hV : ∀ (i : Nat) (x : Cch), C[i]? = some x → 1 ≤ x.de ∧ x.de ≤ 100000 := fun i x hx => (hv.cd i x hx).1
 have hde : ∀ i, i < C.length → 1 ≤ deO C i := fun i hi => (hV i (C.getD i default) (by rw [Lt, Lu hi]; rfl)).1
 have h0 : Sta none (some j) X (X.cZ j) := Sta.bT (k' := { X.K j with cm := true }) hj rfl rfl (.inl ⟨rfl, rfl⟩) (.inr ⟨rfl, by unfold arT; simp⟩); have hkn : (X.K j).kn = false := by
  cases e : (X.K j).kn
  ·rfl
  ·have := hkk.2.2.1 e; rw [hcm] at this; cases this
 have hK : (X.cZ j).K j = { X.K j with cm := true } := by
  show (X.bT j _).K j = _
  rw [Xd.dB hj, if_pos rfl]
 have hl : ∀ a, some j = some a → a < (X.cZ j).ak.length ∧ ((X.cZ j).K a).kn = false ∧ 1 ≤ deO C ((X.cZ j).K a).ca := fun a ha => by
  cases ha
  rw [hK]; exact ⟨by show j < (X.bT j _).ak.length; rw [bG]; exact hj, hkn, hde _ hkk.1⟩
 have hpar : qK C (X.K j).ca < ((X.K j).ca : Int) := (hv.cp (X.K j).ca (C.getD (X.K j).ca default) (by rw [Lt, Lu hkk.1]; rfl)).1; unfold Xd.jv; split
 ·exact h0.trans (Sta.come (hde _ (by omega)) hl)
 ·exact h0.trans (Sta.give (w := ⟨0, some j, 0⟩) hl)
end
end Go.Proofs.YtgohddfnhofjhaaGreatDoor

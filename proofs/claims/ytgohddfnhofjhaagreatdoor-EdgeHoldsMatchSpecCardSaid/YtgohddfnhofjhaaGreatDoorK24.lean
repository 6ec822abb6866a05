/- The reference's day: what a cache holds; plain. -/
import Derived.Test.YtgohddfnhofjhaaGreatDoorK01
import Derived.Test.YtgohddfnhofjhaaGreatDoorK23
import Derived.Test.YtgohddfnhofjhaaGreatDoorK14
import Derived.Test.YtgohddfnhofjhaaGreatDoorK15
set_option maxRecDepth 100000
set_option maxHeartbeats 4000000
namespace Go.Proofs.YtgohddfnhofjhaaGreatDoor
open Go.RowKit
theorem jh {α : Type} {P : Program} {ops : Array Oper} {rest : List Oper} {o : Oper} {a : Act} {Q : Exit → Act → World → Prop} (hgd : Region.wanted o (yielded ops a.tmps) = true) (s x : Operand) (t : TypeId)
 (ho : o.op = .call { callee := .builtin .append, args := #[s, x], argTypes := #[t, t] })
 {E : TypeId} {k bytes : Nat} (hT : SlT P t E k bytes) {enc : α → List Value} (hk : ∀ x, (enc x).length = k) (h1 : ∀ y, (enc y).all Value.oneCell' = true) {base : Nat} {v u : Value} {l m : List α} {W : World} (hs : a.eval s = v)
 (hx : a.eval x = u) (hown : Own W base E k enc v l) (hm : Sl W k enc u m) (hn : (l.length + m.length) * bytes ≤ 140737488355328) (hbase : base ≤ W.heap.size)
 (h : ∀ v' w', Own w' base E k enc v' (l ++ m) → Below base W w' → wpList P ops Q rest (a.put o.dst v') w') : wpList P ops Q (o :: rest) a W := by
 have key := gJ (P := P) (ops := ops) (rest := rest) (o := { o with guard := none }) (a := a) (Q := Q) rfl s x t ho hT hk h1 hs hx hown hm hn hbase h; unfold wpList at key ⊢; rw [if_pos hgd]; rw [if_pos (by simp [Region.wanted])] at key; exact key
theorem JO : (Tryz.prog.info? 177).map (fun i => (i.zero, i.size, i.bytes)) = some (some (.agg #[.int .i64 0, .int .i64 0, .int .i64 0]), 3, 24) := by kernel_rfl
theorem slX : SlT Tryz.prog 169 177 3 24 := by
 obtain ⟨i0, hi, hz0, hz1, hz2⟩ := info_parts JO; exact ⟨i0, _, Tryz.underlying169, hi, hz0, hz1, hz2, rfl, by decide, by decide⟩
theorem zt (w : World) (l : List Xw) (v : Value) (hl : Sl w 3 oM v l) (hb : l.length * 24 ≤ 140737488355328) :
 Calls Tryz.prog 150 #[v] w (gI w 177 3 oM l) := by
 have hl0 := Lr hl; obtain ⟨ao, cap, rfl, hcap, hmax, hnil, hel⟩ := hl; unfold maxLen at hmax; have hn := fun w => Lib.run_eql_slice_nil (P := Tryz.prog) w 169 177 ao l.length cap 0 0 Tryz.underlying169
 cases ao with
 | none =>
  obtain rfl : cap = 0 := hnil rfl; obtain rfl : l = [] := List.length_eq_zero_iff.1 (by omega); clear hel hnil hn; have hn := fun w => Lib.run_eql_slice_nil (P := Tryz.prog) w 169 177 none 0 0 0 0 Tryz.underlying169
  go_enter Tryz.func150, Tryz.ntmps150
  go_wp2
  go_ret
  exact gI.mk Own.nil (LD _ _)
 | some ad =>
  clear hel hnil; have ho := Lr (show Own (w.alloc (.cells #[] 177)) w.heap.size 177 3 oM (.slice (some ⟨w.heap.size, 0, none⟩) 0 0) [] from World.ownsRow_lit w #[] 0 (Ls _) (by simp [maxLen]) rfl)
  go_enter Tryz.func150, Tryz.ntmps150
  go_wp2_with (at_builtin; refine jh rfl _ _ 169 rfl slX bU (fun _ => rfl) rfl rfl ho.out (hl0.out.below ((LD _ _).alloc (Ls _) _) (Ls _)) (by simpa using hb) (by simp) ?_; intro v' w1 ho1 hb1; have HO := Lr ho1; have HB := Lr hb1; clear ho1 hb1)
  go_ret
  exact gI.mk (by simpa using HO.out) (((LD _ _).alloc (Ls _) _).trans HB.out)
abbrev kN (w : Xw) : Obj := .cells (oM w).toArray 177 (0, 0)
theorem lU {l : List Xh} {k : ByteArray} (h : plI l k = none) : onH l k = false := by
 cases ho : onH l k
 ·rfl
 ·obtain ⟨x, hx, he⟩ := kM.1 ho; have := jD h x hx; rw [he] at this; simp at this
theorem jO {l : List Xh} (hn : (l.map Xh.ke).Nodup) {k : ByteArray} {n : Nat} (h : plI l k = some n) : ∃ x, l[n]? = some x ∧ x.ke = k ∧ onH l k = true ∧ gY l k = ⟨x.an, x.us⟩ := by
 obtain ⟨x, h1, h2⟩ := nY h; have he : x.ke = k := by
  have h3 : x.ke.toList = k.toList := by simpa using h2
  exact lh h3
 have hm := List.mem_of_getElem? h1; exact ⟨x, h1, he, kM.2 ⟨x, hm, he⟩, by rw [← he]; exact nT hn hm⟩
theorem RD.JG {W : World} {B : Nat} {A : Rdr} {X : Xd} (h : RD W B A X) {i k b : Nat} {v : Value} {o : Obj} (hv : A.hs[i]? = some v) (hx : A.x[k]? = some (b, o)) : df b v := by
 obtain ⟨M, h1, h2⟩ := h; exact bV.off h1 (h2.he i v hv) (h2.fx k b o hx) (by omega)
theorem Gs {X : Xd} {i j : Nat} {key : ByteArray} {last : Int} (h : X.kD i key last = some j) : j < X.ak.length ∧ (X.K j).dn = false := by
 unfold Xd.kD at h; have h1 := List.mem_of_find?_eq_some h; have h2 := List.find?_some h; refine ⟨by simpa using h1, ?_⟩; simp only [Bool.and_eq_true, Bool.not_eq_true'] at h2
 exact h2.1.2
structure Ii (C : List Cch) (X : Xd) (i : Nat) : Prop where
 ci : i < C.length
 il : i < X.ld.length
 no : 0 ≤ X.no ∧ X.no ≤ 1000000000000000
 de : 0 ≤ deO C i ∧ deO C i ≤ 1000000
 ld : 0 ≤ (X.Ld i).ak ∧ (X.Ld i).ak ≤ 1000000000000000
 al : X.ak.length ≤ 900000
theorem Ii.aO {C : List Cch} {X : Xd} {i : Nat} (h : Ii C X i) (f : Ldd → Ldd) (hf : ∀ l, (f l).ak = l.ak) : Ii C (X.aO i f) i :=
 ⟨h.ci, by show i < (X.ld.set i _).length; rw [List.length_set]; exact h.il, h.no, h.de, by rw [jI h.il, if_pos rfl, hf]; exact h.ld, h.al⟩
theorem oK.x {w0 : World} {B : Nat} {A A' : Rdr} {C : List Cch} {R : List Crl} {E : List Rel} {P : List Pur} {L : List Gt} (h : oK w0 B A C R E P L) {x : List (Nat × Obj)} (k : bW { A with x := x } A') : oK w0 B A' C R E P L :=
 oK.le (A := { A with x := x }) ⟨h.b, h.c, h.r, h.e, h.p, h.l⟩ k
structure Iy (C : List Cch) (X : Xd) (ge : Nat) (ak : Option Nat) : Prop where
 g : ak = none → ge < X.go.length
 j : ∀ j, ak = some j → j < X.ak.length ∧ (X.K j).ca < C.length
 no : 0 ≤ X.no ∧ X.no ≤ 1000000000000000
 de : ∀ i, i < C.length → 0 ≤ deO C i ∧ deO C i ≤ 1000000
theorem Iy.start {C : List Cch} {X : Xd} {ge : Nat} {ak : Option Nat} (h : Iy C X ge ak) (i : Nat) (key : ByteArray) (al : Bool) (ws : List Xw) : Iy C (X.aA C i key al ws) ge ak :=
 ⟨h.g, fun j hj => by
  obtain ⟨h1, h2⟩ := h.j j hj; have hk : (X.aA C i key al ws).K j = X.K j := by
   unfold Xd.aA Xd.K; show (X.ak ++ _).getD j default = _
   rw [Lt, List.getElem?_append_left h1, Lt]
  refine ⟨?_, by rw [hk]; exact h2⟩; show j < (X.ak ++ _).length
  rw [List.length_append]; omega, h.no, h.de⟩
theorem nX (w0 w W : World) (B : Nat) (A A1 : Rdr) (X1 : Xd) (C : List Cch) (R : List Crl) (E : List Rel) (P : List Pur) (L : List Gt) (hE : oK w0 B A C R E P L) (hw : Below w0.heap.size w0 w) (hb : Below B w W) (h : RD W B A1 X1) {y : List (Nat × Obj)} (hl : bW { A with x := A.x ++ y } A1) (wt : Xw) (a : Ans) (hs : Iy C X1 wt.ge wt.ak) {X' : Xd} (hX : X1.aI C wt a = X') :
 Calls Tryz.prog 102 #[.pointer (some ⟨A.q, 0, none⟩), .agg #[.int .i64 (wgI wt), .int .i64 wt.ho, .int .i64 (waI wt)], Iw a] W (jg w B A X') := by
 have hq : A1.q = A.q := hl.q; rw [← hq]; refine (qm w0 W B A1 X1 h C R E P L (hE.x hl) (hw.trans (hb.mono hE.b)) wt a hs.g hs.j hs.no hs.de).mono ?_; rintro e w' ⟨A', rfl, h1, h2, -, -, h4⟩; exact jg.mk (y := y) rfl h1 hX (hl.trans h2) (hb.trans h4)
theorem RD.ldc {W : World} {B : Nat} {A : Rdr} {X : Xd} (h : RD W B A X) {g i n cap : Nat} (hg : A.lv = .slice (some ⟨g, 0, none⟩) n cap) (hil : i < X.ld.length) : (∀ (k : Nat) (u : Value), (lL (X.Ld i))[k]? = some u → W.cell? ⟨g, i * 6 + k, none⟩ = some u) ∧ (∀ k, W.frozen? ⟨g, k, none⟩ = false) ∧ g < W.heap.size := by
 have hle : X.ld[i]? = some (X.Ld i) := by unfold Xd.Ld; rw [getD_at (Lu hil)]; exact Lu _
 have hne : X.ld ≠ [] := fun e => by rw [e] at hil; cases hil
 obtain ⟨g', cap', hgv, hg1, hg2, -, -, hgc, hgf⟩ := Own.gZ fZ h.lds hne; rw [hg] at hgv; simp only [Value.slice.injEq, Option.some.injEq, Addr.mk.injEq, and_true] at hgv
 obtain ⟨rfl, -, -⟩ := hgv; exact ⟨fun k u hu => hgc i _ k u hle hu, hgf, hg2⟩
theorem Ff {W : World} {B : Nat} {A : Rdr} {X1 : Xd} {bw ge : Nat} {ak : Option Nat} (h : RD W B { A with x := A.x ++ [(bw, kN ⟨ge, ak, 3⟩)] } X1) {i n hg cap : Nat} {v : Value} {x : Xh} (hv : A.hs[i]? = some v) (hx : (X1.H i)[n]? = some x) (hn : ((X1.H i).map Xh.ke).Nodup) (hgv : v = .slice (some ⟨hg, 0, none⟩) (X1.H i).length cap) (no : Int) (na : ByteArray) :
 RD (((W.setCell ⟨hg, n * 6 + 5, none⟩ (.int .i64 no)).setCell ⟨bw, 1, none⟩ (.int .i64 1)).alloc (.cells #[.int .i64 x.an.ve, .int .i64 x.an.bo, .int .i64 x.an.si, .string na] 105)) B { A with x := A.x ++ [(bw, kN ⟨ge, ak, 1⟩), (W.heap.size, .cells #[.int .i64 x.an.ve, .int .i64 x.an.bo, .int .i64 x.an.si, .string na] 105 (0, 0))] } (X1.setH i (gz (X1.H i) x.ke no)) := by
 have h1 := h.stH hv hx hn hgv no; have h2 : RD ((W.setCell ⟨hg, n * 6 + 5, none⟩ (.int .i64 no)).setCell ⟨bw, 1, none⟩ (.int .i64 1)) B { A with x := A.x ++ [(bw, kN ⟨ge, ak, 1⟩)] } (X1.setH i (gz (X1.H i) x.ke no)) := h1.setB (xs := A.x) (y := []) rfl 1 (.int .i64 1); have h3 := h2.jf (.cells #[.int .i64 x.an.ve, .int .i64 x.an.bo, .int .i64 x.an.si, .string na] 105); have e : ((W.setCell ⟨hg, n * 6 + 5, none⟩ (.int .i64 no)).setCell ⟨bw, 1, none⟩ (.int .i64 1)).heap.size = W.heap.size := by simp
 rw [e] at h3; have e2 : (A.x ++ [(bw, kN ⟨ge, ak, 1⟩)]) ++ [(W.heap.size, .cells #[.int .i64 x.an.ve, .int .i64 x.an.bo, .int .i64 x.an.si, .string na] 105 (0, 0))] = A.x ++ [(bw, kN ⟨ge, ak, 1⟩), (W.heap.size, .cells #[.int .i64 x.an.ve, .int .i64 x.an.bo, .int .i64 x.an.si, .string na] 105 (0, 0))] := by rw [List.append_assoc]; rfl
 have h4 : RD (((W.setCell ⟨hg, n * 6 + 5, none⟩ (.int .i64 no)).setCell ⟨bw, 1, none⟩ (.int .i64 1)).alloc (.cells #[.int .i64 x.an.ve, .int .i64 x.an.bo, .int .i64 x.an.si, .string na] 105)) B { A with x := (A.x ++ [(bw, kN ⟨ge, ak, 1⟩)]) ++ [(W.heap.size, .cells #[.int .i64 x.an.ve, .int .i64 x.an.bo, .int .i64 x.an.si, .string na] 105 (0, 0))] } (X1.setH i (gz (X1.H i) x.ke no)) := h3; rw [e2] at h4; exact h4
theorem pK (w0 w W : World) (B : Nat) (A A1 : Rdr) (X1 : Xd) (C : List Cch) (R : List Crl) (E : List Rel) (P : List Pur) (L : List Gt) (hE : oK w0 B A C R E P L) (hw : Below w0.heap.size w0 w) (hb : Below B w W) (h : RD W B A1 X1) {y : List (Nat × Obj)} {wt : Xw} {bv : Nat} (hl : bW { A with x := (A.x ++ y) ++ [(bv, kN wt)] } A1) (i : Nat) (key : ByteArray) (al : Bool) (hs : Ii C X1 i) :
 Calls Tryz.prog 148 #[.pointer (some ⟨A.q, 0, none⟩), .int .i64 (i : Nat), .string key, .bool al, .slice (some ⟨bv, 0, none⟩) 1 1] W (jg w B A (X1.aA C i key al [wt])) := by
 have hq : A1.q = A.q := hl.q; rw [← hq]; refine (pJ w0 W B A1 X1 h C R E P L (hE.x hl) (hw.trans (hb.mono hE.b)) i key al _ 1 1 [wt] (A.x ++ y) (.inr ⟨bv, wt, rfl, rfl, hl.x⟩) hs.ci hs.il hs.no hs.de hs.ld hs.al).mono ?_; rintro e w' ⟨A', rfl, h1, h2, -, h4⟩; exact jg.mk (y := y) rfl h1 rfl ⟨h2.q.trans hl.q, h2.d0.trans hl.d0, h2.d1.trans hl.d1, h2.d2.trans hl.d2, h2.d3.trans hl.d3, h2.gt.trans hl.gt, h2.hh.trans hl.hh, h2.gv.trans hl.gv, h2.lv.trans hl.lv, h2.x⟩ (hb.trans h4)
set_option linter.unusedSimpArgs false in
theorem Dn (w0 w : World) (B : Nat) (A : Rdr) (X : Xd) (h : RD w B A X) (C : List Cch) (R : List Crl) (E : List Rel) (P : List Pur) (L : List Gt) (hE : oK w0 B A C R E P L) (hw : Below w0.heap.size w0 w) (i : Nat) (key : ByteArray) (ge : Nat) (ak : Option Nat) (hR : DW C R P X i key ge ak) :
 Calls Tryz.prog 104 #[.pointer (some ⟨A.q, 0, none⟩), .int .i64 (i : Nat), .string key, .int .i64 (wgI ⟨ge, ak, 3⟩), .int .i64 (waI ⟨ge, ak, 3⟩)] w (jg w B A (X.aY C R P i key ge ak)) := by
 have hqb := h.qb.2; obtain ⟨ld, hlk⟩ : ∃ ld, ld = X.Ld i := ⟨_, rfl⟩
 have hil := hR.il; have hle : X.ld[i]? = some ld := by rw [hlk]; unfold Xd.Ld; rw [getD_at (Lu hil)]; exact Lu _
 have hld := hR.ld; rw [← hlk] at hld; have hne : X.ld ≠ [] := fun e => by rw [e] at hil; cases hil
 obtain ⟨g, cap, hgv, hg1, hg2, hg3, hg4, hgc, hgf⟩ := Own.gZ fZ h.lds hne; have hgq : ¬ A.q = g := fun e => h.Ew.2.2.2 _ _ _ hgv (by show g = A.q; exact e.symm)
 have q10 : w.cell? ⟨A.q, 10, none⟩ = some (.slice (some ⟨g, 0, none⟩) X.ld.length cap) := by rw [af hqb 10 rfl, ← hgv]; rfl
 have l0 : w.cell? ⟨g, i * 6, none⟩ = some (.int .i64 ld.ca) := by have h := hgc i ld 0 _ hle rfl; simpa using h
 have f0 := hgf (i * 6); have hilz : (i : Int) < (X.ld.length : Int) := by omega
 have hwl : IntKind.i64.wrap (ld.ca + 1) = ld.ca + 1 := IntWalk.i64_in _ (by omega); have HXO : Hid (∀ ho, kN ⟨ge, ak, ho⟩ = .cells #[.int .i64 (wgI ⟨ge, ak, 3⟩), .int .i64 ho, .int .i64 (waI ⟨ge, ak, 3⟩)] 177 (0, 0)) := Lr fun ho => rfl
 have HWG : Hid (∀ ho, wgI ⟨ge, ak, ho⟩ = wgI ⟨ge, ak, 3⟩ ∧ waI ⟨ge, ak, ho⟩ = waI ⟨ge, ak, 3⟩) := Lr fun ho => ⟨rfl, rfl⟩
 generalize wgI ⟨ge, ak, 3⟩ = gi at HXO HWG ⊢; generalize waI ⟨ge, ak, 3⟩ = ai at HXO HWG ⊢; obtain ⟨X1, hX1⟩ : ∃ X1, X1 = X.aO i dw := ⟨_, rfl⟩
 obtain ⟨w2, hw2⟩ : ∃ w2, w2 = w.setCell ⟨g, i * 6, none⟩ (.int .i64 (ld.ca + 1)) := ⟨_, rfl⟩
 have hon : Onl g w w2 := by rw [hw2]; exact Onl.set g w _ _
 have hsz2 : w2.heap.size = w.heap.size := by rw [hw2]; simp
 have hp2 : RD w2 B A X1 := by
  have h1 := h.stL hil hgv 0 (.int .i64 (ld.ca + 1)) dw (by decide) (by rw [← hlk]; rfl); rw [hX1, hw2]; exact h1
 obtain ⟨w3, hw3⟩ : ∃ w3, w3 = w2.alloc (.cells #[.int .i64 gi, .int .i64 3, .int .i64 ai] 177) := ⟨_, rfl⟩
 obtain ⟨bw, hbw⟩ : ∃ bw, bw = w.heap.size := ⟨_, rfl⟩
 have hp3 : RD w3 B { A with x := A.x ++ [(bw, kN ⟨ge, ak, 3⟩)] } X1 := by
  have h1 := hp2.jf (.cells #[.int .i64 gi, .int .i64 3, .int .i64 ai] 177); rw [hw3, HXO.out, hbw, ← hsz2]; exact h1
 have hb3 : Below B w w3 := by
  rw [hw3]; exact (hon.dK h.base hg1).alloc (by rw [hsz2]; exact h.base) _
 have hW3 : w3 = (w.setCell ⟨g, i * 6, none⟩ (.int .i64 (ld.ca + 1))).alloc (.cells #[.int .i64 gi, .int .i64 3, .int .i64 ai] 177) := by rw [hw3, hw2]
 have hso : Ii C X1 i := by
  rw [hX1]; exact Ii.aO ⟨hR.ci, hil, ⟨hR.no.1, by have := hR.no.2; omega⟩, hR.de i hR.ci, by rw [← hlk]; omega, by have := hR.al; omega⟩ dw fun _ => rfl
 have HW3 := Lr hW3; have HP3 := Lr hp3; have HB3 := Lr hb3; have HSO := Lr hso; have HX1 := Lr hX1; have HE := Lr hE; have HWB := Lr hw; have HR := Lr hR; have HLK := Lr hlk; have HGV := Lr hgv; have HG1 := Lr hg1; have HQL := Lr h.qb.1; have HBB : Hid (B ≤ w.heap.size) := Lr h.base; have HBW := Lr hbw; have HBG : Hid (B ≤ bw) := Lr (by rw [hbw]; exact h.base); have hqb3 := hp3.qb.2; have hwb3 : Below w0.heap.size w0 w3 := hw.trans (hb3.mono hE.b); have hr3 : Sl w3 4 xU A.d1 R := hE.r.below hwb3 (Ls _); have hrr := hr3; obtain ⟨ro, rc, e1, -, -, -, -⟩ := hrr; have q1 : w3.cell? ⟨A.q, 1, none⟩ = some (.slice ro R.length rc) := by rw [af hqb3 1 rfl, ← e1]; rfl
 have HRU := mY w3 R A.d1 key hr3; rw [e1] at HRU; have HRU := Lr HRU; clear h hqb hE hw hR hlk hle hne hgv hgc hgf hon hp2 hw2 hw3 hW3 hp3 hb3 hso hX1 hbw hqb3 hwb3 hr3 e1 hsz2
 go_enter Tryz.func104, Tryz.ntmps104
 go_upto_region 3 with (fail)
 rw [← HW3.out, ← HBW.out]; clear q10 l0 f0 HW3; cases hru : ruI R key R.length with
 | none =>
  have hn : Hid (numO (ruI R key R.length) = -1) := Lr (by rw [hru]; rfl); have HRU' := HRU.out; rw [hn.out] at HRU'; have HRU := Lr HRU'; have hcx : X.aY C R P i key ge ak = X1.aA C i key true [⟨ge, ak, 3⟩] := by
   unfold Xd.aY; rw [if_pos (by rw [hru]; rfl), HX1.out]
  have HCX := Lr hcx; clear hcx HRU' hru
  go_upto_region 4 with (go_at_call 61; (with_reducible refine HRU.out.mono ?_); rintro e w4 ⟨rfl, hb4⟩; have HB4 := Lr hb4; clear hb4 q1)
  have hp4 := HP3.out.below HB4.out; have hfb := hp4.box (xs := A.x) (y := []) rfl; rw [HXO.out] at hfb; have n0 : w4.cell? ⟨bw, 0, none⟩ = some (.int .i64 gi) := af hfb 0 rfl; have n1 : w4.cell? ⟨bw, 1, none⟩ = some (.int .i64 3) := af hfb 1 rfl; have n2 : w4.cell? ⟨bw, 2, none⟩ = some (.int .i64 ai) := af hfb 2 rfl; have hp5 := hp4.jf (kN ⟨ge, ak, 3⟩); have HST := Lr (pK w0 w _ B A _ X1 C R E P L HE.out HWB.out (((HB3.out.trans (HB4.out.mono HP3.out.base))).alloc (Nat.le_trans HP3.out.base HB4.out.size) _) hp5 (y := [(bw, kN ⟨ge, ak, 3⟩)]) (bW.refl _) i key true HSO.out); have HST' := HST.out; rw [HXO.out] at HST'; have HST := Lr HST'; clear HST' hp5 hp4 hfb
  go_wp2_with (go_at_call 148; (with_reducible refine HST.out.mono ?_); rintro e w5 ⟨A5, rfl, h5⟩)
  ((try simp only [Exit.inBlock, Exit.then]); refine bodyPost_ret (results_none rfl _ _ _) rfl ?_)
  rw [HCX.out]; exact ⟨A5, rfl, h5⟩
 | some o =>
  have hn : Hid (numO (ruI R key R.length) = (o : Int)) := Lr (by rw [hru]; rfl); have HRU' := HRU.out; rw [hn.out] at HRU'; have HRU := Lr HRU'; have HRS : Hid ((ruI R key R.length).isSome = true) := Lr (by rw [hru]; rfl); have ho0 : (0 : Int) ≤ (o : Int) := by omega
  have ho1 : ¬ (o : Int) < 0 := by omega
  obtain ⟨F, hF⟩ : ∃ F, F = plI (X.H i) key := ⟨_, rfl⟩
  obtain ⟨Y, hY⟩ : ∃ Y, Y = X.kD i key (fQ P key X.no) := ⟨_, rfl⟩
  have hX1 := HX1.out; have hH1 : X1.H i = X.H i := by rw [hX1]; rfl
  have hw1 : X1.kD i key (fQ P key X1.no) = Y := by rw [hX1, hY]; rfl
  have HPL : Hid (∀ W : World, Below w3.heap.size w3 W → Calls Tryz.prog 98 #[.pointer (some ⟨A.q, 0, none⟩), .int .i64 (i : Nat), .string key] W fun e w' => e = .returned (.int .i64 (numO F)) ∧ Below W.heap.size W w') := Lr fun W hW => by
   have h1 := kL W B _ X1 (HP3.out.below hW) i key (by rw [hX1]; exact HR.out.ih); rw [hH1, ← hF] at h1; exact h1
  have HUW : Hid (∀ W : World, Below w3.heap.size w3 W → Calls Tryz.prog 149 #[.pointer (some ⟨A.q, 0, none⟩), .int .i64 (i : Nat), .string key] W fun e w' => e = .returned (.int .i64 (numO Y)) ∧ Below W.heap.size W w') := Lr fun W hW => by
   have h1 := qy W B _ X1 (HP3.out.below hW) P i key (HE.out.p.below ((HWB.out.trans (HB3.out.mono HE.out.b)).bf hW) (Ls _)) (by rw [hX1]; exact HR.out.pb key); rw [hw1] at h1; exact h1
  have HF := Lr hF; have HY := Lr hY; clear HRU' hru hF hY hX1 hH1 hw1
  go_upto_if 57 with (first
   | (go_at_call 61; (with_reducible refine HRU.out.mono ?_); rintro e w4 ⟨rfl, hb4⟩; have HB4 := Lr hb4; clear hb4 q1)
   | (go_at_call 98; (with_reducible refine (HPL.out _ HB4.out).mono ?_); rintro e w5 ⟨rfl, hb5⟩; have HB5 := Lr (HB4.out.bf hb5); clear hb5)
   | (go_at_call 149; (with_reducible refine (HUW.out _ HB5.out).mono ?_); rintro e w6 ⟨rfl, hb6⟩; have HB6 := Lr (HB5.out.bf hb6); clear hb6)
   | fail)
  clear HB4 HB5 HPL HUW HRU hn
  go_cut [12, 13] from 14 (fun s12 s13 W => s12 = .int .i64 (numO F) ∧ s13 = .int .i64 (numO Y) ∧ Aside (Below w3.heap.size w3 W ∧ ¬ (onH (X.H i) key = true ∧ X.no < eG (kE R key) (gY (X.H i) key).an true)))
  case first =>
   cases hF : F with
   | none =>
    have hn : Hid (¬ onH (X.H i) key = true) := Lr (by rw [lU (HF.out.symm.trans hF)]; simp); rw [show numO none = -1 from rfl]
    go_wp2_with fail
    go_meet
    exact ⟨by rw [hF]; rfl, rfl, HB6.out, fun h => hn.out h.1⟩
   | some n =>
    obtain ⟨x, hx, hk, hon, hhm⟩ := jO HR.out.nd (HF.out.symm.trans hF); have hp6 := HP3.out.below HB6.out; have hqb6 := hp6.qb.2; have HXE : Hid ((X.H i)[n]? = some x) := Lr hx; have hax := HR.out.an x (List.mem_of_getElem? hx); have HLV := pY w6 B _ X1 hp6 R key x.an (HE.out.r.below ((HWB.out.trans (HB3.out.mono HE.out.b)).bf HB6.out) (Ls _)) HR.out.R hax.ve hax.bo HRS.out; have HHM : Hid ((gY (X.H i) key).an = x.an) := Lr (by rw [hhm]); have HON := Lr hon; generalize hU0 : eG (kE R key) x.an false = U0 at HLV; generalize hU1 : eG (kE R key) x.an true = U1 at HLV; have HU0 := Lr hU0; have HU1 := Lr hU1; have HLV := Lr HLV; have hH1 : X1.H i = X.H i := by rw [HX1.out]; rfl
    have hil1 : i < X1.he.length := by rw [HX1.out]; exact HR.out.ih
    obtain ⟨v, hv⟩ : ∃ v, A.hs[i]? = some v := ⟨_, Lu (by rw [hp6.hl]; exact hil1)⟩
    obtain ⟨so, sc, e8, -, -, -, hel8⟩ := hp6.rows.sl dV; have q8 : w6.cell? ⟨A.q, 8, none⟩ = some (.slice so A.hs.length sc) := by rw [af hqb6 8 rfl, ← e8]; rfl
    obtain ⟨sb, soff, rfl, hc8⟩ := hel8 i v hv; have s0 : w6.cell? ⟨sb, soff + i, none⟩ = some v := by have h := hc8 0 _ rfl; simpa using h
    have hne2 : X1.H i ≠ [] := fun e => by rw [← hH1, e] at hx; cases hx
    obtain ⟨hg, hcap, rfl, hh1, hh2, hh3, hh4, hhc, hhf⟩ := Own.gZ aJ (hp6.held hv) hne2; rw [hH1] at hhc s0 hh3; have hhq : ¬ A.q = hg := fun e => hp6.JE hv _ _ _ rfl (by show hg = A.q; exact e.symm)
    have c1 : w6.cell? ⟨hg, n * 6 + 1, none⟩ = some (.int .i64 x.an.ve) := hhc n x 1 _ hx rfl; have c2 : w6.cell? ⟨hg, n * 6 + 2, none⟩ = some (.int .i64 x.an.bo) := hhc n x 2 _ hx rfl; have c3 : w6.cell? ⟨hg, n * 6 + 3, none⟩ = some (.int .i64 x.an.si) := hhc n x 3 _ hx rfl; have c4 : w6.cell? ⟨hg, n * 6 + 4, none⟩ = some (.string x.an.fr) := hhc n x 4 _ hx rfl; have c5 : w6.cell? ⟨hg, n * 6 + 5, none⟩ = some (.int .i64 x.us) := hhc n x 5 _ hx rfl; have fh5 := hhf (n * 6 + 5); have hnl := (List.getElem?_eq_some_iff.1 hx).1; have hnz : (n : Int) < ((X.H i).length : Int) := by omega
    have hn0 : (0 : Int) ≤ (n : Int) := by omega
    have hizh : (i : Int) < (A.hs.length : Int) := by have h8 : A.hs.length = X1.he.length := hp6.hl; omega
    have HV := Lr hv; have HH1 := Lr hH1; have HKE := Lr hk; have HHB : Hid (B ≤ hg) := Lr hh1; rw [show numO (some n) = (n : Int) from rfl]; have HFE := Lr hF; have hfb := hp6.box (xs := A.x) (y := []) rfl; rw [HXO.out] at hfb; have hbl := (Array.getElem?_eq_some_iff.1 hfb).1; have hfx : (A.x ++ [(bw, kN ⟨ge, ak, 3⟩)])[A.x.length]? = some (bw, kN ⟨ge, ak, 3⟩) := by simp
    have hbh : ¬ bw = hg := fun e => hp6.JG hv hfx _ _ _ rfl e.symm
    have hbq : ¬ A.q = bw := fun e => (hp6.JB hfx).2.2.2.2 e.symm
    have q11 : w6.cell? ⟨A.q, 11, none⟩ = some (.int .i64 X.no) := by rw [af hqb6 11 rfl, HX1.out]; rfl
    obtain ⟨co, cc, e0, hccm, -, -, hcel⟩ := HE.out.c; obtain ⟨c, hce⟩ : ∃ c, C[i]? = some c := ⟨_, Lu HR.out.ci⟩
    obtain ⟨cb, coff, rfl, hcc2⟩ := hcel i c hce; have q0 : w6.cell? ⟨A.q, 0, none⟩ = some (.slice (some ⟨cb, coff, none⟩) C.length cc) := by rw [af hqb6 0 rfl, ← e0]; rfl
    have hcl := LC w0 _ (hcc2 2 _ rfl); have hwb6 : Below w0.heap.size w0 w6 := (HWB.out.trans (HB3.out.mono HE.out.b)).bf HB6.out; have d0 : w6.cell? ⟨cb, coff + i * 4, none⟩ = some (.string c.na) := (hwb6.cell (p := ⟨cb, coff + i * 4, none⟩) hcl).trans (by have h := hcc2 0 _ rfl; simpa using h); have hcb6 := LC w6 _ d0; have hch : ¬ cb = hg := fun e => by have := HE.out.b; have : cb < w0.heap.size := hcl; omega
    have hcw : ¬ cb = bw := fun e => by have := HE.out.b; have : cb < w0.heap.size := hcl; have := HBG.out; omega
    have hciz : (i : Int) < (C.length : Int) := by have := HR.out.ci; omega
    have HNA : Hid ((C.getD i default).na = c.na) := Lr (by rw [getD_at hce]); have hql6 := LC w6 _ q11; have HC7 : Hid (∀ W : World, Below w6.heap.size w6 W → (W.cell? ⟨A.q, 11, none⟩ = some (.int .i64 X.no) ∧ W.cell? ⟨A.q, 0, none⟩ = some (.slice (some ⟨cb, coff, none⟩) C.length cc) ∧ W.cell? ⟨cb, coff + i * 4, none⟩ = some (.string c.na)) ∧ (W.cell? ⟨hg, n * 6 + 1, none⟩ = some (.int .i64 x.an.ve) ∧ W.cell? ⟨hg, n * 6 + 2, none⟩ = some (.int .i64 x.an.bo) ∧ W.cell? ⟨hg, n * 6 + 3, none⟩ = some (.int .i64 x.an.si) ∧ W.cell? ⟨hg, n * 6 + 4, none⟩ = some (.string x.an.fr) ∧ W.cell? ⟨hg, n * 6 + 5, none⟩ = some (.int .i64 x.us) ∧ W.frozen? ⟨hg, n * 6 + 5, none⟩ = false) ∧ W.cell? ⟨bw, 0, none⟩ = some (.int .i64 gi) ∧ W.cell? ⟨bw, 1, none⟩ = some (.int .i64 3) ∧ W.cell? ⟨bw, 2, none⟩ = some (.int .i64 ai) ∧ W.frozen? ⟨bw, 1, none⟩ = false ∧ bw < W.heap.size ∧ hg < W.heap.size ∧ A.q < W.heap.size ∧ cb < W.heap.size) := Lr fun W hW => by
     have hb := (hW.block _ hbl).trans hfb; have hsz := hW.size; exact ⟨⟨(hW.cell (p := ⟨A.q, 11, none⟩) hql6).trans q11, (hW.cell (p := ⟨A.q, 0, none⟩) hql6).trans q0, (hW.cell (p := ⟨cb, coff + i * 4, none⟩) hcb6).trans d0⟩, ⟨(hW.cell (p := ⟨hg, n * 6 + 1, none⟩) hh2).trans c1, (hW.cell (p := ⟨hg, n * 6 + 2, none⟩) hh2).trans c2, (hW.cell (p := ⟨hg, n * 6 + 3, none⟩) hh2).trans c3, (hW.cell (p := ⟨hg, n * 6 + 4, none⟩) hh2).trans c4, (hW.cell (p := ⟨hg, n * 6 + 5, none⟩) hh2).trans c5, (hW.frozen (p := ⟨hg, n * 6 + 5, none⟩) hh2).trans fh5⟩, af hb 0 rfl, af hb 1 rfl, af hb 2 rfl, cO hb 1, by omega, by omega, Nat.lt_of_lt_of_le hql6 hsz, Nat.lt_of_lt_of_le hcb6 hsz⟩
    clear hfx hcel hcc2 hce e0 hwb6 hfb hbl hcb6; clear hp6 hqb6 hx hax hhm hon hU0 hU1 hH1 hne2 hv hel8 hc8 e8 hhc hhf hF; by_cases hcl : X.no < U1
    ·go_upto_region 15 with (first | (go_at_call 145; (with_reducible refine HLV.out.mono ?_); rintro e w7 ⟨rfl, hb7⟩; have HB7 := Lr (HB6.out.bf hb7); obtain ⟨⟨z11, z0, zd⟩, ⟨y1, y2, y3, y4, y5, yf⟩, v0, v1, v2, vf, t1, t2, t3, t4⟩ := HC7.out _ hb7; clear hb7 c1 c2 c3 c4 c5 fh5 q11 q0 d0 q8 s0) | fail)
     have HG3 : Hid (g < w.heap.size) := Lr hg2; have hp8 := Ff (HP3.out.below HB7.out) HV.out (by rw [HH1.out]; exact HXE.out) (by rw [HH1.out]; exact HR.out.nd) (by rw [HH1.out]) X.no c.na; obtain ⟨w8, hw8⟩ : ∃ w8, w8 = ((w7.setCell ⟨hg, n * 6 + 5, none⟩ (.int .i64 X.no)).setCell ⟨bw, 1, none⟩ (.int .i64 1)).alloc (.cells #[.int .i64 x.an.ve, .int .i64 x.an.bo, .int .i64 x.an.si, .string c.na] 105) := ⟨_, rfl⟩
     have hb8 : Below B w w8 := by
      have h1 := HB3.out.trans (HB7.out.mono HP3.out.base); rw [hw8]; exact ((h1.setCell HHB.out _).setCell HBG.out _).alloc (by have := HBB.out; have := h1.size; simp; omega) _
     rw [← hw8] at hp8 ⊢; obtain ⟨ba, hba⟩ : ∃ ba, ba = w7.heap.size := ⟨_, rfl⟩
     rw [← hba] at hp8 ⊢; have hX1no : X1.no = X.no := by rw [HX1.out]; rfl
     have hil8 : i < X1.ld.length := HSO.out.il; have hLd : X1.Ld i = dw ld := by rw [HX1.out, jI hil, if_pos rfl, HLK.out]
     obtain ⟨hc8, hf8, hg8⟩ := hp8.ldc HGV.out hil8; have hqb8 := hp8.qb.2; have z11' : w8.cell? ⟨A.q, 11, none⟩ = some (.int .i64 X.no) := by rw [af hqb8 11 rfl, ← hX1no]; rfl
     have hfb := hp8.box (xs := A.x) (b := bw) rfl; have hab := hp8.box (xs := A.x ++ [(bw, kN ⟨ge, ak, 1⟩)]) (b := ba) (o := .cells #[.int .i64 x.an.ve, .int .i64 x.an.bo, .int .i64 x.an.si, .string c.na] 105 (0, 0)) (y := []) (by simp); rw [HXO.out] at hfb; have n0 : w8.cell? ⟨bw, 0, none⟩ = some (.int .i64 gi) := af hfb 0 rfl; have n1 : w8.cell? ⟨bw, 1, none⟩ = some (.int .i64 1) := af hfb 1 rfl; have n2 : w8.cell? ⟨bw, 2, none⟩ = some (.int .i64 ai) := af hfb 2 rfl; have nf := cO hfb 1; have a0 : w8.cell? ⟨ba, 0, none⟩ = some (.int .i64 x.an.ve) := af hab 0 rfl; have a1 : w8.cell? ⟨ba, 1, none⟩ = some (.int .i64 x.an.bo) := af hab 1 rfl; have a2 : w8.cell? ⟨ba, 2, none⟩ = some (.int .i64 x.an.si) := af hab 2 rfl; have a3 : w8.cell? ⟨ba, 3, none⟩ = some (.string c.na) := af hab 3 rfl; have l1 : w8.cell? ⟨g, i * 6 + 1, none⟩ = some (.int .i64 ld.fr) := hc8 1 _ (by show (lL (X1.Ld i))[1]? = _; rw [hLd]; rfl); have l2 : w8.cell? ⟨g, i * 6 + 2, none⟩ = some (.int .i64 ld.sl) := hc8 2 _ (by show (lL (X1.Ld i))[2]? = _; rw [hLd]; rfl); have lf1 := hf8 (i * 6 + 1); have lf2 := hf8 (i * 6 + 2); have hbg : ¬ bw = g := fun e => by have := HBW.out; omega
     have hag : ¬ ba = g := fun e => by rw [e] at hba; have := HBW.out; have := HG3.out; omega
     have hab2 : ¬ ba = bw := fun e => by rw [e] at hba; omega
     have haq : ¬ ba = A.q := fun e => by rw [e] at hba; omega
     have hwf : IntKind.i64.wrap (ld.fr + 1) = ld.fr + 1 := IntWalk.i64_in _ (by omega); have hws : IntKind.i64.wrap (ld.sl + 1) = ld.sl + 1 := IntWalk.i64_in _ (by omega); have HCX : Hid (∀ X', (if X.no < U0 then (((X1.aO i yO).setH i (gz (X1.H i) x.ke X.no)).aI C ⟨ge, ak, 1⟩ { x.an with fr := c.na }) else match Y with | some _ => ((X1.aO i jB).setH i (gz (X1.H i) x.ke X.no)).aI C ⟨ge, ak, 2⟩ { x.an with fr := c.na } | none => ((((X1.aO i jB).setH i (gz (X1.H i) x.ke X.no)).aA C i key false []).aI C ⟨ge, ak, 2⟩ { x.an with fr := c.na })) = X' → X.aY C R P i key ge ak = X') := Lr fun X' hX' => by
      rw [← hX', HX1.out, HKE.out]; unfold Xd.aY; rw [if_neg (by rw [HRS.out]; simp), if_pos ⟨HON.out, by rw [HHM.out, HU1.out]; exact hcl⟩, HHM.out, HU0.out, HNA.out, ← HY.out]
      rfl
     have HGO : Hid (Iy C X1 ge ak) := Lr (by
      rw [HX1.out]; exact ⟨HR.out.g, HR.out.j, ⟨HR.out.no.1, by have := HR.out.no.2; show X.no ≤ _; omega⟩, HR.out.de⟩)
     have HP8 := Lr hp8; have HB8 := Lr hb8; have HLD := Lr hLd; have HIL8 := Lr hil8; clear hp8 hb8 hw8 hX1no hLd hc8 hf8 hqb8 hfb hab hba hil8 z11 z0 zd y1 y2 y3 y4 y5 yf v0 v1 v2 vf t1 t2 t3 t4 HC7; by_cases hfr : X.no < U0
     ·have hp9 := HP8.out.stL (i := i) HIL8.out (by rw [HGV.out, HX1.out]; show Value.slice _ _ _ = Value.slice _ (X.ld.set _ _).length _; rw [List.length_set]) 1 (.int .i64 (ld.fr + 1)) yO (by decide) (by show lL (yO (X1.Ld i)) = (lL (X1.Ld i)).set 1 _; rw [HLD.out]; rfl); have hgi := nX w0 w _ B A _ _ C R E P L HE.out HWB.out (HB8.out.setCell HG1.out _) hp9 (y := [(bw, kN ⟨ge, ak, 1⟩), (ba, .cells #[.int .i64 x.an.ve, .int .i64 x.an.bo, .int .i64 x.an.si, .string c.na] 105 (0, 0))]) (bW.refl _) ⟨ge, ak, 1⟩ { x.an with fr := c.na } ⟨HGO.out.g, HGO.out.j, HGO.out.no, HGO.out.de⟩ (X' := X.aY C R P i key ge ak) (HCX.out _ (if_pos hfr)).symm; rw [(HWG.out 1).1, (HWG.out 1).2] at hgi; have HGI := Lr hgi; clear hgi hp9
      go_wp2_with (go_at_call 102; (with_reducible refine HGI.out.mono ?_); rintro e w9 ⟨A9, rfl, h9⟩)
      ((try simp only [Exit.inBlock, Exit.then]); refine bodyPost_ret (results_none rfl _ _ _) rfl ?_)
      exact ⟨A9, rfl, h9⟩
     ·have HNF := Lr hfr; have hp9 : RD (w8.setCell ⟨bw, 1, none⟩ (.int .i64 2)) B { A with x := A.x ++ [(bw, kN ⟨ge, ak, 2⟩), (ba, .cells #[.int .i64 x.an.ve, .int .i64 x.an.bo, .int .i64 x.an.si, .string c.na] 105 (0, 0))] } (X1.setH i (gz (X1.H i) x.ke X.no)) := HP8.out.setB (xs := A.x) (b := bw) (y := [(ba, .cells #[.int .i64 x.an.ve, .int .i64 x.an.bo, .int .i64 x.an.si, .string c.na] 105 (0, 0))]) rfl 1 (.int .i64 2); have hp10 := hp9.stL (i := i) HIL8.out (by rw [HGV.out, HX1.out]; show Value.slice _ _ _ = Value.slice _ (X.ld.set _ _).length _; rw [List.length_set]) 2 (.int .i64 (ld.sl + 1)) jB (by decide) (by show lL (jB (X1.Ld i)) = (lL (X1.Ld i)).set 2 _; rw [HLD.out]; rfl); have hb10 : Below B w ((w8.setCell ⟨bw, 1, none⟩ (.int .i64 2)).setCell ⟨g, i * 6 + 2, none⟩ (.int .i64 (ld.sl + 1))) := (HB8.out.setCell HBG.out _).setCell HG1.out _; cases hYe : Y with
      | some j =>
       have hgi := nX w0 w _ B A _ _ C R E P L HE.out HWB.out hb10 hp10 (y := [(bw, kN ⟨ge, ak, 2⟩), (ba, .cells #[.int .i64 x.an.ve, .int .i64 x.an.bo, .int .i64 x.an.si, .string c.na] 105 (0, 0))]) (bW.refl _) ⟨ge, ak, 2⟩ { x.an with fr := c.na } ⟨HGO.out.g, HGO.out.j, HGO.out.no, HGO.out.de⟩ (X' := X.aY C R P i key ge ak) (HCX.out _ (by rw [if_neg HNF.out, hYe]; rfl)).symm; rw [(HWG.out 2).1, (HWG.out 2).2] at hgi; have HGI := Lr hgi; have hj0 : ¬ (j : Int) < 0 := by omega
       clear hgi hp9 hp10 hb10 hYe; rw [show numO (some j) = (j : Int) from rfl]
       go_wp2_with (go_at_call 102; (with_reducible refine HGI.out.mono ?_); rintro e w9 ⟨A9, rfl, h9⟩)
       ((try simp only [Exit.inBlock, Exit.then]); refine bodyPost_ret (results_none rfl _ _ _) rfl ?_)
       exact ⟨A9, rfl, h9⟩
      | none =>
       have hso : Ii C ((X1.setH i (gz (X1.H i) x.ke X.no)).aO i jB) i := by
        have h0 := HSO.out.aO jB fun _ => rfl
        exact ⟨h0.ci, h0.il, h0.no, h0.de, h0.ld, h0.al⟩
       obtain ⟨w10, hw10⟩ : ∃ w10, w10 = (w8.setCell ⟨bw, 1, none⟩ (.int .i64 2)).setCell ⟨g, i * 6 + 2, none⟩ (.int .i64 (ld.sl + 1)) := ⟨_, rfl⟩
       rw [← hw10] at hp10 hb10; have HW10 := Lr hw10; have HYE := Lr hYe; have HB10 := Lr hb10; have hst : Calls Tryz.prog 148 #[.pointer (some ⟨A.q, 0, none⟩), .int .i64 (i : Nat), .string key, .bool false, .slice none 0 0] w10 fun e w' => ∃ A', e = .returned (.tuple #[]) ∧ RD w' B A' (((X1.setH i (gz (X1.H i) x.ke X.no)).aO i jB).aA C i key false []) ∧ bW { A with x := A.x ++ [(bw, kN ⟨ge, ak, 2⟩), (ba, .cells #[.int .i64 x.an.ve, .int .i64 x.an.bo, .int .i64 x.an.si, .string c.na] 105 (0, 0))] } A' ∧ A'.hs = A.hs ∧ Below B w10 w' :=
        pJ w0 w10 B _ _ hp10 C R E P L (HE.out.x (bW.refl _)) (HWB.out.trans (hb10.mono HE.out.b)) i key false none 0 0 [] (A.x ++ [(bw, kN ⟨ge, ak, 2⟩), (ba, .cells #[.int .i64 x.an.ve, .int .i64 x.an.bo, .int .i64 x.an.si, .string c.na] 105 (0, 0))]) (.inl ⟨rfl, rfl, rfl⟩) hso.ci hso.il hso.no hso.de hso.ld hso.al
       have HST := Lr hst; clear hst hp9 hp10 hb10 hw10 hso hYe; rw [show numO none = -1 from rfl]
       go_upto_region 19 with (fail)
       rw [← HW10.out]
       go_upto_region 21 with (go_at_call 148; (with_reducible refine HST.out.mono ?_); rintro e w11 ⟨A11, rfl, h11, k11, -, b11⟩)
       have hfb := h11.box k11.x; have hab := h11.box (xs := A.x ++ [(bw, kN ⟨ge, ak, 2⟩)]) (b := ba) (o := .cells #[.int .i64 x.an.ve, .int .i64 x.an.bo, .int .i64 x.an.si, .string c.na] 105 (0, 0)) (y := []) (by rw [k11.x]; simp); rw [HXO.out] at hfb; have m0 : w11.cell? ⟨bw, 0, none⟩ = some (.int .i64 gi) := af hfb 0 rfl; have m1 : w11.cell? ⟨bw, 1, none⟩ = some (.int .i64 2) := af hfb 1 rfl; have m2 : w11.cell? ⟨bw, 2, none⟩ = some (.int .i64 ai) := af hfb 2 rfl; have e0 : w11.cell? ⟨ba, 0, none⟩ = some (.int .i64 x.an.ve) := af hab 0 rfl; have e1 : w11.cell? ⟨ba, 1, none⟩ = some (.int .i64 x.an.bo) := af hab 1 rfl; have e2 : w11.cell? ⟨ba, 2, none⟩ = some (.int .i64 x.an.si) := af hab 2 rfl; have e3 : w11.cell? ⟨ba, 3, none⟩ = some (.string c.na) := af hab 3 rfl; have hgo := (show Iy C ((X1.setH i (gz (X1.H i) x.ke X.no)).aO i jB) ge ak from ⟨HGO.out.g, HGO.out.j, HGO.out.no, HGO.out.de⟩).start i key false []; have hgi := nX w0 w w11 B A A11 _ C R E P L HE.out HWB.out (HB10.out.trans b11) h11 (y := [(bw, kN ⟨ge, ak, 2⟩), (ba, .cells #[.int .i64 x.an.ve, .int .i64 x.an.bo, .int .i64 x.an.si, .string c.na] 105 (0, 0))]) k11 ⟨ge, ak, 2⟩ { x.an with fr := c.na } hgo (X' := X.aY C R P i key ge ak) (HCX.out _ (by rw [if_neg (by have := HNF.out; omega), HYE.out]; rfl)).symm; rw [(HWG.out 2).1, (HWG.out 2).2] at hgi; have HGI := Lr hgi; clear hgi hgo h11 k11 b11 hfb hab
       go_wp2_with (go_at_call 102; (with_reducible refine HGI.out.mono ?_); rintro e w9 ⟨A9, rfl, h9⟩)
       ((try simp only [Exit.inBlock, Exit.then]); refine bodyPost_ret (results_none rfl _ _ _) rfl ?_)
       exact ⟨A9, rfl, h9⟩
    ·have HNC := Lr hcl; clear HC7
     go_wp2_with (first | (go_at_call 145; (with_reducible refine HLV.out.mono ?_); rintro e w7 ⟨rfl, hb7⟩; have q11' := (hb7.cell (p := ⟨A.q, 11, none⟩) hql6).trans q11; have HB7 := Lr (HB6.out.bf hb7); clear hb7) | fail)
     go_meet
     exact ⟨by rw [HFE.out]; rfl, rfl, HB7.out, fun h => by rw [HHM.out, HU1.out] at h; have := h.2; have := HNC.out; omega⟩
  obtain ⟨rfl, rfl, TL⟩ := hcut; have hpc := HP3.out.below TL.out.1; have hbc : Below B w wc := HB3.out.trans (TL.out.1.mono HP3.out.base); have hfb := hpc.box (xs := A.x) (y := []) rfl; rw [HXO.out] at hfb; have n0 : wc.cell? ⟨bw, 0, none⟩ = some (.int .i64 gi) := af hfb 0 rfl; have n1 : wc.cell? ⟨bw, 1, none⟩ = some (.int .i64 3) := af hfb 1 rfl; have n2 : wc.cell? ⟨bw, 2, none⟩ = some (.int .i64 ai) := af hfb 2 rfl; have nf := cO hfb 1; clear HB6 hfb; cases hYe : Y with
  | none =>
   have hcx : X.aY C R P i key ge ak = X1.aA C i key false [⟨ge, ak, 3⟩] := by
    unfold Xd.aY; rw [if_neg (by rw [HRS.out]; simp), if_neg TL.out.2, ← HY.out, hYe, HX1.out]
   have HCX := Lr hcx; have hp5 := hpc.jf (kN ⟨ge, ak, 3⟩); have hst := pK w0 w _ B A _ X1 C R E P L HE.out HWB.out (hbc.alloc (Nat.le_trans HBB.out hbc.size) _) hp5 (y := [(bw, kN ⟨ge, ak, 3⟩)]) (bW.refl _) i key false HSO.out; rw [HXO.out] at hst; have HST := Lr hst; rw [show numO none = -1 from rfl]; clear hst hp5 hcx hpc hbc hYe TL
   go_wp2_with (go_at_call 148; (with_reducible refine HST.out.mono ?_); rintro e w5 ⟨A5, rfl, h5⟩)
   ((try simp only [Exit.inBlock, Exit.then]); refine bodyPost_ret (results_none rfl _ _ _) rfl ?_)
   rw [HCX.out]; exact ⟨A5, rfl, h5⟩
  | some j =>
   have hil8 : i < X1.ld.length := HSO.out.il; have hLd : X1.Ld i = dw ld := by rw [HX1.out, jI hil, if_pos rfl, HLK.out]
   obtain ⟨hc8, hf8, hg8⟩ := hpc.ldc HGV.out hil8; have l3 : wc.cell? ⟨g, i * 6 + 3, none⟩ = some (.int .i64 ld.wt) := hc8 3 _ (by show (lL (X1.Ld i))[3]? = _; rw [hLd]; rfl); have lf3 := hf8 (i * 6 + 3); have hbg : ¬ bw = g := fun e => by have := HBW.out; omega
   have hwt : IntKind.i64.wrap (ld.wt + 1) = ld.wt + 1 := IntWalk.i64_in _ (by omega); have hp9 := hpc.stL (i := i) hil8 (by rw [HGV.out, HX1.out]; show Value.slice _ _ _ = Value.slice _ (X.ld.set _ _).length _; rw [List.length_set]) 3 (.int .i64 (ld.wt + 1)) tZ (by decide) (by rw [hLd]; rfl); have hp8 : RD ((wc.setCell ⟨g, i * 6 + 3, none⟩ (.int .i64 (ld.wt + 1))).setCell ⟨bw, 1, none⟩ (.int .i64 4)) B { A with x := A.x ++ [(bw, kN ⟨ge, ak, 4⟩)] } (X1.aO i tZ) := hp9.setB (xs := A.x) (b := bw) (y := []) rfl 1 (.int .i64 4); have hb8 : Below B w ((wc.setCell ⟨g, i * 6 + 3, none⟩ (.int .i64 (ld.wt + 1))).setCell ⟨bw, 1, none⟩ (.int .i64 4)) := (hbc.setCell HG1.out _).setCell HBG.out _; obtain ⟨w8, hw8⟩ : ∃ w8, w8 = (wc.setCell ⟨g, i * 6 + 3, none⟩ (.int .i64 (ld.wt + 1))).setCell ⟨bw, 1, none⟩ (.int .i64 4) := ⟨_, rfl⟩
   rw [← hw8] at hp8 hb8; obtain ⟨hjl, hjd⟩ := Gs (HY.out.symm.trans hYe); have hjl2 : j < (X1.aO i tZ).ak.length := by rw [HX1.out]; exact hjl
   obtain ⟨v, hjk⟩ := hp8.at_ hjl2; have hKj : (X1.aO i tZ).K j = X.K j := by rw [HX1.out]; rfl
   rw [hKj] at hjk; obtain ⟨k, hk⟩ : ∃ k, k = X.K j := ⟨_, rfl⟩
   rw [← hk] at hjk; have hcx : X.aY C R P i key ge ak = (X1.aO i tZ).bT j { k with ws := k.ws ++ [⟨ge, ak, 4⟩] } := by
    unfold Xd.aY; rw [if_neg (by rw [HRS.out]; simp), if_neg TL.out.2, ← HY.out, hYe, HX1.out, hk]
    rfl
   have hjk' : A.ks[j]? = some (k, v) := hjk; have hne : A.ks ≠ [] := fun e => by rw [e] at hjk'; cases hjk'
   obtain ⟨gk, ck, hkv, hk1, hk2, hk3, hk4, hkc, hkf⟩ := Own.gZ bn hp8.asks hne; have hqb8 := hp8.qb.2; have q7 : w8.cell? ⟨A.q, 7, none⟩ = some (.slice (some ⟨gk, 0, none⟩) A.ks.length ck) := by rw [af hqb8 7 rfl]; exact congrArg some hkv
   have kv : w8.cell? ⟨gk, j * 14 + 13, none⟩ = some v := hkc j (k, v) 13 _ hjk rfl; have kf := hkf (j * 14 + 13); have hgq2 : ¬ gk = A.q := fun e => hp8.Ew.1 _ _ _ hkv e
   have hfx : (A.x ++ [(bw, kN ⟨ge, ak, 4⟩)])[A.x.length]? = some (bw, kN ⟨ge, ak, 4⟩) := by simp
   have hgb : ¬ gk = bw := fun e => (hp8.JB hfx).1 _ _ _ hkv e
   have hfb := hp8.fr hfx; rw [HXO.out] at hfb; have hbl := (Array.getElem?_eq_some_iff.1 hfb).1; have hql := (Array.getElem?_eq_some_iff.1 hqb8).1; have hjz : (j : Int) < (A.ks.length : Int) := by have := (List.getElem?_eq_some_iff.1 hjk').1; omega
   have hj0 : (0 : Int) ≤ (j : Int) := by omega
   have hj1 : ¬ (j : Int) < 0 := by omega
   obtain ⟨ws, hws⟩ : ∃ ws, ws = k.ws := ⟨_, rfl⟩
   have hwl : ws.length ≤ 1000000 := by rw [hws, hk]; exact HR.out.wl j hjl hjd
   have hwo : Own w8 B 177 3 oM v ws := by rw [hws]; exact hp8.wait hjk
   obtain ⟨vb, vn, vc, rfl⟩ := Own.slv bU hwo; have HSS : Hid (∀ W : World, Below w8.heap.size w8 W → W.cell? ⟨A.q, 7, none⟩ = some (.slice (some ⟨gk, 0, none⟩) A.ks.length ck) ∧ W.cell? ⟨bw, 0, none⟩ = some (.int .i64 gi) ∧ W.cell? ⟨bw, 1, none⟩ = some (.int .i64 4) ∧ W.cell? ⟨bw, 2, none⟩ = some (.int .i64 ai)) := Lr fun W hW => by
    have hb := (hW.block _ hbl).trans hfb; exact ⟨(hW.cell (p := ⟨A.q, 7, none⟩) hql).trans q7, af hb 0 rfl, af hb 1 rfl, af hb 2 rfl⟩
   have HKV : Hid (∀ W : World, Below w8.heap.size w8 W → W.cell? ⟨gk, j * 14 + 13, none⟩ = some (.slice vb vn vc)) := Lr fun W hW => (hW.cell (p := ⟨gk, j * 14 + 13, none⟩) hk2).trans kv
   have HFZ : Hid (∀ W : World, Below w8.heap.size w8 W → W.frozen? ⟨gk, j * 14 + 13, none⟩ = false) := Lr fun W hW => (hW.frozen (p := ⟨gk, j * 14 + 13, none⟩) hk2).trans kf
   have HCL : Hid (∀ W : World, Below w8.heap.size w8 W → Calls Tryz.prog 150 #[.slice vb vn vc] W (gI W 177 3 oM ws)) := Lr fun W hW => zt W ws _ ((hwo.sl bU).below hW (Ls _)) (by omega)
   have HBQ : Hid (Below w8.heap.size w8 w8.drew) := Lr (LD _ w8).drew; have HXA : Hid ((oM ⟨ge, ak, 4⟩).all Value.oneCell' = true) := Lr rfl; have HXE4 : Hid (Obj.cells (oM ⟨ge, ak, 4⟩).toArray 177 (0, 0) = .cells #[.int .i64 gi, .int .i64 4, .int .i64 ai] 177 (0, 0)) := Lr (HXO.out 4); have HWL : Hid (ws.length * 24 ≤ 140737488355328) := Lr (by omega); have HST : Hid (∀ (W : World) (u : Value), (W.cell? ⟨A.q, 7, none⟩ = some (.slice (some ⟨gk, 0, none⟩) A.ks.length ck) ∧ W.cell? ⟨bw, 0, none⟩ = some (.int .i64 gi) ∧ W.cell? ⟨bw, 1, none⟩ = some (.int .i64 4) ∧ W.cell? ⟨bw, 2, none⟩ = some (.int .i64 ai)) → (W.setCell ⟨gk, j * 14 + 13, none⟩ u).cell? ⟨A.q, 7, none⟩ = some (.slice (some ⟨gk, 0, none⟩) A.ks.length ck) ∧ (W.setCell ⟨gk, j * 14 + 13, none⟩ u).cell? ⟨bw, 0, none⟩ = some (.int .i64 gi) ∧ (W.setCell ⟨gk, j * 14 + 13, none⟩ u).cell? ⟨bw, 1, none⟩ = some (.int .i64 4) ∧ (W.setCell ⟨gk, j * 14 + 13, none⟩ u).cell? ⟨bw, 2, none⟩ = some (.int .i64 ai)) := Lr fun W u hS =>
    ⟨(World.cell?_setCell_far W _ _ u hgq2).trans hS.1, (World.cell?_setCell_far W _ _ u hgb).trans hS.2.1, (World.cell?_setCell_far W _ _ u hgb).trans hS.2.2.1, (World.cell?_setCell_far W _ _ u hgb).trans hS.2.2.2⟩
   have HFN : Hid (∀ (W : World) (u : Value), Own W w8.heap.size 177 3 oM u (ws ++ [⟨ge, ak, 4⟩]) → Below w8.heap.size w8 W → jg w B A (X.aY C R P i key ge ak) (.returned (.tuple #[])) (W.setCell ⟨gk, j * 14 + 13, none⟩ u)) := Lr fun W u ho hb => by
    have hpW := hp8.below hb; have ho2 := hpW.asks; have ho3 : Own (W.setCell ⟨gk, j * 14 + 13, none⟩ u) B 171 14 lK A.kv (A.ks.set j ({ k with ws := ws ++ [⟨ge, ak, 4⟩] }, u)) := by
     have hkv' : A.kv = .slice (some ⟨gk, 0, none⟩) A.ks.length ck := hkv; have ho2' : Own W B 171 14 lK A.kv A.ks := ho2; rw [hkv'] at ho2' ⊢; exact Own.store bn ho2' rfl hjk' (by decide) rfl
    have hR := hp8.GG (p := (k, .slice vb vn vc)) hkv hjk ho (Ls _) hb ho3; rw [hcx]; exact jg.mk (y := [(bw, kN ⟨ge, ak, 4⟩)]) rfl hR (by rw [hws]) ⟨rfl, rfl, rfl, rfl, rfl, rfl, rfl, rfl, rfl, rfl⟩ ((hb8.trans (hb.mono hp8.base)).setCell hk1 _)
   have HW8 := Lr hw8; clear hpc hbc TL hil8 hLd hc8 hf8 hg8 hp9 hp8 hb8 hw8 hjl hjd hjl2 hjk hKj hk hcx hjk' hne hkv hkc hkf hqb8 hfx hfb hbl hql hws hwl hwo hYe; rw [show numO (some j) = (j : Int) from rfl]
   go_upto_region 25 with (fail)
   rw [← HW8.out]; refine wp_region_held_drew (S := fun W => W.cell? ⟨A.q, 7, none⟩ = some (.slice (some ⟨gk, 0, none⟩) A.ks.length ck) ∧ W.cell? ⟨bw, 0, none⟩ = some (.int .i64 gi) ∧ W.cell? ⟨bw, 1, none⟩ = some (.int .i64 4) ∧ W.cell? ⟨bw, 2, none⟩ = some (.int .i64 ai)) (by kernel_rfl) (HSS.out _ HBQ.out) (fun hHeld => ?_); refine tkS 0 146 hHeld ?_
   try simp only [pu]
   refine tkS 1 147 hHeld ?_
   try simp only [pu]
   refine tkS 2 148 hHeld ?_
   try simp only [pu]
   refine tkS 3 149 hHeld ?_
   try simp only [pu]
   refine tkS 4 150 hHeld ?_
   try simp only [pu]
   refine tkS 5 151 hHeld ?_
   try simp only [pu]
   refine tkS 6 152 hHeld ?_
   try simp only [pu]
   refine tkS 7 153 hHeld ?_
   try simp only [pu]
   refine tkS 8 154 hHeld ?_
   try simp only [pu]
   refine tkS 9 155 hHeld ?_
   try simp only [pu]
   refine tkS 10 156 hHeld ?_
   try simp only [pu]
   refine tkS 11 157 hHeld ?_
   try simp only [pu]
   refine tkS 14 160 hHeld ?_
   try simp only [pu]
   refine wpAnyH_ready (rs := [12, 15]) (by kernel_rfl) (by simp) (AllReadyH.cons rfl (fun K hK => ?_) (AllReadyH.cons rfl (fun K hK => ?_) AllReadyH.nil))
   ·have yv := HKV.out _ HBQ.out
    go_simp
    refine hK.out _ _ (HSS.out _ HBQ.out) (fun hHeld => ?_); clear hK K
    try simp only [pu]
    refine wpAnyH_ready (rs := [13, 15]) (by kernel_rfl) (by simp) (AllReadyH.cons rfl (fun K hK => ?_) (AllReadyH.cons rfl (fun K hK => ?_) AllReadyH.nil))
    ·rw [if_pos (by rfl)]
     go_simp
     go_at_call 150
     refine (HCL.out _ HBQ.out).mono ?_; rintro e w9 ⟨v9, rfl, ho9, hb9⟩; have HB9 := Lr (HBQ.out.bf hb9); have HO9 := Lr (Own.jm ho9 HBQ.out.size); have HB90 := Lr hb9; clear ho9 hb9; obtain ⟨aw, nw, cw, rfl⟩ := Own.slv bU HO9.out; refine hK.out _ _ (HSS.out _ HB9.out) (fun hHeld => ?_); clear hK K
     try simp only [pu]
     refine wpAnyH_ready (rs := [15]) (by kernel_rfl) (by simp) (AllReadyH.cons rfl (fun K hK => ?_) AllReadyH.nil); have HBA := Lr (HB9.out.alloc HB9.out.size (.cells #[.int .i64 gi, .int .i64 4, .int .i64 ai] 177))
     go_simp
     refine hK.out _ _ (HSS.out _ HBA.out) (fun hHeld => ?_); clear hK K
     try simp only [pu]
     refine wpAnyH_ready (rs := [16]) (by kernel_rfl) (by simp) (AllReadyH.cons rfl (fun K hK => ?_) AllReadyH.nil); refine aW (enc := oM) (v := .slice aw nw cw) (l := ws) rfl (.tmp 159) (.tmp 161) 169 rfl slX (by decide) rfl rfl ⟨ge, ak, 4⟩ rfl HXA.out (HO9.out.al _) (by rw [HXE4.out]; exact ag _ _) HWL.out HBA.out.size ?_; intro v10 w10 ho10 hb10 hk10; have HB10 := Lr (HBA.out.trans hb10); have HO10 := Lr ho10; clear ho10 hb10 hk10; obtain ⟨ax, nx, cx, rfl⟩ := Own.slv bU HO10.out; have yf := HFZ.out _ HB10.out; have yk := HKV.out _ HB10.out; refine hK.out _ _ (HSS.out _ HB10.out) (fun hHeld => ?_); clear hK K
     try simp only [pu]
     refine tkS 17 163 hHeld ?_
     try simp only [pu]
     refine tkS 18 164 hHeld ?_
     try simp only [pu]
     refine wpAnyH_ready (rs := [19]) (by kernel_rfl) (by simp) (AllReadyH.cons rfl (fun K hK => ?_) AllReadyH.nil)
     go_simp
     refine hK.out _ _ (HST.out _ _ (HSS.out _ HB10.out)) (fun hHeld => ?_); clear hK K
     try simp only [pu]
     refine wpAnyH_done (by kernel_rfl) ?_ _
     go_wp2_with fail
     ((try simp only [Exit.inBlock, Exit.then]); refine bodyPost_ret (results_none rfl _ _ _) rfl ?_)
     exact HFN.out _ _ HO10.out HB10.out
    ·have HBA := Lr (HBQ.out.alloc HBQ.out.size (.cells #[.int .i64 gi, .int .i64 4, .int .i64 ai] 177))
     go_simp
     refine hK.out _ _ (HSS.out _ HBA.out) (fun hHeld => ?_); clear hK K
     try simp only [pu]
     refine wpAnyH_ready (rs := [13]) (by kernel_rfl) (by simp) (AllReadyH.cons rfl (fun K hK => ?_) AllReadyH.nil); rw [if_pos (by rfl)]
     go_simp
     go_at_call 150
     refine (HCL.out _ HBA.out).mono ?_; rintro e w9 ⟨v9, rfl, ho9, hb9⟩; have HB9 := Lr (HBA.out.bf hb9); have HO9 := Lr (Own.jm ho9 HBA.out.size); have HB90 := Lr hb9; clear ho9 hb9; obtain ⟨aw, nw, cw, rfl⟩ := Own.slv bU HO9.out; refine hK.out _ _ (HSS.out _ HB9.out) (fun hHeld => ?_); clear hK K
     try simp only [pu]
     refine wpAnyH_ready (rs := [16]) (by kernel_rfl) (by simp) (AllReadyH.cons rfl (fun K hK => ?_) AllReadyH.nil); refine aW (enc := oM) (v := .slice aw nw cw) (l := ws) rfl (.tmp 159) (.tmp 161) 169 rfl slX (by decide) rfl rfl ⟨ge, ak, 4⟩ rfl HXA.out HO9.out (by rw [HXE4.out]; exact (HB90.out.block _ (by simp)).trans (ag _ _)) HWL.out HB9.out.size ?_; intro v10 w10 ho10 hb10 hk10; have HB10 := Lr (HB9.out.trans hb10); have HO10 := Lr ho10; clear ho10 hb10 hk10; obtain ⟨ax, nx, cx, rfl⟩ := Own.slv bU HO10.out; have yf := HFZ.out _ HB10.out; have yk := HKV.out _ HB10.out; refine hK.out _ _ (HSS.out _ HB10.out) (fun hHeld => ?_); clear hK K
     try simp only [pu]
     refine tkS 17 163 hHeld ?_
     try simp only [pu]
     refine tkS 18 164 hHeld ?_
     try simp only [pu]
     refine wpAnyH_ready (rs := [19]) (by kernel_rfl) (by simp) (AllReadyH.cons rfl (fun K hK => ?_) AllReadyH.nil)
     go_simp
     refine hK.out _ _ (HST.out _ _ (HSS.out _ HB10.out)) (fun hHeld => ?_); clear hK K
     try simp only [pu]
     refine wpAnyH_done (by kernel_rfl) ?_ _
     go_wp2_with fail
     ((try simp only [Exit.inBlock, Exit.then]); refine bodyPost_ret (results_none rfl _ _ _) rfl ?_)
     exact HFN.out _ _ HO10.out HB10.out
   ·have HBA := Lr (HBQ.out.alloc HBQ.out.size (.cells #[.int .i64 gi, .int .i64 4, .int .i64 ai] 177))
    go_simp
    refine hK.out _ _ (HSS.out _ HBA.out) (fun hHeld => ?_); clear hK K
    try simp only [pu]
    refine wpAnyH_ready (rs := [12]) (by kernel_rfl) (by simp) (AllReadyH.cons rfl (fun K hK => ?_) AllReadyH.nil); have yv := HKV.out _ HBA.out
    go_simp
    refine hK.out _ _ (HSS.out _ HBA.out) (fun hHeld => ?_); clear hK K
    try simp only [pu]
    refine wpAnyH_ready (rs := [13]) (by kernel_rfl) (by simp) (AllReadyH.cons rfl (fun K hK => ?_) AllReadyH.nil); rw [if_pos (by rfl)]
    go_simp
    go_at_call 150
    refine (HCL.out _ HBA.out).mono ?_; rintro e w9 ⟨v9, rfl, ho9, hb9⟩; have HB9 := Lr (HBA.out.bf hb9); have HO9 := Lr (Own.jm ho9 HBA.out.size); have HB90 := Lr hb9; clear ho9 hb9; obtain ⟨aw, nw, cw, rfl⟩ := Own.slv bU HO9.out; refine hK.out _ _ (HSS.out _ HB9.out) (fun hHeld => ?_); clear hK K
    try simp only [pu]
    refine wpAnyH_ready (rs := [16]) (by kernel_rfl) (by simp) (AllReadyH.cons rfl (fun K hK => ?_) AllReadyH.nil); refine aW (enc := oM) (v := .slice aw nw cw) (l := ws) rfl (.tmp 159) (.tmp 161) 169 rfl slX (by decide) rfl rfl ⟨ge, ak, 4⟩ rfl HXA.out HO9.out (by rw [HXE4.out]; exact (HB90.out.block _ (by simp)).trans (ag _ _)) HWL.out HB9.out.size ?_; intro v10 w10 ho10 hb10 hk10; have HB10 := Lr (HB9.out.trans hb10); have HO10 := Lr ho10; clear ho10 hb10 hk10; obtain ⟨ax, nx, cx, rfl⟩ := Own.slv bU HO10.out; have yf := HFZ.out _ HB10.out; have yk := HKV.out _ HB10.out; refine hK.out _ _ (HSS.out _ HB10.out) (fun hHeld => ?_); clear hK K
    try simp only [pu]
    refine tkS 17 163 hHeld ?_
    try simp only [pu]
    refine tkS 18 164 hHeld ?_
    try simp only [pu]
    refine wpAnyH_ready (rs := [19]) (by kernel_rfl) (by simp) (AllReadyH.cons rfl (fun K hK => ?_) AllReadyH.nil)
    go_simp
    refine hK.out _ _ (HST.out _ _ (HSS.out _ HB10.out)) (fun hHeld => ?_); clear hK K
    try simp only [pu]
    refine wpAnyH_done (by kernel_rfl) ?_ _
    go_wp2_with fail
    ((try simp only [Exit.inBlock, Exit.then]); refine bodyPost_ret (results_none rfl _ _ _) rfl ?_)
    exact HFN.out _ _ HO10.out HB10.out
def lgX (y x : Xh) : Bool := decide (y.us < x.us) || (decide (y.us = x.us) && Op.bytesLess y.ke.toList x.ke.toList)
def lD (l : List Xh) : Nat → Nat
 | 0 => 0
 | k + 1 => if lgX (l.getD k default) (l.getD (lD l k) default) = true then k else lD l k
theorem getD_some {α : Type} [Inhabited α] {l : List α} {k : Nat} (h : k < l.length) : l[k]? = some (l.getD k default) := by
 rw [Lt, Lu h]; rfl
theorem mO {l : List Xh} (h : l ≠ []) : ∀ {k : Nat}, k ≤ l.length → lD l k < l.length
 | 0, _ => List.length_pos_iff.2 h
 | k + 1, hk => by
  unfold lD; split
  ·omega
  ·exact mO h (by omega)
theorem oh {α β : Type} {l : List α} {f : β → α → β} {a : β} {k : Nat} {x : α} (hx : l[k]? = some x) : (l.take (k + 1)).foldl f a = f ((l.take k).foldl f a) x := by
 rw [List.take_add_one, hx, List.foldl_append]; rfl
theorem vU {l : List Xh} {f : ByteArray → Hld} (hf : ∀ x, x ∈ l → (f x.ke).us = x.us) (h : l ≠ []) : ∀ {k : Nat}, k ≤ l.length → (l.getD (lD l k) default).ke = ((l.map Xh.ke).take k).foldl (fun x y => if lgB f y x = true then y else x) ((l.map Xh.ke).headD ⟨#[]⟩)
 | 0, _ => by
  cases l with
  | nil => exact absurd rfl h
  | cons a l => rfl
 | k + 1, hk => by
  have ih := vU hf h (k := k) (by omega); have hx := getD_some (l := l) (k := k) (by omega); have hy := getD_some (l := l) (mO h (k := k) (by omega)); have hm : (l.map Xh.ke)[k]? = some (l.getD k default).ke := by rw [List.getElem?_map, hx]; rfl
  rw [oh hm, ← ih]; have e : lgB f (l.getD k default).ke (l.getD (lD l k) default).ke = lgX (l.getD k default) (l.getD (lD l k) default) := by
   unfold lgB lgX; rw [hf _ (List.mem_of_getElem? hx), hf _ (List.mem_of_getElem? hy)]
   congr 2
  rw [e, lD]; split <;> rfl
def evL (ro nd : Int) : Nat → List Xh → List Xh
 | 0, l => l
 | g + 1, l => if ro < lS l + nd then evL ro nd g (l.eraseIdx (lD l l.length)) else l
theorem C9 {ro nd : Int} : ∀ {g : Nat}, evL ro nd g [] = []
 | 0 => rfl
 | g + 1 => by
  unfold evL; split
  ·show evL ro nd g [] = []; exact C9
  ·rfl
theorem EZ {ro nd : Int} {l : List Xh} (h : ¬ ro < lS l + nd) : ∀ {g : Nat}, evL ro nd g l = l
 | 0 => rfl
 | g + 1 => by unfold evL; rw [if_neg h]
theorem EY {ro nd : Int} {g : Nat} {l : List Xh} (h : ro < lS l + nd) : evL ro nd (g + 1) l = evL ro nd g (l.eraseIdx (lD l l.length)) := by
 rw [evL, if_pos h]
theorem oD : ∀ {l : List Xh} (_ : (l.map Xh.ke).Nodup) {n : Nat} {x : Xh}, l[n]? = some x → l.eraseIdx n = eH l x.ke
 | [], _, n, x, hx => by simp at hx
 | a :: l, hn, 0, x, hx => by
  have e : a = x := by simpa using hx
  subst e; rw [List.map_cons, List.nodup_cons] at hn; show l = eH (a :: l) a.ke
  unfold eH; rw [List.filter_cons_of_neg (by simp), List.filter_eq_self.2]; intro y hy; have : y.ke ≠ a.ke := fun e => hn.1 (e ▸ List.mem_map_of_mem (f := Xh.ke) hy)
  simp [this]
 | a :: l, hn, n + 1, x, hx => by
  have hx' : l[n]? = some x := by simpa using hx
  rw [List.map_cons, List.nodup_cons] at hn; have hne : a.ke ≠ x.ke := fun e => hn.1 (e ▸ List.mem_map_of_mem (f := Xh.ke) (List.mem_of_getElem? hx'))
  show a :: l.eraseIdx n = eH (a :: l) x.ke
  rw [oD hn.2 hx']; unfold eH; rw [List.filter_cons_of_pos (by simp [hne])]
theorem xX {l : List Xh} {k : ByteArray} (h : onH l k = false) : eH l k = l := by
 unfold eH; rw [List.filter_eq_self]; intro x hx; have : x.ke ≠ k := fun e => by
  have := kM.2 ⟨x, hx, e⟩; rw [h] at this; cases this
 simp [this]
theorem Dc {f : ByteArray → Hld} {ro nd : Int} : ∀ {g : Nat} {m : List Xh}, (m.map Xh.ke).Nodup → (∀ x, x ∈ m → f x.ke = ⟨x.an, x.us⟩) → evL ro nd g m = m.filter fun h => onL h.ke (evK f ro nd g (m.map Xh.ke))
 | 0, m, _, _ => by
  unfold evL evK; rw [eq_comm, List.filter_eq_self]; intro x hx; exact bF.2 (List.mem_map_of_mem hx)
 | g + 1, m, hn, hf => by
  have ht : gB f (m.map Xh.ke) = lS m := sH (l := m) m fun x hx => by rw [hf x hx]
  unfold evL evK; rw [ht]; by_cases hr : ro < lS m + nd
  ·rw [if_pos hr, if_pos hr]; by_cases hm : m = []
   ·subst hm; show evL ro nd g [] = []
    exact C9
   ·have hw := mO hm (Ls m.length); have hx := getD_some hw; have hz : Ip f (m.map Xh.ke) = (m.getD (lD m m.length) default).ke := by
     have h := vU (f := f) (fun x hx => by rw [hf x hx]) hm (Ls m.length); rw [h, List.take_of_length_le (by rw [List.length_map]; exact Ls _)]
     rfl
    rw [hz, oD hn hx, ← dW]; generalize (m.getD (lD m m.length) default).ke = z; have hn2 : ((eH m z).map Xh.ke).Nodup := by rw [dW]; exact bJ hn
    rw [Dc (m := eH m z) hn2 (fun x hx => hf x (List.mem_filter.1 hx).1)]; generalize hE : evK f ro nd g ((eH m z).map Xh.ke) = E; show (m.filter _).filter _ = m.filter _
    rw [List.filter_filter]; apply List.filter_congr; intro y hy; cases hp : onL y.ke E
    ·simp
    ·have h1 := bF.1 hp; rw [← hE] at h1; have h2 := rD h1; rw [dW, aU] at h2; simp [h2.2]
  ·rw [if_neg hr, if_neg hr, eq_comm, List.filter_eq_self]; intro x hx; exact bF.2 (List.mem_map_of_mem hx)
theorem Ht {l : List Xh} (hn : (l.map Xh.ke).Nodup) (ro nd : Int) : evX l ro nd = evL ro nd l.length l :=
 (Dc (f := gY l) hn fun _ hx => nT hn hx).symm
theorem Bi {l : List Xh} (hn : (l.map Xh.ke).Nodup) {k : ByteArray} {n : Nat} (h : plI l k = some n) : l.eraseIdx n = eH l k := by
 obtain ⟨x, h1, h2, -⟩ := jO hn h; rw [oD hn h1, h2]
theorem nG {a : Ans} (h : dF a) : aT a = max a.si 1 := by
 unfold aT; cases hn : a.no
 ·have := h.s1 hn; rw [if_neg (by simp)]; omega
 ·have := h.s0 hn; rw [if_pos rfl]; omega
section
variable {C : List Cch} {R : List Crl} {P : List Pur} {X : Xd}
theorem BF {i : Nat} {key : ByteArray} {a : Ans} (h : plI (X.H i) key = none) : X.wV R P i key a = (decide (a.bo < fQ P key X.no) || decide (eG (kE R key) a true ≤ X.no)) := by
 unfold Xd.wV; rw [lU h, Bool.false_and, Bool.false_or]
theorem BD {i n : Nat} {key : ByteArray} {a : Ans} {x : Xh} (hn : ((X.H i).map Xh.ke).Nodup) (h : plI (X.H i) key = some n) (hx : (X.H i)[n]? = some x) : X.wV R P i key a = (decide (a.bo < x.an.bo) || (decide (a.bo < fQ P key X.no) || decide (eG (kE R key) a true ≤ X.no))) := by
 obtain ⟨y, h1, h2, h3, h4⟩ := jO hn h; rw [hx] at h1; cases h1
 unfold Xd.wV; rw [h3, h4, Bool.true_and]
theorem Ce {i : Nat} {key : ByteArray} {a : Ans} (h : X.wV R P i key a = true) : X.dS C R P i key a = X := by
 unfold Xd.dS; rw [if_pos h]
theorem Cf {i : Nat} {key : ByteArray} {a : Ans} (h : X.wV R P i key a = false) (hr : (C.getD i default).ro < aT a) : X.dS C R P i key a = X.setH i (eH (X.H i) key) := by
 unfold Xd.dS; rw [if_neg (by simp [h]), if_pos hr]
theorem Cc {i : Nat} {key : ByteArray} {a : Ans} (hn : ((X.H i).map Xh.ke).Nodup) (h : X.wV R P i key a = false) (hr : ¬ (C.getD i default).ro < aT a) : X.dS C R P i key a = X.setH i (evL (C.getD i default).ro (aT a) (eH (X.H i) key).length (eH (X.H i) key) ++ [⟨key, a, X.no⟩]) := by
 unfold Xd.dS; rw [if_neg (by simp [h]), if_neg hr, Ht (by rw [dW]; exact bJ hn)]
end
end Go.Proofs.YtgohddfnhofjhaaGreatDoor

/- Len, Less, Swap of events: the walks. -/
import Derived.Test.YtgohddfnhofjhaaGreatDoorK02
import Derived.Deep.RegionHeld3
import Derived.BigQuiet
import Derived.BigRegion
import Derived.Deep.RegionWith
import Derived.Test.YtgohddfnhofjhaaGreatDoorK01
set_option maxRecDepth 100000
set_option maxHeartbeats 4000000
namespace Go.Proofs.YtgohddfnhofjhaaGreatDoor
open Go.RowKit
structure Ans where
 ve : Int
 bo : Int
 si : Int
 no : Bool
 fr : ByteArray
instance : Inhabited Ans := ⟨⟨0, 0, 0, false, ⟨#[]⟩⟩⟩
structure Akn where
 ca : Nat
 ma : Int
 ke : ByteArray
 kp : Bool
instance : Inhabited Akn := ⟨⟨0, 0, ⟨#[]⟩, false⟩⟩
structure Evn where
 ti : Int
 bk : Bool
 ak : Nat
 an : Ans
instance : Inhabited Evn := ⟨⟨0, false, 0, default⟩⟩
def fV (a : Nat → Nat) (e : Evn) : List Value := [.int .i64 e.ti, .bool e.bk, .pointer (some ⟨a e.ak, 0, none⟩), .int .i64 e.an.ve, .int .i64 e.an.bo, .int .i64 e.an.si, .bool e.an.no, .string e.an.fr]
theorem dJ (a : Nat → Nat) (e : Evn) : (fV a e).length = 8 := rfl
theorem zo {a b : Nat → Nat} {e : Evn} (h : a e.ak = b e.ak) : fV a e = fV b e := by unfold fV; rw [h]
def bfr (K : Nat → Akn) (e o : Evn) : Bool :=
 if e.ti ≠ o.ti then decide (e.ti < o.ti)
 else if e.bk ≠ o.bk then e.bk
 else if (K e.ak).ca ≠ (K o.ak).ca then decide ((K e.ak).ca < (K o.ak).ca)
 else if ((K e.ak).ke.toList == (K o.ak).ke.toList) = false then Op.bytesLess (K e.ak).ke.toList (K o.ak).ke.toList
 else decide (e.ak < o.ak)
section
variable {α : Type} [Inhabited α]
def hat (l : List α) (i : Nat) : α := l.getD i default
def hsw (l : List α) (i j : Nat) : List α := (l.set i (hat l j)).set j (hat l i)
def hup (lt : α → α → Bool) : Nat → Nat → List α → List α
 | 0, _, l => l
 | g + 1, j, l => if j = 0 then l else if lt (hat l j) (hat l ((j - 1) / 2)) = true then hup lt g ((j - 1) / 2) (hsw l ((j - 1) / 2) j) else l
def qj (lt : α → α → Bool) (n i : Nat) (l : List α) : Nat := if 2 * i + 2 < n ∧ lt (hat l (2 * i + 2)) (hat l (2 * i + 1)) = true then 2 * i + 2 else 2 * i + 1
def hdn (lt : α → α → Bool) (n : Nat) : Nat → Nat → List α → List α
 | 0, _, l => l
 | g + 1, i, l => if n ≤ 2 * i + 1 then l else if lt (hat l (qj lt n i l)) (hat l i) = true then hdn lt n g (qj lt n i l) (hsw l i (qj lt n i l)) else l
def hpush (lt : α → α → Bool) (l : List α) (x : α) : List α := hup lt (l.length + 1) l.length (l ++ [x])
def dD (lt : α → α → Bool) (l : List α) : List α := hdn lt (l.length - 1) l.length 0 (hsw l 0 (l.length - 1))
def hpop (lt : α → α → Bool) (l : List α) : α × List α := (hat (dD lt l) (l.length - 1), (dD lt l).take (l.length - 1))
theorem bg (l : List α) (i j : Nat) : (hsw l i j).length = l.length := by simp [hsw]
theorem CE (lt : α → α → Bool) : ∀ g j (l : List α), (hup lt g j l).length = l.length
 | 0, _, _ => rfl
 | g + 1, j, l => by
  unfold hup; split
  ·rfl
  ·split
   ·rw [CE lt g, bg]
   ·rfl
theorem vg (lt : α → α → Bool) (n : Nat) : ∀ g i (l : List α), (hdn lt n g i l).length = l.length
 | 0, _, _ => rfl
 | g + 1, i, l => by
  unfold hdn; split
  ·rfl
  ·split
   ·rw [vg lt n g, bg]
   ·rfl
theorem fA {l : List α} {i : Nat} (h : i < l.length) : l[i]? = some (hat l i) := by
 unfold hat; rw [Lt, Lu h]
 rfl
end
def Onl (P : Nat) (w w' : World) : Prop := w.grownBy w' (some P)
theorem Onl.refl (P : Nat) (w : World) : Onl P w w := ⟨rfl, rfl, rfl, Ls _, fun _ _ _ => rfl⟩
theorem Onl.size {P : Nat} {a b : World} (h : Onl P a b) : a.heap.size ≤ b.heap.size := World.grownBy.size h
theorem Onl.trans {P : Nat} {a b c : World} (h : Onl P a b) (k : Onl P b c) : Onl P a c :=
 ⟨(World.grownBy.os k).trans (World.grownBy.os h), (World.grownBy.tape k).trans (World.grownBy.tape h), (World.grownBy.output k).trans (World.grownBy.output h), Nat.le_trans h.size k.size, fun i hi hP =>
  (World.grownBy.block k i (Nat.lt_of_lt_of_le hi h.size) hP).trans (World.grownBy.block h i hi hP)⟩
theorem Onl.of_below {P : Nat} {a b : World} (h : Below a.heap.size a b) : Onl P a b := ⟨h.os, h.tape, h.output, h.size, fun i hi _ => h.block i hi⟩
theorem Onl.below {P : Nat} {a b c : World} (h : Onl P a b) (k : Below b.heap.size b c) : Onl P a c := h.trans (.of_below k)
theorem Onl.set (P : Nat) (w : World) (o : Nat) (v : Value) : Onl P w (w.setCell ⟨P, o, none⟩ v) :=
 ⟨rfl, rfl, rfl, by simp, fun i _ hP => Below.heap_setCell w ⟨P, o, none⟩ v i (fun e => hP (by rw [e]))⟩
theorem Onl.block {P : Nat} {a b : World} (h : Onl P a b) {i : Nat} {o : Obj} (hi : a.heap[i]? = some o) (hP : i ≠ P) : b.heap[i]? = some o :=
 (World.grownBy.block h i (Array.getElem?_eq_some_iff.1 hi).1 (fun e => hP (by simpa using e))).trans hi
theorem Onl.dK {P B : Nat} {a b : World} (h : Onl P a b) (hB : B ≤ a.heap.size) (hP : B ≤ P) : Below B a b :=
 (LD B a).grown h hB (fun k hk => by simp only [Option.some.injEq] at hk; omega)
def df (P : Nat) (v : Value) : Prop := ∀ a n c, v = .slice (some a) n c → a.block ≠ P
theorem df.nil (P : Nat) : df P (.slice none 0 0) := fun a n c h => by simp at h
theorem df.mk {P b o n c : Nat} (h : b ≠ P) : df P (.slice (some ⟨b, o, none⟩) n c) := fun a n c e => by
 simp only [Value.slice.injEq, Option.some.injEq] at e
 obtain ⟨rfl, _⟩ := e; exact h
theorem Own.df {α : Type} {w : World} {base P : Nat} {E : TypeId} {k : Nat} {enc : α → List Value} {v : Value} {l : List α} (h : Own w base E k enc v l) (hP : P < base) : df P v := by
 obtain ⟨_, h2⟩ := h; rcases h2 with ⟨rfl, _⟩ | ⟨g, cap, cur, rfl, hg, _⟩
 ·exact .nil P
 ·exact .mk (by omega)
theorem Sl.onl {α : Type} {w w' : World} {P k : Nat} {enc : α → List Value} {v : Value} {l : List α} (h : Sl w k enc v l) (hv : df P v) (ho : Onl P w w') : Sl w' k enc v l := by
 obtain ⟨ao, cap, rfl, h2, h3, h4, h5⟩ := h; refine ⟨ao, cap, rfl, h2, h3, h4, fun i x hx => ?_⟩; obtain ⟨b, off, rfl, hc⟩ := h5 i x hx; refine ⟨b, off, rfl, fun j u hu => ?_⟩; have hcell := hc j u hu; exact (World.grownBy.cell ho hcell (fun e => hv _ _ _ rfl (by simpa using e)))
theorem tY {w : World} {i : Nat} {o : Obj} (h : w.heap[i]? = some o) : i < w.heap.size := (Array.getElem?_eq_some_iff.1 h).1
structure rU (W : World) (a : Nat → Nat) (K : Nat → Akn) (j : Nat) : Prop where
 c0 : W.cell? ⟨a j, 0, none⟩ = some (.int .i64 ((K j).ca : Nat))
 c1 : W.cell? ⟨a j, 1, none⟩ = some (.int .i64 (j : Nat))
 c3 : W.cell? ⟨a j, 3, none⟩ = some (.string (K j).ke)
theorem rU.below {W W' : World} {a : Nat → Nat} {K : Nat → Akn} {j : Nat} (h : rU W a K j) (hb : Below W.heap.size W W') : rU W' a K j :=
 ⟨(hb.cell (p := ⟨a j, 0, none⟩) (LC W _ h.c0)).trans h.c0, (hb.cell (p := ⟨a j, 1, none⟩) (LC W _ h.c1)).trans h.c1, (hb.cell (p := ⟨a j, 3, none⟩) (LC W _ h.c3)).trans h.c3⟩
theorem xQ {w : World} {b : Nat} {T : TypeId} {x0 x1 x2 x3 x4 x5 x6 x7 : Value} (h : w.heap[b]? = some (.cells #[x0, x1, x2, x3, x4, x5, x6, x7] T (0, 0))) :
 w.cell? ⟨b, 0, none⟩ = some x0 ∧ w.cell? ⟨b, 1, none⟩ = some x1 ∧ w.cell? ⟨b, 2, none⟩ = some x2 :=
 ⟨(cell_of_block (i := 0) h).trans rfl, (cell_of_block (i := 1) h).trans rfl, (cell_of_block (i := 2) h).trans rfl⟩
theorem zC (w : World) (a : Nat → Nat) (K : Nat → Akn) (e o : Evn) (he : rU w a K e.ak) (ho : rU w a K o.ak) :
 Calls Tryz.prog 201 #[.agg (fV a e).toArray, .agg (fV a o).toArray] w fun r w' => r = .returned (.bool (bfr K e o)) ∧ Below w.heap.size w w' := by
 obtain ⟨w2, hw2⟩ : ∃ w2, w2 = (w.alloc (.cells (fV a e).toArray 133)).alloc (.cells (fV a o).toArray 133) := ⟨_, rfl⟩
 have HB : Hid (Below w.heap.size w w2) := Lr (by rw [hw2]; exact ((LD _ w).alloc (Ls _) _).alloc (by simp) _); have b1 : w2.heap[w.heap.size]? = some (.cells (fV a e).toArray 133 (0, 0)) := by
  have h0 := ag w (.cells (fV a e).toArray 133 (0, 0)); rw [hw2]; exact (Below.heap_alloc _ _ _ (Array.getElem?_eq_some_iff.1 h0).1).trans h0
 have b2 : w2.heap[w.heap.size + 1]? = some (.cells (fV a o).toArray 133 (0, 0)) := by
  have h0 := ag (w.alloc (.cells (fV a e).toArray 133)) (.cells (fV a o).toArray 133 (0, 0)); rw [hw2]
  simpa using h0
 obtain ⟨p0, p1, p2⟩ := xQ b1; obtain ⟨q0, q1, q2⟩ := xQ b2; obtain ⟨e0, e1, e3⟩ := he.below HB.out; obtain ⟨o0, o1, o3⟩ := ho.below HB.out; have HV : Hid (bfr K e o = if e.ti ≠ o.ti then decide (e.ti < o.ti) else if e.bk ≠ o.bk then e.bk else if (K e.ak).ca ≠ (K o.ak).ca then decide ((K e.ak).ca < (K o.ak).ca) else if ((K e.ak).ke.toList == (K o.ak).ke.toList) = false then Op.bytesLess (K e.ak).ke.toList (K o.ak).ke.toList else decide (e.ak < o.ak)) := Lr rfl; have HW2 : Hid (w2 = (w.alloc (.cells #[.int .i64 e.ti, .bool e.bk, .pointer (some ⟨a e.ak, 0, none⟩), .int .i64 e.an.ve, .int .i64 e.an.bo, .int .i64 e.an.si, .bool e.an.no, .string e.an.fr] 133)).alloc (.cells #[.int .i64 o.ti, .bool o.bk, .pointer (some ⟨a o.ak, 0, none⟩), .int .i64 o.an.ve, .int .i64 o.an.bo, .int .i64 o.an.si, .bool o.an.no, .string o.an.fr] 133)) := Lr hw2; clear hw2 b1 b2 he ho; show Calls Tryz.prog 201 #[.agg #[.int .i64 e.ti, .bool e.bk, .pointer (some ⟨a e.ak, 0, none⟩), .int .i64 e.an.ve, .int .i64 e.an.bo, .int .i64 e.an.si, .bool e.an.no, .string e.an.fr], .agg #[.int .i64 o.ti, .bool o.bk, .pointer (some ⟨a o.ak, 0, none⟩), .int .i64 o.an.ve, .int .i64 o.an.bo, .int .i64 o.an.si, .bool o.an.no, .string o.an.fr]] w _
 generalize bfr K e o = R at HV ⊢; generalize (K e.ak).ca = ec at e0 HV; generalize (K o.ak).ca = oc at o0 HV; generalize (K e.ak).ke = ek at e3 HV; generalize (K o.ak).ke = ok at o3 HV; generalize a e.ak = A1 at *; generalize a o.ak = A2 at *; generalize e.ak = j1 at *; generalize o.ak = j2 at *
 go_enter Tryz.func201, Tryz.ntmps201
 go_upto_region 1 with (fail)
 rw [← HW2.out]; by_cases h1 : e.ti = o.ti
 case neg =>
  have t1 : (e.ti != o.ti) = true := by rw [bne_iff_ne]; exact h1
  have hv : Hid (decide (e.ti < o.ti) = R) := Lr (by rw [HV.out, if_pos h1]); clear h1
  go_wp2
  go_ret
  exact ⟨az hv.out, HB.out⟩
 rw [if_neg (by simp [h1])] at HV; have t1 : (e.ti != o.ti) = false := by simp [h1]
 clear h1; by_cases h2 : e.bk = o.bk
 case neg =>
  have t2 : (e.bk == o.bk) = false := by rw [beq_eq_false_iff_ne]; exact h2
  have hv : Hid (e.bk = R) := Lr (by rw [HV.out, if_pos h2]); clear h2
  go_wp2
  go_ret
  exact ⟨az hv.out, HB.out⟩
 rw [if_neg (by simp [h2])] at HV; have t2 : (e.bk == o.bk) = true := by rw [beq_iff_eq]; exact h2
 clear h2; by_cases h3 : ec = oc
 case neg =>
  have t3 : ((ec : Int) != (oc : Int)) = true := by rw [bne_iff_ne]; omega
  have hv : Hid (decide (ec < oc) = R) := Lr (by rw [HV.out, if_pos h3]); clear h3
  go_upto_region 5 with (fail)
  go_quiet (fail)
  obtain ⟨w3, hw3⟩ : ∃ w3, w3 = w2.drewN nq := ⟨_, rfl⟩
  have HB3 : Hid (Below w.heap.size w w3) := Lr (by rw [hw3]; exact below_drewN HB.out nq); replace p2 : w3.cell? ⟨w.heap.size, 2, none⟩ = some (.pointer (some ⟨A1, 0, none⟩)) := by rw [hw3]; exact p2
  replace q2 : w3.cell? ⟨w.heap.size + 1, 2, none⟩ = some (.pointer (some ⟨A2, 0, none⟩)) := by rw [hw3]; exact q2
  replace e0 : w3.cell? ⟨A1, 0, none⟩ = some (.int .i64 (ec : Nat)) := by rw [hw3]; exact e0
  replace o0 : w3.cell? ⟨A2, 0, none⟩ = some (.int .i64 (oc : Nat)) := by rw [hw3]; exact o0
  rw [← hw3]; clear hw3 p0 p1 q0 q1 e1 e3 o1 o3 t1 t2 t3
  go_upto_region 6 with (fail)
  go_quiet (fail)
  go_wp2
  go_ret
  exact ⟨az hv.out, below_drewN HB3.out _⟩
 rw [if_neg (by simp [h3])] at HV; have t3 : ((ec : Int) != (oc : Int)) = false := by simp [h3]
 clear h3
 go_upto_region 5 with (fail)
 go_quiet (fail)
 obtain ⟨w3, hw3⟩ : ∃ w3, w3 = w2.drewN nq := ⟨_, rfl⟩
 have HB3 : Hid (Below w.heap.size w w3) := Lr (by rw [hw3]; exact below_drewN HB.out nq); replace p2 : w3.cell? ⟨w.heap.size, 2, none⟩ = some (.pointer (some ⟨A1, 0, none⟩)) := by rw [hw3]; exact p2
 replace q2 : w3.cell? ⟨w.heap.size + 1, 2, none⟩ = some (.pointer (some ⟨A2, 0, none⟩)) := by rw [hw3]; exact q2
 replace e1 : w3.cell? ⟨A1, 1, none⟩ = some (.int .i64 (j1 : Nat)) := by rw [hw3]; exact e1
 replace o1 : w3.cell? ⟨A2, 1, none⟩ = some (.int .i64 (j2 : Nat)) := by rw [hw3]; exact o1
 replace e3 : w3.cell? ⟨A1, 3, none⟩ = some (.string ek) := by rw [hw3]; exact e3
 replace o3 : w3.cell? ⟨A2, 3, none⟩ = some (.string ok) := by rw [hw3]; exact o3
 rw [← hw3]; clear hw3 p0 p1 q0 q1 e0 o0 t1 t2 t3 HB; cases h4 : (ek.toList == ok.toList)
 case false =>
  rw [if_pos h4] at HV
  go_upto_region 7 with (fail)
  go_quiet (fail)
  obtain ⟨w4, hw4⟩ : ∃ w4, w4 = w3.drewN nq := ⟨_, rfl⟩
  have HB4 : Hid (Below w.heap.size w w4) := Lr (by rw [hw4]; exact below_drewN HB3.out nq); replace p2 : w4.cell? ⟨w.heap.size, 2, none⟩ = some (.pointer (some ⟨A1, 0, none⟩)) := by rw [hw4]; exact p2
  replace q2 : w4.cell? ⟨w.heap.size + 1, 2, none⟩ = some (.pointer (some ⟨A2, 0, none⟩)) := by rw [hw4]; exact q2
  replace e3 : w4.cell? ⟨A1, 3, none⟩ = some (.string ek) := by rw [hw4]; exact e3
  replace o3 : w4.cell? ⟨A2, 3, none⟩ = some (.string ok) := by rw [hw4]; exact o3
  rw [← hw4]; clear hw4 HB3 e1 o1
  go_upto_region 8 with (fail)
  go_quiet (fail)
  go_wp2
  go_ret
  exact ⟨az HV.out.symm, below_drewN HB4.out _⟩
 case true =>
  rw [if_neg (by simp [h4])] at HV; have hv : Hid (decide (j1 < j2) = R) := Lr HV.out.symm
  go_upto_region 7 with (fail)
  go_quiet (fail)
  obtain ⟨w4, hw4⟩ : ∃ w4, w4 = w3.drewN nq := ⟨_, rfl⟩
  have HB4 : Hid (Below w.heap.size w w4) := Lr (by rw [hw4]; exact below_drewN HB3.out nq); replace p2 : w4.cell? ⟨w.heap.size, 2, none⟩ = some (.pointer (some ⟨A1, 0, none⟩)) := by rw [hw4]; exact p2
  replace q2 : w4.cell? ⟨w.heap.size + 1, 2, none⟩ = some (.pointer (some ⟨A2, 0, none⟩)) := by rw [hw4]; exact q2
  replace e1 : w4.cell? ⟨A1, 1, none⟩ = some (.int .i64 (j1 : Nat)) := by rw [hw4]; exact e1
  replace o1 : w4.cell? ⟨A2, 1, none⟩ = some (.int .i64 (j2 : Nat)) := by rw [hw4]; exact o1
  rw [← hw4]; clear hw4 HB3 e3 o3 h4 HV
  go_upto_region 9 with (fail)
  go_quiet (fail)
  go_wp2
  go_ret
  exact ⟨az hv.out, below_drewN HB4.out _⟩
theorem jW {w : World} {B g n cap : Nat} {a : Nat → Nat} {l : List Evn} (h : Own w B 133 8 (fV a) (.slice (some ⟨g, 0, none⟩) n cap) l) {i : Nat} {e : Evn} (hi : l[i]? = some e) :
 w.cell? ⟨g, i * 8, none⟩ = some (.int .i64 e.ti) ∧ w.cell? ⟨g, i * 8 + 1, none⟩ = some (.bool e.bk) ∧ w.cell? ⟨g, i * 8 + 2, none⟩ = some (.pointer (some ⟨a e.ak, 0, none⟩)) ∧ w.cell? ⟨g, i * 8 + 3, none⟩ = some (.int .i64 e.an.ve) ∧ w.cell? ⟨g, i * 8 + 4, none⟩ = some (.int .i64 e.an.bo) ∧ w.cell? ⟨g, i * 8 + 5, none⟩ = some (.int .i64 e.an.si) ∧ w.cell? ⟨g, i * 8 + 6, none⟩ = some (.bool e.an.no) ∧ w.cell? ⟨g, i * 8 + 7, none⟩ = some (.string e.an.fr) := by
 obtain ⟨g', cap', hv, -, -, -, -, hc, -⟩ := Own.gZ (dJ a) h (fun e => by rw [e] at hi; simp at hi); simp only [Value.slice.injEq, Option.some.injEq, Addr.mk.injEq, and_true] at hv
 obtain ⟨rfl, -, -⟩ := hv; exact ⟨hc i e 0 _ hi rfl, hc i e 1 _ hi rfl, hc i e 2 _ hi rfl, hc i e 3 _ hi rfl, hc i e 4 _ hi rfl, hc i e 5 _ hi rfl, hc i e 6 _ hi rfl, hc i e 7 _ hi rfl⟩
theorem len_any (w : World) (ao : Option Addr) (n cap : Nat) : Calls Tryz.prog 198 #[.slice ao n cap] w fun r w' => r = .returned (.int .i64 (n : Nat)) ∧ w = w' := by
 go_enter Tryz.func198, Tryz.ntmps198
 go_wp2
 go_ret
 exact ⟨rfl, rfl⟩
theorem wZ (w : World) (B g cap : Nat) (a : Nat → Nat) (K : Nat → Akn) (l : List Evn) (i k : Nat) (h : Own w B 133 8 (fV a) (.slice (some ⟨g, 0, none⟩) l.length cap) l) (hi : i < l.length) (hk : k < l.length) (ha : ∀ e, e ∈ l → rU w a K e.ak) :
 Calls Tryz.prog 199 #[.slice (some ⟨g, 0, none⟩) l.length cap, .int .i64 i, .int .i64 k] w fun r w' => r = .returned (.bool (bfr K (hat l i) (hat l k))) ∧ Below w.heap.size w w' := by
 obtain ⟨e, he⟩ : ∃ e, e = hat l i := ⟨_, rfl⟩
 obtain ⟨o, ho⟩ : ∃ e, e = hat l k := ⟨_, rfl⟩
 have h1 : l[i]? = some e := by rw [he]; exact fA hi
 have h2 : l[k]? = some o := by rw [ho]; exact fA hk
 obtain ⟨c0, c1, c2, c3, c4, c5, c6, c7⟩ := jW h h1; obtain ⟨d0, d1, d2, d3, d4, d5, d6, d7⟩ := jW h h2; have HBF := Lr (fun (W : World) (hb : Below w.heap.size w W) => zC W a K e o ((ha e (List.mem_of_getElem? h1)).below hb) ((ha o (List.mem_of_getElem? h2)).below hb)); have HB2 : Hid (∀ W : World, Below w.heap.size w W → Calls Tryz.prog 201 #[.agg #[.int .i64 e.ti, .bool e.bk, .pointer (some ⟨a e.ak, 0, none⟩), .int .i64 e.an.ve, .int .i64 e.an.bo, .int .i64 e.an.si, .bool e.an.no, .string e.an.fr], .agg #[.int .i64 o.ti, .bool o.bk, .pointer (some ⟨a o.ak, 0, none⟩), .int .i64 o.an.ve, .int .i64 o.an.bo, .int .i64 o.an.si, .bool o.an.no, .string o.an.fr]] W fun r w' => r = .returned (.bool (bfr K e o)) ∧ Below W.heap.size W w') := HBF; have hiz : (i : Int) < (l.length : Int) := by omega
 have hkz : (k : Int) < (l.length : Int) := by omega
 rw [← he, ← ho]; generalize bfr K e o = R at HB2 ⊢; clear h ha he ho h1 h2 HBF; have HQ : Below w.heap.size w w.drew := (LD _ w).drew
 go_enter Tryz.func199, Tryz.ntmps199
 go_upto_region 1 with (fail)
 go_region_with
  (first | (go_at_call 201; (with_reducible refine (HB2.out _ HQ).mono ?_); rintro e w' ⟨rfl, hb⟩; have HB3 := Lr (HQ.bf hb); clear hb) | fail)
 all_goals go_wp2
 all_goals go_ret
 all_goals exact ⟨rfl, HB3.out⟩
abbrev KD (w : World) (g o : Nat) (a : Nat → Nat) (y : Evn) : World :=
 (((((((w.setCell ⟨g, o, none⟩ (.int .i64 y.ti)).setCell ⟨g, o + 1, none⟩ (.bool y.bk)).setCell ⟨g, o + 2, none⟩ (.pointer (some ⟨a y.ak, 0, none⟩))).setCell ⟨g, o + 3, none⟩ (.int .i64 y.an.ve)).setCell ⟨g, o + 4, none⟩ (.int .i64 y.an.bo)).setCell ⟨g, o + 5, none⟩ (.int .i64 y.an.si)).setCell ⟨g, o + 6, none⟩ (.bool y.an.no)).setCell ⟨g, o + 7, none⟩ (.string y.an.fr)
theorem wP {w : World} {B g n cap : Nat} {a : Nat → Nat} {l : List Evn} (h : Own w B 133 8 (fV a) (.slice (some ⟨g, 0, none⟩) n cap) l) (hn : n = l.length) {i : Nat} {x : Evn} (hi : l[i]? = some x) (y : Evn) :
 Own (KD w g (i * 8) a y) B 133 8 (fV a) (.slice (some ⟨g, 0, none⟩) n cap) (l.set i y) := by
 have st : ∀ {w : World} {l : List Evn} {x : Evn} (j : Nat) (u : Value) (z : Evn), Own w B 133 8 (fV a) (.slice (some ⟨g, 0, none⟩) n cap) l → n = l.length → l[i]? = some x → j < 8 → fV a z = (fV a x).set j u →
  Own (w.setCell ⟨g, i * 8 + j, none⟩ u) B 133 8 (fV a) (.slice (some ⟨g, 0, none⟩) n cap) (l.set i z) ∧ n = (l.set i z).length ∧ (l.set i z)[i]? = some z := fun {w l x} j u z h hn hi hj he =>
  ⟨Own.store (dJ a) h hn hi hj he, by rw [List.length_set]; exact hn, by rw [List.getElem?_set_self (List.getElem?_eq_some_iff.1 hi).1]⟩
 obtain ⟨q0, n0, i0⟩ := st 0 (.int .i64 y.ti) { x with ti := y.ti } h hn hi (by decide) rfl; obtain ⟨q1, n1, i1⟩ := st 1 (.bool y.bk) { x with ti := y.ti, bk := y.bk } q0 n0 i0 (by decide) rfl; obtain ⟨q2, n2, i2⟩ := st 2 (.pointer (some ⟨a y.ak, 0, none⟩)) { x with ti := y.ti, bk := y.bk, ak := y.ak } q1 n1 i1 (by decide) rfl; obtain ⟨q3, n3, i3⟩ := st 3 (.int .i64 y.an.ve) ⟨y.ti, y.bk, y.ak, { x.an with ve := y.an.ve }⟩ q2 n2 i2 (by decide) rfl; obtain ⟨q4, n4, i4⟩ := st 4 (.int .i64 y.an.bo) ⟨y.ti, y.bk, y.ak, { x.an with ve := y.an.ve, bo := y.an.bo }⟩ q3 n3 i3 (by decide) rfl; obtain ⟨q5, n5, i5⟩ := st 5 (.int .i64 y.an.si) ⟨y.ti, y.bk, y.ak, { x.an with ve := y.an.ve, bo := y.an.bo, si := y.an.si }⟩ q4 n4 i4 (by decide) rfl; obtain ⟨q6, n6, i6⟩ := st 6 (.bool y.an.no) ⟨y.ti, y.bk, y.ak, { x.an with ve := y.an.ve, bo := y.an.bo, si := y.an.si, no := y.an.no }⟩ q5 n5 i5 (by decide) rfl; obtain ⟨q7, -, -⟩ := st 7 (.string y.an.fr) y q6 n6 i6 (by decide) rfl; simp only [List.set_set] at q7
 exact q7
theorem wR (w : World) (g o : Nat) (a : Nat → Nat) (y : Evn) : Onl g w (KD w g o a y) :=
 (((((((Onl.set g w o _).trans (Onl.set g _ (o + 1) _)).trans (Onl.set g _ (o + 2) _)).trans (Onl.set g _ (o + 3) _)).trans (Onl.set g _ (o + 4) _)).trans (Onl.set g _ (o + 5) _)).trans (Onl.set g _ (o + 6) _)).trans (Onl.set g _ (o + 7) _)
theorem swap_any (w : World) (B g cap : Nat) (a : Nat → Nat) (l : List Evn) (i k : Nat) (h : Own w B 133 8 (fV a) (.slice (some ⟨g, 0, none⟩) l.length cap) l) (hi : i < l.length) (hk : k < l.length) :
 Calls Tryz.prog 200 #[.slice (some ⟨g, 0, none⟩) l.length cap, .int .i64 i, .int .i64 k] w fun r w' => r = .returned (.tuple #[]) ∧ Own w' B 133 8 (fV a) (.slice (some ⟨g, 0, none⟩) l.length cap) (hsw l i k) ∧ Onl g w w' := by
 obtain ⟨e, he⟩ : ∃ e, e = hat l i := ⟨_, rfl⟩
 obtain ⟨o, ho⟩ : ∃ e, e = hat l k := ⟨_, rfl⟩
 have h1 : l[i]? = some e := by rw [he]; exact fA hi
 have h2 : l[k]? = some o := by rw [ho]; exact fA hk
 obtain ⟨c0, c1, c2, c3, c4, c5, c6, c7⟩ := jW h h1; obtain ⟨d0, d1, d2, d3, d4, d5, d6, d7⟩ := jW h h2; have hf : ∀ j, w.frozen? ⟨g, j, none⟩ = false := by
  obtain ⟨g', cap', hv, -, -, -, -, -, hf⟩ := Own.gZ (dJ a) h (fun e => by rw [e] at hi; simp at hi); simp only [Value.slice.injEq, Option.some.injEq, Addr.mk.injEq, and_true] at hv
  obtain ⟨rfl, -, -⟩ := hv; exact hf
 have hiz : (i : Int) < (l.length : Int) := by omega
 have hkz : (k : Int) < (l.length : Int) := by omega
 have HH := Lr h; clear h; have HP := Lr (wP (wP HH.out rfl h1 o) (by rw [List.length_set]) (i := k) (x := if i = k then o else o) (by
  by_cases e : i = k
  ·subst e; rw [List.getElem?_set_self hi]; simp
  ·rw [List.getElem?_set_ne e, h2]; simp) e)
 have HSW : Hid (hsw l i k = (l.set i o).set k e) := Lr (by unfold hsw; rw [← he, ← ho]); have HON := Lr ((wR w g (i * 8) a o).trans (wR _ g (k * 8) a e)); have HEO : Hid (i = k → e = o) := Lr (fun h => by rw [he, ho, h]); have HPD := Lr HP.out.zq; have HND := Lr (HON.out.trans (Onl.of_below (LD _ _).drew)); rw [← HSW.out] at HPD; clear HH h1 h2 HP HON HSW he ho; by_cases hik : i = k
 ·have heo := HEO.out hik; subst hik; subst heo; clear d0 d1 d2 d3 d4 d5 d6 d7 hkz HEO
  go_enter Tryz.func200, Tryz.ntmps200
  go_big_region
  go_end0
  exact ⟨rfl, HPD.out, HND.out⟩
 ·have hki : ¬ k = i := fun e => hik e.symm
  have n1a : ¬ k * 8 + 1 = i * 8 := by omega
  have n1b : ¬ i * 8 + 1 = k * 8 := by omega
  have n1c : ¬ i * 8 = k * 8 + 1 := by omega
  have n1d : ¬ k * 8 = i * 8 + 1 := by omega
  have n2a : ¬ k * 8 + 2 = i * 8 := by omega
  have n2b : ¬ i * 8 + 2 = k * 8 := by omega
  have n2c : ¬ i * 8 = k * 8 + 2 := by omega
  have n2d : ¬ k * 8 = i * 8 + 2 := by omega
  have n3a : ¬ k * 8 + 3 = i * 8 := by omega
  have n3b : ¬ i * 8 + 3 = k * 8 := by omega
  have n3c : ¬ i * 8 = k * 8 + 3 := by omega
  have n3d : ¬ k * 8 = i * 8 + 3 := by omega
  have n4a : ¬ k * 8 + 4 = i * 8 := by omega
  have n4b : ¬ i * 8 + 4 = k * 8 := by omega
  have n4c : ¬ i * 8 = k * 8 + 4 := by omega
  have n4d : ¬ k * 8 = i * 8 + 4 := by omega
  have n5a : ¬ k * 8 + 5 = i * 8 := by omega
  have n5b : ¬ i * 8 + 5 = k * 8 := by omega
  have n5c : ¬ i * 8 = k * 8 + 5 := by omega
  have n5d : ¬ k * 8 = i * 8 + 5 := by omega
  have n6a : ¬ k * 8 + 6 = i * 8 := by omega
  have n6b : ¬ i * 8 + 6 = k * 8 := by omega
  have n6c : ¬ i * 8 = k * 8 + 6 := by omega
  have n6d : ¬ k * 8 = i * 8 + 6 := by omega
  have n7a : ¬ k * 8 + 7 = i * 8 := by omega
  have n7b : ¬ i * 8 + 7 = k * 8 := by omega
  have n7c : ¬ i * 8 = k * 8 + 7 := by omega
  have n7d : ¬ k * 8 = i * 8 + 7 := by omega
  go_enter Tryz.func200, Tryz.ntmps200
  go_big_region
  go_end0
  exact ⟨rfl, HPD.out, HND.out⟩
end Go.Proofs.YtgohddfnhofjhaaGreatDoor

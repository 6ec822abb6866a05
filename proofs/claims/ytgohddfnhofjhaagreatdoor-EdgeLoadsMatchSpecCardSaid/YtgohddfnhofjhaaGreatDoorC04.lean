/- A delivery among the arguments. -/
import Derived.Test.YtgohddfnhofjhaaGreatDoorC03
import Derived.Test.YtgohddfnhofjhaaGreatDoorC01
import Derived.Lib.SmallJoins
namespace Go.Proofs.YtgohddfnhofjhaaGreatDoor
open Go.RowKit
structure Crl where
 pr : ByteArray
 li : Int
 st : Int
 go : Int
instance : Inhabited Crl := ⟨⟨ByteArray.empty, 0, 0, 0⟩⟩
def encU (x : Crl) : List Value := [.string x.pr, .int .i64 x.li, .int .i64 x.st, .int .i64 x.go]
def WfU (x : Crl) : Prop := x.pr.size ≤ 9223372036854775807
structure Rel where
 ke : ByteArray
 ti : Int
 si : Int
 go : Bool
instance : Inhabited Rel := ⟨⟨ByteArray.empty, 0, 0, false⟩⟩
def encL (x : Rel) : List Value := [.string x.ke, .int .i64 x.ti, .int .i64 x.si, .bool x.go]
def WfL (x : Rel) : Prop := x.ke.size ≤ 9223372036854775807
def sleB (a b : ByteArray) : Bool := Op.bytesLess a.toList b.toList || a.toList == b.toList
def ordU (x p : Crl) (i : Nat) : Bool := decide (0 < i) && sleB x.pr p.pr
def cuOf (x p : Crl) (i : Nat) : Int :=
 if (!reqB x.pr) = true then 3 else if (ordU x p i) = true then 8 else if (outB x.li 0 1000000000 || outB x.st 0 1000000000 || outB x.go 0 1000000000) = true then 1 else 0
def cuAt (l : List Crl) (i : Nat) : Int := cuOf (l.getD i default) (l.getD (i - 1) default) i
def checkU (l : List Crl) : Int := if 100 < l.length then 2 else FF (cuAt l) l.length
def ordL (x p : Rel) (i : Nat) : Bool := decide (0 < i) && (Op.bytesLess x.ke.toList p.ke.toList || ((x.ke.toList == p.ke.toList) && decide (x.ti ≤ p.ti)))
def clOf (x p : Rel) (i : Nat) : Int :=
 if (!reqB x.ke) = true then 3 else if (outB x.ti 0 1000000000000) = true then 1 else if (x.go && x.si != 0) = true then 3 else if (!x.go && outB x.si 1 1000000000) = true then 1 else if (ordL x p i) = true then 8 else 0
def clAt (l : List Rel) (i : Nat) : Int := clOf (l.getD i default) (l.getD (i - 1) default) i
def checkL (l : List Rel) : Int := if 1000 < l.length then 2 else FF (clAt l) l.length
end Go.Proofs.YtgohddfnhofjhaaGreatDoor
namespace Go.Proofs.YtgohddfnhofjhaaGreatDoor
open Go.RowKit Go.ChangeShapes Go.WideShapes Go.Deep
set_option maxRecDepth 100000
theorem cellsIntE : Tryz.prog.cellsOf 3 = 1 := by kernel_rfl
theorem cellsStrE : Tryz.prog.cellsOf 9 = 1 := by kernel_rfl
theorem cellsBoolE : Tryz.prog.cellsOf 4 = 1 := by kernel_rfl
theorem cellsU : Tryz.prog.cellsOf 126 = 4 := by kernel_rfl
theorem cellsL : Tryz.prog.cellsOf 77 = 4 := by kernel_rfl
theorem decU (w : World) : Dec Tryz.prog w 126 encU WfU := by
 intro H enc n cs x h
 obtain ⟨y0, y1, y2, y3, n, _, hl, h0, h1, h2, h3⟩ := Go.Joins.trod_struct4 Tryz.underlying126 h
 rw [cellsU] at hl
 match cs, hl with
 | [a, b, c, d], _ =>
  simp only [cellsIntE, cellsStrE] at h0 h1 h2 h3
  obtain ⟨a', e0, _, w0⟩ := DataW.trod_string Tryz.underlying9 h0
  obtain ⟨b', e1, _, w1⟩ := DataW.trod_int Tryz.underlying3 h1
  obtain ⟨c', e2, _, w2⟩ := DataW.trod_int Tryz.underlying3 h2
  obtain ⟨d', e3, _, w3⟩ := DataW.trod_int Tryz.underlying3 h3
  simp at e0 e1 e2 e3
  subst e0 e1 e2 e3
  exact ⟨⟨a', b', c', d'⟩, rfl, by simpa [WfU, maxLen] using w0⟩
theorem decL (w : World) : Dec Tryz.prog w 77 encL WfL := by
 intro H enc n cs x h
 obtain ⟨y0, y1, y2, y3, n, _, hl, h0, h1, h2, h3⟩ := Go.Joins.trod_struct4 Tryz.underlying77 h
 rw [cellsL] at hl
 match cs, hl with
 | [a, b, c, d], _ =>
  simp only [cellsIntE, cellsStrE, cellsBoolE] at h0 h1 h2 h3
  obtain ⟨a', e0, _, w0⟩ := DataW.trod_string Tryz.underlying9 h0
  obtain ⟨b', e1, _, w1⟩ := DataW.trod_int Tryz.underlying3 h1
  obtain ⟨c', e2, _, w2⟩ := DataW.trod_int Tryz.underlying3 h2
  obtain ⟨d', e3, _⟩ := DataW.trod_bool Tryz.underlying4 h3
  simp at e0 e1 e2 e3
  subst e0 e1 e2 e3
  exact ⟨⟨a', b', c', d'⟩, rfl, by simpa [WfL, maxLen] using w0⟩
structure Cch where
 na : ByteArray
 pa : ByteArray
 de : Int
 ro : Int
instance : Inhabited Cch := ⟨⟨ByteArray.empty, ByteArray.empty, 0, 0⟩⟩
def encC (x : Cch) : List Value := [.string x.na, .string x.pa, .int .i64 x.de, .int .i64 x.ro]
def WfC (x : Cch) : Prop := x.na.size ≤ 9223372036854775807 ∧ x.pa.size ≤ 9223372036854775807
def isC (o : Cch) (n : ByteArray) : Bool := o.na.toList == n.toList
def hasC (l : List Cch) (n : ByteArray) : Bool := l.any fun o => isC o n
def parB (x : Cch) (hp : Bool) : Bool := !decide (x.pa = ⟨#[]⟩) && !hp
def ccOf (x : Cch) (tw hp : Bool) : Int :=
 if (!nameB x.na) = true then 5 else if tw = true then 7 else if (parB x hp) = true then 9 else if (outB x.de 1 100000 || outB x.ro 0 1000000000000) = true then 1 else 0
def ccAt (l : List Cch) (i : Nat) : Int := ccOf (l.getD i default) (hasC (l.take i) (l.getD i default).na) (hasC (l.take i) (l.getD i default).pa)
def checkC (l : List Cch) : Int := if l.length = 0 then 9 else if 30 < l.length then 2 else FF (ccAt l) l.length
structure Pur where
 ti : Int
 ke : ByteArray
instance : Inhabited Pur := ⟨⟨0, ByteArray.empty⟩⟩
def encG (x : Pur) : List Value := [.int .i64 x.ti, .string x.ke]
def WfG (x : Pur) : Prop := x.ke.size ≤ 9223372036854775807
def ordG (x p : Pur) (i : Nat) : Bool := decide (0 < i) && (decide (x.ti < p.ti) || (x.ti == p.ti && sleB x.ke p.ke))
def cgOf (x p : Pur) (i : Nat) : Int :=
 if (outB x.ti 0 1000000000000) = true then 1 else if (!reqB x.ke) = true then 3 else if (ordG x p i) = true then 8 else 0
def cgAt (l : List Pur) (i : Nat) : Int := cgOf (l.getD i default) (l.getD (i - 1) default) i
def checkG (l : List Pur) : Int := if 200 < l.length then 2 else FF (cgAt l) l.length
def checkD (c : List Cch) (r : List Crl) (e : List Rel) (p : List Pur) : Int :=
 if checkC c ≠ 0 then checkC c else if checkU r ≠ 0 then checkU r else if checkL e ≠ 0 then checkL e else checkG p
theorem str_emp {x : ByteArray} (h : ¬ x = ⟨#[]⟩) : (x.toList == []) = false ∧ x.toList.isEmpty = false ∧ ¬ x.toList = [] := by
 have h1 : ¬ x.toList = [] := by
  rw [ByteArray.toList_eq]
  intro e
  apply h
  cases x with
  | mk d =>
   have : d = #[] := Array.toList_eq_nil_iff.1 e
   rw [this]
 exact ⟨by simp [h1], by simp [h1], h1⟩
end Go.Proofs.YtgohddfnhofjhaaGreatDoor
namespace Go.Proofs.YtgohddfnhofjhaaGreatDoor
open Go.RowKit Go.ChangeShapes Go.WideShapes Go.Deep
set_option maxRecDepth 100000
theorem cellsC : Tryz.prog.cellsOf 47 = 4 := by kernel_rfl
theorem cellsG : Tryz.prog.cellsOf 74 = 2 := by kernel_rfl
theorem decC (w : World) : Dec Tryz.prog w 47 encC WfC := by
 intro H enc n cs x h
 obtain ⟨y0, y1, y2, y3, n, _, hl, h0, h1, h2, h3⟩ := Go.Joins.trod_struct4 Tryz.underlying47 h
 rw [cellsC] at hl
 match cs, hl with
 | [a, b, c, d], _ =>
  simp only [cellsIntE, cellsStrE] at h0 h1 h2 h3
  obtain ⟨a', e0, _, w0⟩ := DataW.trod_string Tryz.underlying9 h0
  obtain ⟨b', e1, _, w1⟩ := DataW.trod_string Tryz.underlying9 h1
  obtain ⟨c', e2, _, w2⟩ := DataW.trod_int Tryz.underlying3 h2
  obtain ⟨d', e3, _, w3⟩ := DataW.trod_int Tryz.underlying3 h3
  simp at e0 e1 e2 e3
  subst e0 e1 e2 e3
  exact ⟨⟨a', b', c', d'⟩, rfl, by simpa [WfC, maxLen] using ⟨w0, w1⟩⟩
theorem decG (w : World) : Dec Tryz.prog w 74 encG WfG := by
 intro H enc n cs x h
 obtain ⟨y0, y1, n, _, hl, h0, h1⟩ := trod_struct2 Tryz.underlying74 h
 rw [cellsG] at hl
 match cs, hl with
 | [a, b], _ =>
  simp only [cellsIntE, cellsStrE] at h0 h1
  obtain ⟨a', e0, _, w0⟩ := DataW.trod_int Tryz.underlying3 h0
  obtain ⟨b', e1, _, w1⟩ := DataW.trod_string Tryz.underlying9 h1
  simp at e0 e1
  subst e0 e1
  exact ⟨⟨a', b'⟩, rfl, by simpa [WfG, maxLen] using w1⟩
theorem sl_of {α : Type} {H : Type} {enc : TypeId × Value → H} {w : World} {t E : TypeId} {k : Nat} {enc' : α → List Value} {wf : α → Prop} (ht : Tryz.prog.underlying t = some (.slice E)) (hk : Tryz.prog.cellsOf E = k) (hk0 : 0 < k)
 (hd : Dec Tryz.prog w E enc' wf) {n : Nat} {v : Value} {x : DataW H × List MemPlace} (h : DataW.trod enc Tryz.prog w 0 (fun _ => true) true n t [v] = some x) : ∃ l, Sl w k enc' v l ∧ ∀ y, y ∈ l → wf y := by
 have h' := h
 rcases open_slice ht h with ⟨hcs, hx⟩ | ⟨a', len', cap', m, n, D, Pl, hcs, hb, hl, hm, hmm, hx, hel⟩
 ·simp only [List.cons.injEq, and_true] at hcs
  subst hcs
  exact ⟨[], Sl.nil, fun y hy => by simp at hy⟩
 ·simp only [List.cons.injEq, and_true] at hcs
  subst hcs
  obtain ⟨l, hs, hw, _⟩ := sl_open ht hk hk0 hd (d := x.1) (p := x.2) ⟨_, h'⟩
  exact ⟨l, hs, hw⟩
structure Dlv where
 vc : Value
 vr : Value
 ve : Value
 vp : Value
 c : List Cch
 r : List Crl
 e : List Rel
 l : List Pur
structure DlvOk (w : World) (y : Dlv) : Prop where
 sc : Sl w 4 encC y.vc y.c
 sr : Sl w 4 encU y.vr y.r
 se : Sl w 4 encL y.ve y.e
 sp : Sl w 2 encG y.vp y.l
 wc : ∀ x, x ∈ y.c → WfC x
 wr : ∀ x, x ∈ y.r → WfU x
 we : ∀ x, x ∈ y.e → WfL x
 wp : ∀ x, x ∈ y.l → WfG x
theorem openD {H : Type} {enc : TypeId × Value → H} {r : Reach} {b0 : Nat} (W : World) (v : Value) (d : DataW H) (p : List MemPlace) (hv : Value.okWide Tryz.prog W r b0 27 v)
 (h : DataW.Trod enc Tryz.prog W 0 (fun _ => true) true 27 v d p) : ∃ y : Dlv, v = .agg #[y.vc, y.vr, y.ve, y.vp] ∧ DlvOk W y := by
 obtain ⟨v0, v1, v2, v3, y0, y1, y2, y3, n, rfl, _, _, h0, h1, h2, h3⟩ := Go.Joins.open_agg4 Tryz.underlying27 (by kernel_rfl) (by kernel_rfl) hv h
 obtain ⟨c, sc, wc⟩ := sl_of Tryz.underlying22 cellsC (by decide) (decC W) h0
 obtain ⟨r, sr, wr⟩ := sl_of Tryz.underlying23 cellsU (by decide) (decU W) h1
 obtain ⟨e, se, we⟩ := sl_of Tryz.underlying24 cellsL (by decide) (decL W) h2
 obtain ⟨l, sp, wp⟩ := sl_of Tryz.underlying25 cellsG (by decide) (decG W) h3
 exact ⟨⟨v0, v1, v2, v3, c, r, e, l⟩, rfl, ⟨sc, sr, se, sp, wc, wr, we, wp⟩⟩
abbrev witD : Value := .agg #[.slice none 0 0, .slice none 0 0, .slice none 0 0, .slice none 0 0]
end Go.Proofs.YtgohddfnhofjhaaGreatDoor

/- A delivery among the arguments. -/
import Derived.Test.YtgohddfnhofjhaaGreatDoorK03
import Derived.Test.YtgohddfnhofjhaaGreatDoorK01
import Derived.Lib.SmallJoins
namespace Go.Proofs.YtgohddfnhofjhaaGreatDoor
open Go.RowKit
structure Crl where
 pr : ByteArray
 li : Int
 st : Int
 go : Int
instance : Inhabited Crl := ⟨⟨ByteArray.empty, 0, 0, 0⟩⟩
def xU (x : Crl) : List Value := [.string x.pr, .int .i64 x.li, .int .i64 x.st, .int .i64 x.go]
def WfU (x : Crl) : Prop := x.pr.size ≤ 9223372036854775807
structure Rel where
 ke : ByteArray
 ti : Int
 si : Int
 go : Bool
instance : Inhabited Rel := ⟨⟨ByteArray.empty, 0, 0, false⟩⟩
def zn (x : Rel) : List Value := [.string x.ke, .int .i64 x.ti, .int .i64 x.si, .bool x.go]
def WfL (x : Rel) : Prop := x.ke.size ≤ 9223372036854775807
def KA (a b : ByteArray) : Bool := Op.bytesLess a.toList b.toList || a.toList == b.toList
def Bz (x p : Crl) (i : Nat) : Bool := decide (0 < i) && KA x.pr p.pr
def x8 (x p : Crl) (i : Nat) : Int :=
 if (!dG x.pr) = true then 3 else if (Bz x p i) = true then 8 else if (aN x.li 0 1000000000 || aN x.st 0 1000000000 || aN x.go 0 1000000000) = true then 1 else 0
def zS (l : List Crl) (i : Nat) : Int := x8 (l.getD i default) (l.getD (i - 1) default) i
def dO (l : List Crl) : Int := if 100 < l.length then 2 else FF (zS l) l.length
def rY (x p : Rel) (i : Nat) : Bool := decide (0 < i) && (Op.bytesLess x.ke.toList p.ke.toList || ((x.ke.toList == p.ke.toList) && decide (x.ti ≤ p.ti)))
def sD (x p : Rel) (i : Nat) : Int :=
 if (!dG x.ke) = true then 3 else if (aN x.ti 0 1000000000000) = true then 1 else if (x.go && x.si != 0) = true then 3 else if (!x.go && aN x.si 1 1000000000) = true then 1 else if (rY x p i) = true then 8 else 0
def zT (l : List Rel) (i : Nat) : Int := sD (l.getD i default) (l.getD (i - 1) default) i
def dP (l : List Rel) : Int := if 1000 < l.length then 2 else FF (zT l) l.length
end Go.Proofs.YtgohddfnhofjhaaGreatDoor
namespace Go.Proofs.YtgohddfnhofjhaaGreatDoor
open Go.RowKit Go.ChangeShapes Go.WideShapes Go.Deep
set_option maxRecDepth 100000
theorem kw : Tryz.prog.cellsOf 3 = 1 := by kernel_rfl
theorem jZ : Tryz.prog.cellsOf 9 = 1 := by kernel_rfl
theorem zB : Tryz.prog.cellsOf 4 = 1 := by kernel_rfl
theorem F6 : Tryz.prog.cellsOf 126 = 4 := by kernel_rfl
theorem F8 : Tryz.prog.cellsOf 77 = 4 := by kernel_rfl
theorem KU (w : World) : Dec Tryz.prog w 126 xU WfU := by
 intro H enc n cs x h; obtain ⟨y0, y1, y2, y3, n, _, hl, h0, h1, h2, h3⟩ := Go.Joins.trod_struct4 Tryz.underlying126 h; rw [F6] at hl
 match cs, hl with
 | [a, b, c, d], _ =>
  simp only [kw, jZ] at h0 h1 h2 h3
  obtain ⟨a', e0, _, w0⟩ := DataW.trod_string Tryz.underlying9 h0; obtain ⟨b', e1, _, w1⟩ := DataW.trod_int Tryz.underlying3 h1; obtain ⟨c', e2, _, w2⟩ := DataW.trod_int Tryz.underlying3 h2; obtain ⟨d', e3, _, w3⟩ := DataW.trod_int Tryz.underlying3 h3; simp at e0 e1 e2 e3
  subst e0 e1 e2 e3; exact ⟨⟨a', b', c', d'⟩, rfl, by simpa [WfU, maxLen] using w0⟩
theorem KX (w : World) : Dec Tryz.prog w 77 zn WfL := by
 intro H enc n cs x h; obtain ⟨y0, y1, y2, y3, n, _, hl, h0, h1, h2, h3⟩ := Go.Joins.trod_struct4 Tryz.underlying77 h; rw [F8] at hl
 match cs, hl with
 | [a, b, c, d], _ =>
  simp only [kw, jZ, zB] at h0 h1 h2 h3
  obtain ⟨a', e0, _, w0⟩ := DataW.trod_string Tryz.underlying9 h0; obtain ⟨b', e1, _, w1⟩ := DataW.trod_int Tryz.underlying3 h1; obtain ⟨c', e2, _, w2⟩ := DataW.trod_int Tryz.underlying3 h2; obtain ⟨d', e3, _⟩ := DataW.trod_bool Tryz.underlying4 h3; simp at e0 e1 e2 e3
  subst e0 e1 e2 e3; exact ⟨⟨a', b', c', d'⟩, rfl, by simpa [WfL, maxLen] using w0⟩
structure Cch where
 na : ByteArray
 pa : ByteArray
 de : Int
 ro : Int
instance : Inhabited Cch := ⟨⟨ByteArray.empty, ByteArray.empty, 0, 0⟩⟩
def su (x : Cch) : List Value := [.string x.na, .string x.pa, .int .i64 x.de, .int .i64 x.ro]
def WfC (x : Cch) : Prop := x.na.size ≤ 9223372036854775807 ∧ x.pa.size ≤ 9223372036854775807
def isC (o : Cch) (n : ByteArray) : Bool := o.na.toList == n.toList
def iw (l : List Cch) (n : ByteArray) : Bool := l.any fun o => isC o n
def tH (x : Cch) (hp : Bool) : Bool := !decide (x.pa = ⟨#[]⟩) && !hp
def vP (x : Cch) (tw hp : Bool) : Int :=
 if (!nameB x.na) = true then 5 else if tw = true then 7 else if (tH x hp) = true then 9 else if (aN x.de 1 100000 || aN x.ro 0 1000000000000) = true then 1 else 0
def zV (l : List Cch) (i : Nat) : Int := vP (l.getD i default) (iw (l.take i) (l.getD i default).na) (iw (l.take i) (l.getD i default).pa)
def bZ (l : List Cch) : Int := if l.length = 0 then 9 else if 30 < l.length then 2 else FF (zV l) l.length
structure Pur where
 ti : Int
 ke : ByteArray
instance : Inhabited Pur := ⟨⟨0, ByteArray.empty⟩⟩
def xW (x : Pur) : List Value := [.int .i64 x.ti, .string x.ke]
def WfG (x : Pur) : Prop := x.ke.size ≤ 9223372036854775807
def uO (x p : Pur) (i : Nat) : Bool := decide (0 < i) && (decide (x.ti < p.ti) || (x.ti == p.ti && KA x.ke p.ke))
def yg (x p : Pur) (i : Nat) : Int :=
 if (aN x.ti 0 1000000000000) = true then 1 else if (!dG x.ke) = true then 3 else if (uO x p i) = true then 8 else 0
def zU (l : List Pur) (i : Nat) : Int := yg (l.getD i default) (l.getD (i - 1) default) i
def gm (l : List Pur) : Int := if 200 < l.length then 2 else FF (zU l) l.length
def eU (c : List Cch) (r : List Crl) (e : List Rel) (p : List Pur) : Int :=
 if bZ c ≠ 0 then bZ c else if dO r ≠ 0 then dO r else if dP e ≠ 0 then dP e else gm p
theorem uG {x : ByteArray} (h : ¬ x = ⟨#[]⟩) : (x.toList == []) = false ∧ x.toList.isEmpty = false ∧ ¬ x.toList = [] := by
 have h1 : ¬ x.toList = [] := by
  rw [ByteArray.toList_eq]; intro e; apply h; cases x with
  | mk d =>
   have : d = #[] := Array.toList_eq_nil_iff.1 e; rw [this]
 exact ⟨by simp [h1], by simp [h1], h1⟩
end Go.Proofs.YtgohddfnhofjhaaGreatDoor
namespace Go.Proofs.YtgohddfnhofjhaaGreatDoor
open Go.RowKit Go.ChangeShapes Go.WideShapes Go.Deep
set_option maxRecDepth 100000
theorem Gg : Tryz.prog.cellsOf 47 = 4 := by kernel_rfl
theorem Gf : Tryz.prog.cellsOf 74 = 2 := by kernel_rfl
theorem KZ (w : World) : Dec Tryz.prog w 47 su WfC := by
 intro H enc n cs x h; obtain ⟨y0, y1, y2, y3, n, _, hl, h0, h1, h2, h3⟩ := Go.Joins.trod_struct4 Tryz.underlying47 h; rw [Gg] at hl
 match cs, hl with
 | [a, b, c, d], _ =>
  simp only [kw, jZ] at h0 h1 h2 h3
  obtain ⟨a', e0, _, w0⟩ := DataW.trod_string Tryz.underlying9 h0; obtain ⟨b', e1, _, w1⟩ := DataW.trod_string Tryz.underlying9 h1; obtain ⟨c', e2, _, w2⟩ := DataW.trod_int Tryz.underlying3 h2; obtain ⟨d', e3, _, w3⟩ := DataW.trod_int Tryz.underlying3 h3; simp at e0 e1 e2 e3
  subst e0 e1 e2 e3; exact ⟨⟨a', b', c', d'⟩, rfl, by simpa [WfC, maxLen] using ⟨w0, w1⟩⟩
theorem KY (w : World) : Dec Tryz.prog w 74 xW WfG := by
 intro H enc n cs x h; obtain ⟨y0, y1, n, _, hl, h0, h1⟩ := trod_struct2 Tryz.underlying74 h; rw [Gf] at hl
 match cs, hl with
 | [a, b], _ =>
  simp only [kw, jZ] at h0 h1
  obtain ⟨a', e0, _, w0⟩ := DataW.trod_int Tryz.underlying3 h0; obtain ⟨b', e1, _, w1⟩ := DataW.trod_string Tryz.underlying9 h1; simp at e0 e1
  subst e0 e1; exact ⟨⟨a', b'⟩, rfl, by simpa [WfG, maxLen] using w1⟩
theorem Eh {α : Type} {H : Type} {enc : TypeId × Value → H} {w : World} {t E : TypeId} {k : Nat} {enc' : α → List Value} {wf : α → Prop} (ht : Tryz.prog.underlying t = some (.slice E)) (hk : Tryz.prog.cellsOf E = k) (hk0 : 0 < k)
 (hd : Dec Tryz.prog w E enc' wf) {n : Nat} {v : Value} {x : DataW H × List MemPlace} (h : DataW.trod enc Tryz.prog w 0 (fun _ => true) true n t [v] = some x) : ∃ l, Sl w k enc' v l ∧ ∀ y, y ∈ l → wf y := by
 have h' := h; rcases open_slice ht h with ⟨hcs, hx⟩ | ⟨a', len', cap', m, n, D, Pl, hcs, hb, hl, hm, hmm, hx, hel⟩
 ·simp only [List.cons.injEq, and_true] at hcs
  subst hcs; exact ⟨[], Sl.nil, fun y hy => by simp at hy⟩
 ·simp only [List.cons.injEq, and_true] at hcs
  subst hcs; obtain ⟨l, hs, hw, _⟩ := AU ht hk hk0 hd (d := x.1) (p := x.2) ⟨_, h'⟩; exact ⟨l, hs, hw⟩
structure Dlv where
 vc : Value
 vr : Value
 ve : Value
 vp : Value
 c : List Cch
 r : List Crl
 e : List Rel
 l : List Pur
structure Kv (w : World) (y : Dlv) : Prop where
 sc : Sl w 4 su y.vc y.c
 sr : Sl w 4 xU y.vr y.r
 se : Sl w 4 zn y.ve y.e
 sp : Sl w 2 xW y.vp y.l
 wc : ∀ x, x ∈ y.c → WfC x
 wr : ∀ x, x ∈ y.r → WfU x
 we : ∀ x, x ∈ y.e → WfL x
 wp : ∀ x, x ∈ y.l → WfG x
theorem JA {H : Type} {enc : TypeId × Value → H} {r : Reach} {b0 : Nat} (W : World) (v : Value) (d : DataW H) (p : List MemPlace) (hv : Value.okWide Tryz.prog W r b0 27 v)
 (h : DataW.Trod enc Tryz.prog W 0 (fun _ => true) true 27 v d p) : ∃ y : Dlv, v = .agg #[y.vc, y.vr, y.ve, y.vp] ∧ Kv W y := by
 obtain ⟨v0, v1, v2, v3, y0, y1, y2, y3, n, rfl, _, _, h0, h1, h2, h3⟩ := Go.Joins.open_agg4 Tryz.underlying27 (by kernel_rfl) (by kernel_rfl) hv h; obtain ⟨c, sc, wc⟩ := Eh Tryz.underlying22 Gg (by decide) (KZ W) h0; obtain ⟨r, sr, wr⟩ := Eh Tryz.underlying23 F6 (by decide) (KU W) h1; obtain ⟨e, se, we⟩ := Eh Tryz.underlying24 F8 (by decide) (KX W) h2; obtain ⟨l, sp, wp⟩ := Eh Tryz.underlying25 Gf (by decide) (KY W) h3; exact ⟨⟨v0, v1, v2, v3, c, r, e, l⟩, rfl, ⟨sc, sr, se, sp, wc, wr, we, wp⟩⟩
abbrev KN : Value := .agg #[.slice none 0 0, .slice none 0 0, .slice none 0 0, .slice none 0 0]
end Go.Proofs.YtgohddfnhofjhaaGreatDoor

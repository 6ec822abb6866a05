/- Gets among the arguments. -/
import Derived.Test.YtgohddfnhofjhaaGreatDoorB27
import Derived.Test.YtgohddfnhofjhaaGreatDoorB12
import Derived.Lib.SmallJoins
import Derived.Test.YtgohddfnhofjhaaGreatDoorB09
import Derived.Test.YtgohddfnhofjhaaGreatDoorB10
namespace Go.Proofs.YtgohddfnhofjhaaGreatDoor
open Go.RowKit Go.ChangeShapes Go.WideShapes Go.Deep
set_option maxRecDepth 100000

theorem cellsIntT : Tryz.prog.cellsOf 3 = 1 := by kernel_rfl
theorem cellsStrT : Tryz.prog.cellsOf 9 = 1 := by kernel_rfl
theorem cellsT : Tryz.prog.cellsOf 37 = 3 := by kernel_rfl

theorem decT (w : World) : Dec Tryz.prog w 37 encT WfT := by
  intro H enc n cs x h
  obtain ⟨y0, y1, y2, n, _, hl, h0, h1, h2⟩ := trod_struct3 Tryz.underlying37 h
  rw [cellsT] at hl
  match cs, hl with
  | [a, b, c], _ =>
    simp only [cellsIntT, cellsStrT] at h0 h1 h2
    obtain ⟨a', e0, _, w0⟩ := DataW.trod_int Tryz.underlying3 h0
    obtain ⟨b', e1, _, w1⟩ := DataW.trod_string Tryz.underlying9 h1
    obtain ⟨c', e2, _, w2⟩ := DataW.trod_string Tryz.underlying9 h2
    simp at e0 e1 e2
    subst e0 e1 e2
    exact ⟨⟨a', b', c'⟩, rfl, by simpa [WfT, maxLen] using ⟨w1, w2⟩⟩
end Go.Proofs.YtgohddfnhofjhaaGreatDoor

/- Rules and releases among the arguments. -/
namespace Go.Proofs.YtgohddfnhofjhaaGreatDoor
open Go.RowKit Go.ChangeShapes Go.WideShapes Go.Deep
set_option maxRecDepth 100000

theorem cellsIntE : Tryz.prog.cellsOf 3 = 1 := by kernel_rfl
theorem cellsStrE : Tryz.prog.cellsOf 9 = 1 := by kernel_rfl
theorem cellsBoolE : Tryz.prog.cellsOf 4 = 1 := by kernel_rfl
theorem cellsU : Tryz.prog.cellsOf 126 = 4 := by kernel_rfl
theorem cellsL : Tryz.prog.cellsOf 77 = 4 := by kernel_rfl

theorem decU (w : World) : Dec Tryz.prog w 126 encU WfU := by
  intro H enc n cs x h
  obtain ⟨y0, y1, y2, y3, n, _, hl, h0, h1, h2, h3⟩ := Go.Joins.trod_struct4 Tryz.underlying126 h
  rw [cellsU] at hl
  match cs, hl with
  | [a, b, c, d], _ =>
    simp only [cellsIntE, cellsStrE] at h0 h1 h2 h3
    obtain ⟨a', e0, _, w0⟩ := DataW.trod_string Tryz.underlying9 h0
    obtain ⟨b', e1, _, w1⟩ := DataW.trod_int Tryz.underlying3 h1
    obtain ⟨c', e2, _, w2⟩ := DataW.trod_int Tryz.underlying3 h2
    obtain ⟨d', e3, _, w3⟩ := DataW.trod_int Tryz.underlying3 h3
    simp at e0 e1 e2 e3
    subst e0 e1 e2 e3
    exact ⟨⟨a', b', c', d'⟩, rfl, by simpa [WfU, maxLen] using w0⟩

theorem decL (w : World) : Dec Tryz.prog w 77 encL WfL := by
  intro H enc n cs x h
  obtain ⟨y0, y1, y2, y3, n, _, hl, h0, h1, h2, h3⟩ := Go.Joins.trod_struct4 Tryz.underlying77 h
  rw [cellsL] at hl
  match cs, hl with
  | [a, b, c, d], _ =>
    simp only [cellsIntE, cellsStrE, cellsBoolE] at h0 h1 h2 h3
    obtain ⟨a', e0, _, w0⟩ := DataW.trod_string Tryz.underlying9 h0
    obtain ⟨b', e1, _, w1⟩ := DataW.trod_int Tryz.underlying3 h1
    obtain ⟨c', e2, _, w2⟩ := DataW.trod_int Tryz.underlying3 h2
    obtain ⟨d', e3, _⟩ := DataW.trod_bool Tryz.underlying4 h3
    simp at e0 e1 e2 e3
    subst e0 e1 e2 e3
    exact ⟨⟨a', b', c', d'⟩, rfl, by simpa [WfL, maxLen] using w0⟩
end Go.Proofs.YtgohddfnhofjhaaGreatDoor

/- A delivery among the arguments. -/
namespace Go.Proofs.YtgohddfnhofjhaaGreatDoor
open Go.RowKit Go.ChangeShapes Go.WideShapes Go.Deep
set_option maxRecDepth 100000

theorem cellsC : Tryz.prog.cellsOf 47 = 4 := by kernel_rfl
theorem cellsG : Tryz.prog.cellsOf 74 = 2 := by kernel_rfl
theorem decC (w : World) : Dec Tryz.prog w 47 encC WfC := by
  intro H enc n cs x h
  obtain ⟨y0, y1, y2, y3, n, _, hl, h0, h1, h2, h3⟩ := Go.Joins.trod_struct4 Tryz.underlying47 h
  rw [cellsC] at hl
  match cs, hl with
  | [a, b, c, d], _ =>
    simp only [cellsIntE, cellsStrE] at h0 h1 h2 h3
    obtain ⟨a', e0, _, w0⟩ := DataW.trod_string Tryz.underlying9 h0
    obtain ⟨b', e1, _, w1⟩ := DataW.trod_string Tryz.underlying9 h1
    obtain ⟨c', e2, _, w2⟩ := DataW.trod_int Tryz.underlying3 h2
    obtain ⟨d', e3, _, w3⟩ := DataW.trod_int Tryz.underlying3 h3
    simp at e0 e1 e2 e3
    subst e0 e1 e2 e3
    exact ⟨⟨a', b', c', d'⟩, rfl, by simpa [WfC, maxLen] using ⟨w0, w1⟩⟩
theorem decG (w : World) : Dec Tryz.prog w 74 encG WfG := by
  intro H enc n cs x h
  obtain ⟨y0, y1, n, _, hl, h0, h1⟩ := trod_struct2 Tryz.underlying74 h
  rw [cellsG] at hl
  match cs, hl with
  | [a, b], _ =>
    simp only [cellsIntE, cellsStrE] at h0 h1
    obtain ⟨a', e0, _, w0⟩ := DataW.trod_int Tryz.underlying3 h0
    obtain ⟨b', e1, _, w1⟩ := DataW.trod_string Tryz.underlying9 h1
    simp at e0 e1
    subst e0 e1
    exact ⟨⟨a', b'⟩, rfl, by simpa [WfG, maxLen] using w1⟩

theorem sl_of {α : Type} {H : Type} {enc : TypeId × Value → H} {w : World} {t E : TypeId} {k : Nat} {enc' : α → List Value} {wf : α → Prop} (ht : Tryz.prog.underlying t = some (.slice E)) (hk : Tryz.prog.cellsOf E = k) (hk0 : 0 < k)
    (hd : Dec Tryz.prog w E enc' wf) {n : Nat} {v : Value} {x : DataW H × List MemPlace} (h : DataW.trod enc Tryz.prog w 0 (fun _ => true) true n t [v] = some x) : ∃ l, Sl w k enc' v l ∧ ∀ y, y ∈ l → wf y := by
  have h' := h
  rcases open_slice ht h with ⟨hcs, hx⟩ | ⟨a', len', cap', m, n, D, Pl, hcs, hb, hl, hm, hmm, hx, hel⟩
  · simp only [List.cons.injEq, and_true] at hcs
    subst hcs
    exact ⟨[], Sl.nil, fun y hy => by simp at hy⟩
  · simp only [List.cons.injEq, and_true] at hcs
    subst hcs
    obtain ⟨l, hs, hw, _⟩ := sl_open ht hk hk0 hd (d := x.1) (p := x.2) ⟨_, h'⟩
    exact ⟨l, hs, hw⟩

/-- A delivery: its four slices, and what they read as. -/
structure Dlv where
  vc : Value
  vr : Value
  ve : Value
  vp : Value
  c : List Cch
  r : List Crl
  e : List Rel
  l : List Pur
structure DlvOk (w : World) (y : Dlv) : Prop where
  sc : Sl w 4 encC y.vc y.c
  sr : Sl w 4 encU y.vr y.r
  se : Sl w 4 encL y.ve y.e
  sp : Sl w 2 encG y.vp y.l
  wc : ∀ x, x ∈ y.c → WfC x
  wr : ∀ x, x ∈ y.r → WfU x
  we : ∀ x, x ∈ y.e → WfL x
  wp : ∀ x, x ∈ y.l → WfG x
theorem openD {H : Type} {enc : TypeId × Value → H} {r : Reach} {b0 : Nat} (W : World) (v : Value) (d : DataW H) (p : List MemPlace) (hv : Value.okWide Tryz.prog W r b0 27 v)
    (h : DataW.Trod enc Tryz.prog W 0 (fun _ => true) true 27 v d p) : ∃ y : Dlv, v = .agg #[y.vc, y.vr, y.ve, y.vp] ∧ DlvOk W y := by
  obtain ⟨v0, v1, v2, v3, y0, y1, y2, y3, n, rfl, _, _, h0, h1, h2, h3⟩ := Go.Joins.open_agg4 Tryz.underlying27 (by kernel_rfl) (by kernel_rfl) hv h
  obtain ⟨c, sc, wc⟩ := sl_of Tryz.underlying22 cellsC (by decide) (decC W) h0
  obtain ⟨r, sr, wr⟩ := sl_of Tryz.underlying23 cellsU (by decide) (decU W) h1
  obtain ⟨e, se, we⟩ := sl_of Tryz.underlying24 cellsL (by decide) (decL W) h2
  obtain ⟨l, sp, wp⟩ := sl_of Tryz.underlying25 cellsG (by decide) (decG W) h3
  exact ⟨⟨v0, v1, v2, v3, c, r, e, l⟩, rfl, ⟨sc, sr, se, sp, wc, wr, we, wp⟩⟩
abbrev witD : Value := .agg #[.slice none 0 0, .slice none 0 0, .slice none 0 0, .slice none 0 0]
end Go.Proofs.YtgohddfnhofjhaaGreatDoor

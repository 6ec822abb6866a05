/- A delivery among the arguments. -/
import Derived.Test.YtmgbmoiefgfemaaDoorOpenE
import Derived.Test.YtmgbmoiefgfemaaDoorCchD
namespace Go.Proofs.YtmgbmoiefgfemaaDoor
open Go.RowKit Go.ChangeShapes Go.WideShapes Go.Deep
set_option maxRecDepth 100000

theorem cellsC : Tryd.prog.cellsOf 74 = 4 := by kernel_rfl
theorem cellsG : Tryd.prog.cellsOf 80 = 2 := by kernel_rfl
theorem decC (w : World) : Dec Tryd.prog w 74 encC WfC := by
  intro H enc n cs x h
  obtain ⟨y0, y1, y2, y3, n, _, hl, h0, h1, h2, h3⟩ := Go.Joins.trod_struct4 Tryd.underlying74 h
  rw [cellsC] at hl
  match cs, hl with
  | [a, b, c, d], _ =>
    simp only [cellsIntE, cellsStrE] at h0 h1 h2 h3
    obtain ⟨a', e0, _, w0⟩ := DataW.trod_string Tryd.underlying9 h0
    obtain ⟨b', e1, _, w1⟩ := DataW.trod_string Tryd.underlying9 h1
    obtain ⟨c', e2, _, w2⟩ := DataW.trod_int Tryd.underlying3 h2
    obtain ⟨d', e3, _, w3⟩ := DataW.trod_int Tryd.underlying3 h3
    simp at e0 e1 e2 e3
    subst e0 e1 e2 e3
    exact ⟨⟨a', b', c', d'⟩, rfl, by simpa [WfC, maxLen] using ⟨w0, w1⟩⟩
theorem decG (w : World) : Dec Tryd.prog w 80 encG WfG := by
  intro H enc n cs x h
  obtain ⟨y0, y1, n, _, hl, h0, h1⟩ := trod_struct2 Tryd.underlying80 h
  rw [cellsG] at hl
  match cs, hl with
  | [a, b], _ =>
    simp only [cellsIntE, cellsStrE] at h0 h1
    obtain ⟨a', e0, _, w0⟩ := DataW.trod_int Tryd.underlying3 h0
    obtain ⟨b', e1, _, w1⟩ := DataW.trod_string Tryd.underlying9 h1
    simp at e0 e1
    subst e0 e1
    exact ⟨⟨a', b'⟩, rfl, by simpa [WfG, maxLen] using w1⟩

theorem sl_of {α : Type} {H : Type} {enc : TypeId × Value → H} {w : World} {t E : TypeId} {k : Nat} {enc' : α → List Value} {wf : α → Prop} (ht : Tryd.prog.underlying t = some (.slice E)) (hk : Tryd.prog.cellsOf E = k) (hk0 : 0 < k)
    (hd : Dec Tryd.prog w E enc' wf) {n : Nat} {v : Value} {x : DataW H × List MemPlace} (h : DataW.trod enc Tryd.prog w 0 (fun _ => true) true n t [v] = some x) : ∃ l, Sl w k enc' v l ∧ ∀ y, y ∈ l → wf y := by
  have h' := h
  rcases open_slice ht h with ⟨hcs, hx⟩ | ⟨a', len', cap', m, n, D, Pl, hcs, hb, hl, hm, hmm, hx, hel⟩
  · simp only [List.cons.injEq, and_true] at hcs
    subst hcs
    exact ⟨[], Sl.nil, fun y hy => by simp at hy⟩
  · simp only [List.cons.injEq, and_true] at hcs
    subst hcs
    obtain ⟨l, hs, hw, _⟩ := sl_open ht hk hk0 hd (d := x.1) (p := x.2) ⟨_, h'⟩
    exact ⟨l, hs, hw⟩

/-- A delivery: its four slices, and what they read as. -/
structure Dlv where
  vc : Value
  vr : Value
  ve : Value
  vp : Value
  c : List Cch
  r : List Crl
  e : List Rel
  l : List Pur
structure DlvOk (w : World) (y : Dlv) : Prop where
  sc : Sl w 4 encC y.vc y.c
  sr : Sl w 4 encU y.vr y.r
  se : Sl w 4 encL y.ve y.e
  sp : Sl w 2 encG y.vp y.l
  wc : ∀ x, x ∈ y.c → WfC x
  wr : ∀ x, x ∈ y.r → WfU x
  we : ∀ x, x ∈ y.e → WfL x
  wp : ∀ x, x ∈ y.l → WfG x
theorem openD {H : Type} {enc : TypeId × Value → H} {r : Reach} {b0 : Nat} (W : World) (v : Value) (d : DataW H) (p : List MemPlace) (hv : Value.okWide Tryd.prog W r b0 40 v)
    (h : DataW.Trod enc Tryd.prog W 0 (fun _ => true) true 40 v d p) : ∃ y : Dlv, v = .agg #[y.vc, y.vr, y.ve, y.vp] ∧ DlvOk W y := by
  obtain ⟨v0, v1, v2, v3, y0, y1, y2, y3, n, rfl, _, _, h0, h1, h2, h3⟩ := Go.Joins.open_agg4 Tryd.underlying40 (by kernel_rfl) (by kernel_rfl) hv h
  obtain ⟨c, sc, wc⟩ := sl_of Tryd.underlying37 cellsC (by decide) (decC W) h0
  obtain ⟨r, sr, wr⟩ := sl_of Tryd.underlying22 cellsU (by decide) (decU W) h1
  obtain ⟨e, se, we⟩ := sl_of Tryd.underlying23 cellsL (by decide) (decL W) h2
  obtain ⟨l, sp, wp⟩ := sl_of Tryd.underlying38 cellsG (by decide) (decG W) h3
  exact ⟨⟨v0, v1, v2, v3, c, r, e, l⟩, rfl, ⟨sc, sr, se, sp, wc, wr, we, wp⟩⟩
abbrev witD : Value := .agg #[.slice none 0 0, .slice none 0 0, .slice none 0 0, .slice none 0 0]
end Go.Proofs.YtmgbmoiefgfemaaDoor

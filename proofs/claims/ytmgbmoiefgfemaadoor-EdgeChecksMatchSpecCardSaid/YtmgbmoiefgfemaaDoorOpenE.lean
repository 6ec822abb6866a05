/- Rules and releases among the arguments. -/
import Derived.Test.YtmgbmoiefgfemaaDoorOpen
import Derived.Test.YtmgbmoiefgfemaaDoorEdD
import Derived.Lib.SmallJoins
namespace Go.Proofs.YtmgbmoiefgfemaaDoor
open Go.RowKit Go.ChangeShapes Go.WideShapes Go.Deep
set_option maxRecDepth 100000

theorem cellsIntE : Tryd.prog.cellsOf 3 = 1 := by kernel_rfl
theorem cellsStrE : Tryd.prog.cellsOf 9 = 1 := by kernel_rfl
theorem cellsBoolE : Tryd.prog.cellsOf 4 = 1 := by kernel_rfl
theorem cellsU : Tryd.prog.cellsOf 25 = 4 := by kernel_rfl
theorem cellsL : Tryd.prog.cellsOf 32 = 4 := by kernel_rfl

theorem decU (w : World) : Dec Tryd.prog w 25 encU WfU := by
  intro H enc n cs x h
  obtain ⟨y0, y1, y2, y3, n, _, hl, h0, h1, h2, h3⟩ := Go.Joins.trod_struct4 Tryd.underlying25 h
  rw [cellsU] at hl
  match cs, hl with
  | [a, b, c, d], _ =>
    simp only [cellsIntE, cellsStrE] at h0 h1 h2 h3
    obtain ⟨a', e0, _, w0⟩ := DataW.trod_string Tryd.underlying9 h0
    obtain ⟨b', e1, _, w1⟩ := DataW.trod_int Tryd.underlying3 h1
    obtain ⟨c', e2, _, w2⟩ := DataW.trod_int Tryd.underlying3 h2
    obtain ⟨d', e3, _, w3⟩ := DataW.trod_int Tryd.underlying3 h3
    simp at e0 e1 e2 e3
    subst e0 e1 e2 e3
    exact ⟨⟨a', b', c', d'⟩, rfl, by simpa [WfU, maxLen] using w0⟩

theorem decL (w : World) : Dec Tryd.prog w 32 encL WfL := by
  intro H enc n cs x h
  obtain ⟨y0, y1, y2, y3, n, _, hl, h0, h1, h2, h3⟩ := Go.Joins.trod_struct4 Tryd.underlying32 h
  rw [cellsL] at hl
  match cs, hl with
  | [a, b, c, d], _ =>
    simp only [cellsIntE, cellsStrE, cellsBoolE] at h0 h1 h2 h3
    obtain ⟨a', e0, _, w0⟩ := DataW.trod_string Tryd.underlying9 h0
    obtain ⟨b', e1, _, w1⟩ := DataW.trod_int Tryd.underlying3 h1
    obtain ⟨c', e2, _, w2⟩ := DataW.trod_int Tryd.underlying3 h2
    obtain ⟨d', e3, _⟩ := DataW.trod_bool Tryd.underlying4 h3
    simp at e0 e1 e2 e3
    subst e0 e1 e2 e3
    exact ⟨⟨a', b', c', d'⟩, rfl, by simpa [WfL, maxLen] using w0⟩
end Go.Proofs.YtmgbmoiefgfemaaDoor

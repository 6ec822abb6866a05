/- Renditions among the arguments. -/
import Derived.Test.YtengfdbaebkgeaaDoorOpen
import Derived.Test.YtengfdbaebkgeaaDoorRenD
import Derived.Lib.SmallJoins
namespace Go.Proofs.YtengfdbaebkgeaaDoor
open Go.RowKit Go.ChangeShapes Go.WideShapes Go.Deep

theorem cellsIntR : Tryd.prog.cellsOf 3 = 1 := by kernel_rfl
theorem cellsStrR : Tryd.prog.cellsOf 9 = 1 := by kernel_rfl
theorem cellsR : Tryd.prog.cellsOf 28 = 4 := by kernel_rfl

theorem decR (w : World) : Dec Tryd.prog w 28 encR WfR := by
  intro H enc n cs x h
  obtain ⟨y0, y1, y2, y3, n, _, hl, h0, h1, h2, h3⟩ := Go.Joins.trod_struct4 Tryd.underlying28 h
  rw [cellsR] at hl
  match cs, hl with
  | [a, b, c, d], _ =>
    simp only [cellsIntR, cellsStrR] at h0 h1 h2 h3
    obtain ⟨a', e0, _, w0⟩ := DataW.trod_string Tryd.underlying9 h0
    obtain ⟨b', e1, _, w1⟩ := DataW.trod_int Tryd.underlying3 h1
    obtain ⟨c', e2, _, w2⟩ := DataW.trod_int Tryd.underlying3 h2
    obtain ⟨d', e3, _, w3⟩ := DataW.trod_int Tryd.underlying3 h3
    simp at e0 e1 e2 e3
    subst e0 e1 e2 e3
    exact ⟨⟨a', b', c', d'⟩, rfl, by simpa [WfR, maxLen] using w0⟩
end Go.Proofs.YtengfdbaebkgeaaDoor

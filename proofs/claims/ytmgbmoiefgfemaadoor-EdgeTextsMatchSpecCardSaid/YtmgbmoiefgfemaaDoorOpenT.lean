/- Gets among the arguments. -/
import Derived.Test.YtmgbmoiefgfemaaDoorOpen
import Derived.Test.YtmgbmoiefgfemaaDoorTxtE
import Derived.Lib.SmallJoins
namespace Go.Proofs.YtmgbmoiefgfemaaDoor
open Go.RowKit Go.ChangeShapes Go.WideShapes Go.Deep
set_option maxRecDepth 100000

theorem cellsIntT : Tryd.prog.cellsOf 3 = 1 := by kernel_rfl
theorem cellsStrT : Tryd.prog.cellsOf 9 = 1 := by kernel_rfl
theorem cellsT : Tryd.prog.cellsOf 60 = 3 := by kernel_rfl

theorem decT (w : World) : Dec Tryd.prog w 60 encT WfT := by
  intro H enc n cs x h
  obtain ⟨y0, y1, y2, n, _, hl, h0, h1, h2⟩ := trod_struct3 Tryd.underlying60 h
  rw [cellsT] at hl
  match cs, hl with
  | [a, b, c], _ =>
    simp only [cellsIntT, cellsStrT] at h0 h1 h2
    obtain ⟨a', e0, _, w0⟩ := DataW.trod_int Tryd.underlying3 h0
    obtain ⟨b', e1, _, w1⟩ := DataW.trod_string Tryd.underlying9 h1
    obtain ⟨c', e2, _, w2⟩ := DataW.trod_string Tryd.underlying9 h2
    simp at e0 e1 e2
    subst e0 e1 e2
    exact ⟨⟨a', b', c'⟩, rfl, by simpa [WfT, maxLen] using ⟨w1, w2⟩⟩
end Go.Proofs.YtmgbmoiefgfemaaDoor

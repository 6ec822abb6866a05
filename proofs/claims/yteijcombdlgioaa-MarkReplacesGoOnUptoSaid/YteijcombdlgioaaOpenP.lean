/- A part among the arguments. -/
import Derived.Test.YteijcombdlgioaaOpen
import Derived.Test.YteijcombdlgioaaPart
namespace Go.Proofs.Yteijcombdlgioaa
open Go.RowKit Go.ChangeShapes Go.WideShapes Go.Deep

theorem cellsIntP : Try.prog.cellsOf 3 = 1 := by kernel_rfl
theorem cellsStrP : Try.prog.cellsOf 9 = 1 := by kernel_rfl
theorem cellsP : Try.prog.cellsOf 34 = 3 := by kernel_rfl

theorem decP (w : World) : Dec Try.prog w 34 encP WfP := by
  intro H enc n cs x h
  obtain ⟨y0, y1, y2, n, _, hl, h0, h1, h2⟩ := trod_struct3 Try.underlying34 h
  rw [cellsP] at hl
  match cs, hl with
  | [a, b, c], _ =>
    simp only [cellsIntP, cellsStrP] at h0 h1 h2
    obtain ⟨a', e0, _, w0⟩ := DataW.trod_string Try.underlying9 h0
    obtain ⟨b', e1, _, w1⟩ := DataW.trod_int Try.underlying3 h1
    obtain ⟨c', e2, _, w2⟩ := DataW.trod_int Try.underlying3 h2
    simp at e0 e1 e2
    subst e0 e1 e2
    exact ⟨⟨a', b', c'⟩, rfl, by simpa [maxLen] using w0, I64.of w1, I64.of w2⟩
end Go.Proofs.Yteijcombdlgioaa

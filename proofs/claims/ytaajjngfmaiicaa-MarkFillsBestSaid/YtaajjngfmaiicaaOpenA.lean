/- An advertisement among the arguments. -/
import Derived.Test.YtaajjngfmaiicaaOpen
import Derived.Test.YtaajjngfmaiicaaFillL
import Derived.Lib.SmallJoins
namespace Go.Proofs.Ytaajjngfmaiicaa
open Go.RowKit Go.ChangeShapes Go.WideShapes Go.Deep

theorem cellsIntA : Try.prog.cellsOf 3 = 1 := by kernel_rfl
theorem cellsStrA : Try.prog.cellsOf 9 = 1 := by kernel_rfl
theorem cellsA : Try.prog.cellsOf 29 = 4 := by kernel_rfl

theorem decA (w : World) : Dec Try.prog w 29 encA WfA := by
  intro H enc n cs x h
  obtain ⟨y0, y1, y2, y3, n, _, hl, h0, h1, h2, h3⟩ := Go.Joins.trod_struct4 Try.underlying29 h
  rw [cellsA] at hl
  match cs, hl with
  | [a, b, c, d], _ =>
    simp only [cellsIntA, cellsStrA] at h0 h1 h2 h3
    obtain ⟨a', e0, _, w0⟩ := DataW.trod_string Try.underlying9 h0
    obtain ⟨b', e1, _, w1⟩ := DataW.trod_int Try.underlying3 h1
    obtain ⟨c', e2, _, w2⟩ := DataW.trod_int Try.underlying3 h2
    obtain ⟨d', e3, _, w3⟩ := DataW.trod_string Try.underlying9 h3
    simp at e0 e1 e2 e3
    subst e0 e1 e2 e3
    exact ⟨⟨a', b', c', d'⟩, rfl, by simpa [maxLen] using w0, by simpa [maxLen] using w3⟩
end Go.Proofs.Ytaajjngfmaiicaa

/- A break among the arguments. -/
import Derived.Test.YtaknkldbdijkeaaOpen
import Derived.Test.YtaknkldbdijkeaaCb
namespace Go.Proofs.Ytaknkldbdijkeaa
open Go.RowKit Go.ChangeShapes Go.WideShapes Go.Deep

theorem cellsInt : Try.prog.cellsOf 3 = 1 := by kernel_rfl
theorem cellsB : Try.prog.cellsOf 29 = 3 := by kernel_rfl

theorem decB (w : World) : Dec Try.prog w 29 encB (fun x => I64 x.ev ∧ I64 x.be ∧ I64 x.en) := by
  intro H enc n cs x h
  obtain ⟨y0, y1, y2, n, _, hl, h0, h1, h2⟩ := trod_struct3 Try.underlying29 h
  rw [cellsB] at hl
  match cs, hl with
  | [a, b, c], _ =>
    simp only [cellsInt] at h0 h1 h2
    obtain ⟨a', e0, _, w0⟩ := DataW.trod_int Try.underlying3 h0
    obtain ⟨b', e1, _, w1⟩ := DataW.trod_int Try.underlying3 h1
    obtain ⟨c', e2, _, w2⟩ := DataW.trod_int Try.underlying3 h2
    simp at e0 e1 e2
    subst e0 e1 e2
    exact ⟨⟨a', b', c'⟩, rfl, I64.of w0, I64.of w1, I64.of w2⟩
end Go.Proofs.Ytaknkldbdijkeaa

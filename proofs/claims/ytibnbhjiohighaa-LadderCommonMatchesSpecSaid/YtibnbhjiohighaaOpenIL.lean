/- An int among the elements of a slice. -/
import Derived.Test.YtibnbhjiohighaaOpen
import Derived.Test.YtibnbhjiohighaaLib
namespace Go.Proofs.Ytibnbhjiohighaa
open Go.RowKit Go.ChangeShapes Go.WideShapes Go.Deep

theorem cellsI : Try.prog.cellsOf 3 = 1 := by kernel_rfl
theorem decI (w : World) : Dec Try.prog w 3 encI I64 := by
  intro H enc n cs x h
  obtain ⟨b', e1, _, w1⟩ := DataW.trod_int Try.underlying3 h
  subst e1
  exact ⟨b', rfl, I64.of w1⟩
end Go.Proofs.Ytibnbhjiohighaa

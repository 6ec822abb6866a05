/- Strings among the arguments. -/
import Derived.Test.YtmgbmoiefgfemaaDoorOpen
import Derived.Test.YtmgbmoiefgfemaaDoorTidy
namespace Go.Proofs.YtmgbmoiefgfemaaDoor
open Go.RowKit Go.ChangeShapes Go.WideShapes Go.Deep

def WfY (x : ByteArray) : Prop := x.size ≤ 9223372036854775807
theorem cellsY : Tryd.prog.cellsOf 9 = 1 := by kernel_rfl
theorem decY (w : World) : Dec Tryd.prog w 9 encS WfY := by
  intro H enc n cs x h
  obtain ⟨s, h1, _, h2⟩ := DataW.trod_string Tryd.underlying9 h
  exact ⟨s, h1, by simpa [maxLen, WfY] using h2⟩
end Go.Proofs.YtmgbmoiefgfemaaDoor

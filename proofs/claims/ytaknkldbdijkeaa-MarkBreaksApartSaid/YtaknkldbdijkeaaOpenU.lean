/- Bytes among the arguments. -/
import Derived.Test.YtaknkldbdijkeaaOpen
import Derived.Test.YtaknkldbdijkeaaSum
namespace Go.Proofs.Ytaknkldbdijkeaa
open Go.RowKit Go.ChangeShapes Go.WideShapes Go.Deep

theorem cellsU : Try.prog.cellsOf 5 = 1 := by kernel_rfl
theorem bytesU : Try.prog.bytesOf 5 = 1 := by kernel_rfl

theorem decU (w : World) : Dec Try.prog w 5 encU (fun _ => True) := by
  intro H enc n cs x h
  obtain ⟨a, e0, _, w0⟩ := DataW.trod_int Try.underlying5 h
  have hb := bounds_u8 w0
  subst e0
  refine ⟨UInt8.ofNat a.toNat, ?_, trivial⟩
  simp [encU, UInt8.toNat_ofNat']
  omega
end Go.Proofs.Ytaknkldbdijkeaa

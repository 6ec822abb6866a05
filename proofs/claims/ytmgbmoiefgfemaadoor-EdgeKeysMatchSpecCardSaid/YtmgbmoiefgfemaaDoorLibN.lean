/- Contracts of the library, laid by the shelf at this seat. -/
import Derived.Shelf.Slices.Clone
import Derived.Shelf.SlGeneric
import Derived.Test.YtmgbmoiefgfemaaDoorProg
namespace Go.Proofs
open Go.Shelf
def Tryd.laysClnS_ren : Go.Shelf.Ren := ⟨fun | 16 => 79 | n => n, fun | 24 => 44 | 9 => 9 | 4 => 4 | n => n, fun | n => n⟩
theorem Tryd.laysClnS : Go.Proofs.Lays2.n16 Tryd.prog Tryd.laysClnS_ren := {
  mixed := by kernel_rfl
  f16 := Tryd.func79.trans (congrArg some (by kernel_rfl))
  t4 := Tryd.underlying4
  a4 := Tryd.isAgg4
  z4 := Tryd.sizeOf4
  v4 := Tryd.zeroValue4
  t9 := Tryd.underlying9
  a9 := Tryd.isAgg9
  z9 := Tryd.sizeOf9
  v9 := Tryd.zeroValue9
  t24 := Tryd.underlying44
  a24 := Tryd.isAgg44
  z24 := Tryd.sizeOf44
  v24 := Tryd.zeroValue44
  i9 := by kernel_rfl }
end Go.Proofs

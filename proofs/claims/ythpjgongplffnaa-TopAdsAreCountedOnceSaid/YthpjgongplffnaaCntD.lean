/- Events and counts, as values. -/
import Derived.Test.YthpjgongplffnaaLib
import Derived.Test.YthpjgongplffnaaPartK
namespace Go.Proofs.Ythpjgongplffnaa
open Go.RowKit

structure Ev where
  se : ByteArray
  pl : Int
  ad : ByteArray
  ki : Int
instance : Inhabited Ev := ⟨⟨ByteArray.empty, 0, ByteArray.empty, 0⟩⟩
abbrev encE (e : Ev) : List Value := [.string e.se, .int .i64 e.pl, .string e.ad, .int .i64 e.ki]
theorem encE_len (e : Ev) : (encE e).length = 4 := rfl
/-- A count: how many began, and so on. -/
structure Cnt where
  ad : ByteArray
  k0 : Int
  k1 : Int
  k2 : Int
  k3 : Int
  k4 : Int
instance : Inhabited Cnt := ⟨⟨ByteArray.empty, 0, 0, 0, 0, 0⟩⟩
abbrev encK (c : Cnt) : List Value := [.string c.ad, .int .i64 c.k0, .int .i64 c.k1, .int .i64 c.k2, .int .i64 c.k3, .int .i64 c.k4]
theorem encK_len (c : Cnt) : (encK c).length = 6 := rfl
abbrev aggK (c : Cnt) : Value := .agg #[.string c.ad, .int .i64 c.k0, .int .i64 c.k1, .int .i64 c.k2, .int .i64 c.k3, .int .i64 c.k4]
end Go.Proofs.Ythpjgongplffnaa

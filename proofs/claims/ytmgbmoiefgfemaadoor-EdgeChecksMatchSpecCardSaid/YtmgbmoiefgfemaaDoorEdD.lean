/- Rules, releases, caches, purges; plain. -/
import Derived.Test.YtmgbmoiefgfemaaDoorReq
namespace Go.Proofs.YtmgbmoiefgfemaaDoor
open Go.RowKit

structure Crl where
  pr : ByteArray
  li : Int
  st : Int
  go : Int
instance : Inhabited Crl := ⟨⟨ByteArray.empty, 0, 0, 0⟩⟩
def encU (x : Crl) : List Value := [.string x.pr, .int .i64 x.li, .int .i64 x.st, .int .i64 x.go]
theorem encU_len (x : Crl) : (encU x).length = 4 := rfl
def WfU (x : Crl) : Prop := x.pr.size ≤ 9223372036854775807

structure Rel where
  ke : ByteArray
  ti : Int
  si : Int
  go : Bool
instance : Inhabited Rel := ⟨⟨ByteArray.empty, 0, 0, false⟩⟩
def encL (x : Rel) : List Value := [.string x.ke, .int .i64 x.ti, .int .i64 x.si, .bool x.go]
theorem encL_len (x : Rel) : (encL x).length = 4 := rfl
def WfL (x : Rel) : Prop := x.ke.size ≤ 9223372036854775807

def sleB (a b : ByteArray) : Bool := Op.bytesLess a.toList b.toList || a.toList == b.toList
def ordU (x p : Crl) (i : Nat) : Bool := decide (0 < i) && sleB x.pr p.pr
def cuOf (x p : Crl) (i : Nat) : Int :=
  if (!reqB x.pr) = true then 3 else if (ordU x p i) = true then 8 else if (outB x.li 0 1000000000 || outB x.st 0 1000000000 || outB x.go 0 1000000000) = true then 1 else 0
def cuAt (l : List Crl) (i : Nat) : Int := cuOf (l.getD i default) (l.getD (i - 1) default) i
/-- The fault of rules. -/
def checkU (l : List Crl) : Int := if 100 < l.length then 2 else FF (cuAt l) l.length

def ordL (x p : Rel) (i : Nat) : Bool := decide (0 < i) && (Op.bytesLess x.ke.toList p.ke.toList || ((x.ke.toList == p.ke.toList) && decide (x.ti ≤ p.ti)))
def clOf (x p : Rel) (i : Nat) : Int :=
  if (!reqB x.ke) = true then 3 else if (outB x.ti 0 1000000000000) = true then 1 else if (x.go && x.si != 0) = true then 3 else if (!x.go && outB x.si 1 1000000000) = true then 1 else if (ordL x p i) = true then 8 else 0
def clAt (l : List Rel) (i : Nat) : Int := clOf (l.getD i default) (l.getD (i - 1) default) i
/-- The fault of releases. -/
def checkL (l : List Rel) : Int := if 1000 < l.length then 2 else FF (clAt l) l.length
end Go.Proofs.YtmgbmoiefgfemaaDoor

/- Caches and purges, deliveries; plain. -/
import Derived.Test.YtmgbmoiefgfemaaDoorEdD
namespace Go.Proofs.YtmgbmoiefgfemaaDoor
open Go.RowKit

structure Cch where
  na : ByteArray
  pa : ByteArray
  de : Int
  ro : Int
instance : Inhabited Cch := ⟨⟨ByteArray.empty, ByteArray.empty, 0, 0⟩⟩
def encC (x : Cch) : List Value := [.string x.na, .string x.pa, .int .i64 x.de, .int .i64 x.ro]
theorem encC_len (x : Cch) : (encC x).length = 4 := rfl
def WfC (x : Cch) : Prop := x.na.size ≤ 9223372036854775807 ∧ x.pa.size ≤ 9223372036854775807
def isC (o : Cch) (n : ByteArray) : Bool := o.na.toList == n.toList
/-- Is there a cache with a name? -/
def hasC (l : List Cch) (n : ByteArray) : Bool := l.any fun o => isC o n
def parB (x : Cch) (hp : Bool) : Bool := !decide (x.pa = ⟨#[]⟩) && !hp
def ccOf (x : Cch) (tw hp : Bool) : Int :=
  if (!nameB x.na) = true then 5 else if tw = true then 7 else if (parB x hp) = true then 9 else if (outB x.de 1 100000 || outB x.ro 0 1000000000000) = true then 1 else 0
def ccAt (l : List Cch) (i : Nat) : Int := ccOf (l.getD i default) (hasC (l.take i) (l.getD i default).na) (hasC (l.take i) (l.getD i default).pa)
/-- The fault of caches. -/
def checkC (l : List Cch) : Int := if l.length = 0 then 9 else if 30 < l.length then 2 else FF (ccAt l) l.length

structure Pur where
  ti : Int
  ke : ByteArray
instance : Inhabited Pur := ⟨⟨0, ByteArray.empty⟩⟩
def encG (x : Pur) : List Value := [.int .i64 x.ti, .string x.ke]
theorem encG_len (x : Pur) : (encG x).length = 2 := rfl
def WfG (x : Pur) : Prop := x.ke.size ≤ 9223372036854775807
def ordG (x p : Pur) (i : Nat) : Bool := decide (0 < i) && (decide (x.ti < p.ti) || (x.ti == p.ti && sleB x.ke p.ke))
def cgOf (x p : Pur) (i : Nat) : Int :=
  if (outB x.ti 0 1000000000000) = true then 1 else if (!reqB x.ke) = true then 3 else if (ordG x p i) = true then 8 else 0
def cgAt (l : List Pur) (i : Nat) : Int := cgOf (l.getD i default) (l.getD (i - 1) default) i
/-- The fault of purges. -/
def checkG (l : List Pur) : Int := if 200 < l.length then 2 else FF (cgAt l) l.length
/-- The fault of a delivery. -/
def checkD (c : List Cch) (r : List Crl) (e : List Rel) (p : List Pur) : Int :=
  if checkC c ≠ 0 then checkC c else if checkU r ≠ 0 then checkU r else if checkL e ≠ 0 then checkL e else checkG p
theorem str_emp {x : ByteArray} (h : ¬ x = ⟨#[]⟩) : (x.toList == []) = false ∧ x.toList.isEmpty = false ∧ ¬ x.toList = [] := by
  have h1 : ¬ x.toList = [] := by
    rw [ByteArray.toList_eq]
    intro e
    apply h
    cases x with
    | mk d =>
      have : d = #[] := Array.toList_eq_nil_iff.1 e
      rw [this]
  exact ⟨by simp [h1], by simp [h1], h1⟩
end Go.Proofs.YtmgbmoiefgfemaaDoor

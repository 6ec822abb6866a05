/- Renditions that keep to a cap; plain. -/
import Derived.Test.YtlomnfaedhgciaaRenD
namespace Go.Proofs.Ytlomnfaedhgciaa
open Go.RowKit

def fitB (r h : Int) (x : Rng) : Bool := decide (x.ra ≤ r) && decide (x.he ≤ h)
/-- The numbers below k of renditions that fit. -/
def fitL (l : List Rng) (r h : Int) : Nat → List Int
  | 0 => []
  | k + 1 => if fitB r h (l.getD k default) then fitL l r h k ++ [(k : Int)] else fitL l r h k
/-- The first of those with the least height, below k. -/
def lowA (l : List Rng) : Nat → Nat
  | 0 => 0
  | k + 1 => if (l.getD k default).he < (l.getD (lowA l k) default).he then k else lowA l k
theorem fitL_len (l : List Rng) (r h : Int) : ∀ k, (fitL l r h k).length ≤ k
  | 0 => by simp [fitL]
  | k + 1 => by
    have := fitL_len l r h k
    unfold fitL
    split
    · simp; omega
    · omega
theorem lowA_le (l : List Rng) : ∀ k, lowA l k ≤ k - 1
  | 0 => by simp [lowA]
  | k + 1 => by
    have := lowA_le l k
    unfold lowA
    split <;> omega
def capF (l : List Rng) (r h : Int) : Int := if checkR l ≠ 0 then checkR l else if (outB r 0 1000000000 || outB h 1 10000) = true then 1 else 0
def capL (l : List Rng) (r h : Int) : List Int := if capF l r h ≠ 0 then [] else if (fitL l r h l.length).length = 0 ∧ 0 < l.length then [(lowA l l.length : Int)] else fitL l r h l.length
end Go.Proofs.Ytlomnfaedhgciaa

/- Renditions: their fault; plain. -/
import Derived.Test.YtfkmdojnkdoffaaName5
namespace Go.Proofs.Ytfkmdojnkdoffaa
open Go.RowKit

structure Rng where
  na : ByteArray
  ra : Int
  he : Int
  qu : Int
instance : Inhabited Rng := ⟨⟨ByteArray.empty, 0, 0, 0⟩⟩
def encR (x : Rng) : List Value := [.string x.na, .int .i64 x.ra, .int .i64 x.he, .int .i64 x.qu]
theorem encR_len (x : Rng) : (encR x).length = 4 := rfl
def WfR (x : Rng) : Prop := x.na.size ≤ 9223372036854775807

def sameN (a b : Rng) : Bool := a.na.toList == b.na.toList
def sle (a b : ByteArray) : Bool := Op.bytesLess a.toList b.toList || a.toList == b.toList
/-- Does a rendition not come behind the one before it? -/
def ordR (x p : Rng) (i : Nat) : Bool := decide (0 < i) && (decide (x.ra < p.ra) || (x.ra == p.ra && sle x.na p.na))
def crOf (x p : Rng) (i : Nat) (tw : Bool) : Int :=
  if nameB x.na = false then 5 else if (outB x.ra 1 1000000000 || outB x.he 1 10000 || outB x.qu 0 1000000) = true then 1 else if ordR x p i = true then 8 else if tw = true then 7 else 0
def crAt (l : List Rng) (i : Nat) : Int := crOf (l.getD i default) (l.getD (i - 1) default) i ((l.take i).any fun o => sameN o (l.getD i default))
/-- The fault of renditions. -/
def checkR (l : List Rng) : Int := if 100 < l.length then 2 else FF (crAt l) l.length

theorem crOf_zero {x p : Rng} {i : Nat} {tw : Bool} (h : crOf x p i tw = 0) : nameB x.na = true ∧ (1 ≤ x.ra ∧ x.ra ≤ 1000000000) ∧ (1 ≤ x.he ∧ x.he ≤ 10000) ∧ (0 ≤ x.qu ∧ x.qu ≤ 1000000) ∧ ordR x p i = false ∧ tw = false := by
  unfold crOf at h
  split at h
  · simp at h
  rename_i h1
  split at h
  · simp at h
  rename_i h2
  split at h
  · simp at h
  rename_i h3
  split at h
  · simp at h
  rename_i h4
  simp only [Bool.or_eq_true, not_or] at h2
  exact ⟨by simpa using h1, outB_no' h2.1.1, outB_no' h2.1.2, outB_no' h2.2, by simpa using h3, by simpa using h4⟩
theorem checkR_zero {l : List Rng} (h : checkR l = 0) : l.length ≤ 100 ∧ (∀ i, i < l.length → crAt l i = 0) ∧ ∀ x, x ∈ l → nameB x.na = true ∧ (1 ≤ x.ra ∧ x.ra ≤ 1000000000) ∧ (1 ≤ x.he ∧ x.he ≤ 10000) ∧ (0 ≤ x.qu ∧ x.qu ≤ 1000000) := by
  unfold checkR at h
  split at h
  · simp at h
  rename_i h0
  have hz := FF_eq_zero h
  refine ⟨by omega, hz, fun x hx => ?_⟩
  obtain ⟨i, hi, rfl⟩ := List.mem_iff_getElem.1 hx
  have h1 := crOf_zero (hz i hi)
  rw [getD_of (List.getElem?_eq_getElem hi)] at h1
  exact ⟨h1.1, h1.2.1, h1.2.2.1, h1.2.2.2.1⟩
/-- Rates do not fall. -/
theorem rates_up {l : List Rng} (h : checkR l = 0) {i : Nat} (hi : i + 1 < l.length) : (l.getD i default).ra ≤ (l.getD (i + 1) default).ra := by
  have h1 := (crOf_zero ((checkR_zero h).2.1 (i + 1) hi)).2.2.2.2.1
  unfold ordR at h1
  simp at h1
  have := h1.1
  simpa using this
end Go.Proofs.Ytfkmdojnkdoffaa

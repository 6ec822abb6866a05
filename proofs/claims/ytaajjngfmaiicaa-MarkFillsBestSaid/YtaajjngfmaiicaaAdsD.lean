/- Advertisements: their fault; plain. -/
import Derived.Test.YtaajjngfmaiicaaFillL
namespace Go.Proofs.Ytaajjngfmaiicaa
open Go.RowKit

def sameA (a b : Adv) : Bool := a.na.toList == b.na.toList
/-- Are the names of an advertisement names? -/
def nmA (x : Adv) : Bool := nameB x.na && (x.ri.toList.isEmpty || nameB x.ri)
def outA (x : Adv) : Bool := outB x.ln 1 1000000000000000 || outB x.va 0 1000000000
def afOf (x : Adv) (tw : Bool) : Int := if nmA x = false then 5 else if tw = true then 7 else if outA x = true then 1 else 0
def afAt (l : List Adv) (i : Nat) : Int := afOf (l.getD i default) ((l.take i).any fun o => sameA o (l.getD i default))
/-- The fault of advertisements. -/
def adsF (l : List Adv) : Int := if 16 < l.length then 2 else FF (afAt l) l.length

theorem afOf_zero {x : Adv} {tw : Bool} (h : afOf x tw = 0) : nmA x = true ∧ tw = false ∧ (1 ≤ x.ln ∧ x.ln ≤ 1000000000000000) ∧ (0 ≤ x.va ∧ x.va ≤ 1000000000) := by
  unfold afOf at h
  split at h
  · simp at h
  rename_i h1
  split at h
  · simp at h
  rename_i h2
  split at h
  · simp at h
  rename_i h3
  simp only [outA, Bool.or_eq_true, not_or] at h3
  exact ⟨by simpa using h1, by simpa using h2, outB_no' h3.1, outB_no' h3.2⟩
theorem adsF_zero {l : List Adv} (h : adsF l = 0) : l.length ≤ 16 ∧ ∀ x, x ∈ l → nmA x = true ∧ (1 ≤ x.ln ∧ x.ln ≤ 1000000000000000) ∧ (0 ≤ x.va ∧ x.va ≤ 1000000000) := by
  unfold adsF at h
  split at h
  · simp at h
  rename_i h0
  have hz := FF_eq_zero h
  refine ⟨by omega, fun x hx => ?_⟩
  obtain ⟨i, hi, rfl⟩ := List.mem_iff_getElem.1 hx
  have h1 := afOf_zero (hz i hi)
  rw [getD_of (List.getElem?_eq_getElem hi)] at h1
  exact ⟨h1.1, h1.2.2.1, h1.2.2.2⟩
end Go.Proofs.Ytaajjngfmaiicaa

/- Curve: what it counts: plain. -/
import Derived.Test.YtmgbmoiefgfemaaDoorArrL
import Derived.Lib.SlicesS
namespace Go.Proofs.YtmgbmoiefgfemaaDoor
open Go.RowKit

def keyA (K : List ByteArray) (i : Nat) : ByteArray := K.getD i ⟨#[]⟩
/-- What was asked for, the last one first. -/
def recK (K : List ByteArray) : Nat → List ByteArray
  | 0 => []
  | i + 1 => keyA K i :: (if 0 ≤ Lib.idxOfS (recK K i) (keyA K i) then (recK K i).eraseIdx (Lib.idxOfS (recK K i) (keyA K i)).toNat else recK K i)
def atK (K : List ByteArray) (i : Nat) : Int := Lib.idxOfS (recK K i) (keyA K i)
theorem recK_next (K : List ByteArray) (i : Nat) : recK K (i + 1) = keyA K i :: (if 0 ≤ atK K i then (recK K i).eraseIdx (atK K i).toNat else recK K i) := rfl
theorem idxS_bd (x : ByteArray) : ∀ (L : List ByteArray) (k : Nat), Lib.idxFromS L x k = -1 ∨ ∃ j : Nat, k ≤ j ∧ j < k + L.length ∧ Lib.idxFromS L x k = (j : Int)
  | [], k => Or.inl rfl
  | z :: r, k => by
    by_cases h : z = x
    · right
      refine ⟨k, Nat.le_refl _, by simp, ?_⟩
      simp [Lib.idxFromS, h]
    · have e : Lib.idxFromS (z :: r) x k = Lib.idxFromS r x (k + 1) := by simp [Lib.idxFromS, h]
      rw [e]
      rcases idxS_bd x r (k + 1) with h2 | ⟨j, h2, h3, h4⟩
      · exact Or.inl h2
      · exact Or.inr ⟨j, by omega, by simp only [List.length_cons]; omega, h4⟩
theorem atK_bd (K : List ByteArray) (i : Nat) : atK K i = -1 ∨ ∃ j : Nat, j < (recK K i).length ∧ atK K i = (j : Int) := by
  rcases idxS_bd (keyA K i) (recK K i) 0 with h | ⟨j, _, h2, h3⟩
  · exact Or.inl h
  · exact Or.inr ⟨j, by omega, h3⟩
theorem recK_len (K : List ByteArray) : ∀ i, (recK K i).length ≤ i
  | 0 => Nat.le_refl _
  | i + 1 => by
    have ih := recK_len K i
    rw [recK_next]
    split
    · have := List.length_eraseIdx_le (recK K i) (atK K i).toNat
      simp only [List.length_cons]
      omega
    · simp only [List.length_cons]
      omega
/-- How many were found at a place; at most at a place. -/
def cntP (K : List ByteArray) (p : Nat) : Nat → Int
  | 0 => 0
  | i + 1 => cntP K p i + if atK K i = (p : Int) then 1 else 0
def cntQ (K : List ByteArray) (p : Nat) : Nat → Int
  | 0 => 0
  | i + 1 => cntQ K p i + if 0 ≤ atK K i ∧ atK K i ≤ (p : Int) then 1 else 0
theorem cntP_bd (K : List ByteArray) (p : Nat) : ∀ i, 0 ≤ cntP K p i ∧ cntP K p i ≤ i
  | 0 => ⟨Int.le_refl _, Int.le_refl _⟩
  | i + 1 => by
    have ih := cntP_bd K p i
    unfold cntP
    split <;> omega
theorem cntQ_bd (K : List ByteArray) (p : Nat) : ∀ i, 0 ≤ cntQ K p i ∧ cntQ K p i ≤ i
  | 0 => ⟨Int.le_refl _, Int.le_refl _⟩
  | i + 1 => by
    have ih := cntQ_bd K p i
    unfold cntQ
    split <;> omega
theorem cntQ_zero (K : List ByteArray) : ∀ i, cntQ K 0 i = cntP K 0 i
  | 0 => rfl
  | i + 1 => by
    unfold cntQ cntP
    rw [cntQ_zero K i]
    by_cases h : atK K i = 0
    · rw [if_pos (by omega), if_pos (by omega)]
    · rw [if_neg (by omega), if_neg (by omega)]
theorem cntQ_next (K : List ByteArray) (p : Nat) : ∀ i, cntQ K (p + 1) i = cntP K (p + 1) i + cntQ K p i
  | 0 => rfl
  | i + 1 => by
    have ih := cntQ_next K p i
    unfold cntQ cntP
    rw [ih]
    have hb := atK_bd K i
    by_cases h1 : 0 ≤ atK K i ∧ atK K i ≤ (p : Int)
    · rw [if_pos h1, if_pos (by omega), if_neg (by omega)]; omega
    · by_cases h2 : atK K i = ((p + 1 : Nat) : Int)
      · rw [if_neg h1, if_pos (by omega), if_pos h2]; omega
      · rw [if_neg h1, if_neg (by omega), if_neg h2]; omega
def crvL (K : List ByteArray) (M : Nat) : List Int := rowF (fun p => cntQ K p K.length) M
theorem rowP_skip {K : List ByteArray} {i M : Nat} (h : ∀ p, p < M → atK K i ≠ (p : Int)) : rowF (fun p => cntP K p (i + 1)) M = rowF (fun p => cntP K p i) M := by
  unfold rowF
  refine List.map_congr_left fun p hp => ?_
  rw [List.mem_range] at hp
  show cntP K p i + (if atK K i = (p : Int) then 1 else 0) = _
  rw [if_neg (h p hp)]
  omega
theorem rowP_set {K : List ByteArray} {i M a : Nat} (h : atK K i = (a : Int)) : (rowF (fun p => cntP K p i) M).set a (cntP K a i + 1) = rowF (fun p => cntP K p (i + 1)) M := by
  apply List.ext_getElem
  · simp [rowF]
  · intro p h1 h2
    rw [List.getElem_set]
    simp only [rowF, List.getElem_map, List.getElem_range]
    by_cases e : a = p
    · subst e
      rw [if_pos rfl, show cntP K a (i + 1) = cntP K a i + (if atK K i = (a : Int) then 1 else 0) from rfl, if_pos h]
    · rw [if_neg e, show cntP K p (i + 1) = cntP K p i + (if atK K i = (p : Int) then 1 else 0) from rfl, if_neg (by rw [h]; omega)]
      omega
theorem mixP_start (K : List ByteArray) (n M : Nat) : rowF (fun p => cntP K p n) M = mixL (fun p => cntQ K p n) (fun p => cntP K p n) 1 M := by
  unfold rowF mixL
  refine List.map_congr_left fun p _ => ?_
  by_cases h : p < 1
  · obtain rfl : p = 0 := by omega
    rw [if_pos h]
    exact (cntQ_zero K n).symm
  · rw [if_neg h]
theorem mixP_end (K : List ByteArray) {M p : Nat} (h : M ≤ p) : mixL (fun p => cntQ K p K.length) (fun p => cntP K p K.length) p M = crvL K M := by
  unfold crvL rowF mixL
  refine List.map_congr_left fun q hq => ?_
  rw [List.mem_range] at hq
  rw [if_pos (by omega)]
/-- The reference's row, in which places below n are done. -/
def rowQ (K : List ByteArray) (i M n : Nat) : List Int := (List.range M).map fun j => cntQ K j i + if 0 ≤ atK K i ∧ atK K i ≤ (j : Int) ∧ j + 1 < n then 1 else 0
theorem rowQ_start {K : List ByteArray} {i M n : Nat} (h : (n : Int) ≤ atK K i + 1) : rowQ K i M n = rowF (fun p => cntQ K p i) M := by
  unfold rowQ rowF
  refine List.map_congr_left fun j _ => ?_
  rw [if_neg (by omega)]
  omega
theorem rowQ_end {K : List ByteArray} {i M n : Nat} (h : atK K i < 0 ∨ M < n) : rowQ K i M n = rowF (fun p => cntQ K p (i + 1)) M := by
  unfold rowQ rowF
  refine List.map_congr_left fun j hj => ?_
  rw [List.mem_range] at hj
  show _ = cntQ K j i + (if 0 ≤ atK K i ∧ atK K i ≤ (j : Int) then 1 else 0)
  by_cases h2 : 0 ≤ atK K i ∧ atK K i ≤ (j : Int)
  · rw [if_pos ⟨h2.1, h2.2, by omega⟩, if_pos h2]
  · rw [if_neg (fun h3 => h2 ⟨h3.1, h3.2.1⟩), if_neg h2]
theorem rowQ_get {K : List ByteArray} {i M n : Nat} (hn : n < M) : (rowQ K i M (n + 1))[n]? = some (cntQ K n i) := by
  unfold rowQ
  rw [List.getElem?_map, List.getElem?_range hn]
  show some (cntQ K n i + if 0 ≤ atK K i ∧ atK K i ≤ (n : Int) ∧ n + 1 < n + 1 then 1 else 0) = some (cntQ K n i)
  rw [if_neg (by omega), Int.add_zero]
theorem rowQ_set {K : List ByteArray} {i M n : Nat} (h0 : 0 ≤ atK K i) (h : atK K i ≤ (n : Int)) : (rowQ K i M (n + 1)).set n (cntQ K n i + 1) = rowQ K i M (n + 2) := by
  apply List.ext_getElem
  · simp [rowQ]
  · intro p h1 h2
    rw [List.getElem_set]
    simp only [rowQ, List.getElem_map, List.getElem_range]
    by_cases e : n = p
    · subst e
      rw [if_pos rfl, if_pos ⟨h0, h, by omega⟩]
    · rw [if_neg e]
      by_cases h3 : 0 ≤ atK K i ∧ atK K i ≤ (p : Int) ∧ p + 1 < n + 1
      · rw [if_pos h3, if_pos ⟨h3.1, h3.2.1, by omega⟩]
      · rw [if_neg h3, if_neg (fun h4 => h3 ⟨h4.1, h4.2.1, by omega⟩)]
end Go.Proofs.YtmgbmoiefgfemaaDoor

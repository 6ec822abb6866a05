/- What slices.Compact leaves of numbers that are sorted; plain. -/
import Derived.Test.YtibnbhjiohighaaBstLK
import Derived.Shelf.Sort.Plain
import Derived.Shelf.Slices.CompactI
import Derived.Sort.OwnSortedInts
import Derived.Lib.RowBridge
import Derived.Lib.OwnBridge
namespace Go.Proofs.Ytibnbhjiohighaa
open Go.RowKit

def sortI (L : List Int) : List Int := L.mergeSort fun x y => decide (x ≤ y)
theorem sortI_le (L : List Int) : (sortI L).Pairwise (· ≤ ·) := by
  have := List.pairwise_mergeSort (le := fun x y : Int => decide (x ≤ y)) (fun a b c h1 h2 => by simp at *; omega) (fun a b => by simp; omega) L
  exact this.imp fun h => by simpa using h
theorem sortI_mem {L : List Int} {x : Int} : x ∈ sortI L ↔ x ∈ L := (List.mergeSort_perm L _).mem_iff
theorem sortI_len (L : List Int) : (sortI L).length = L.length := List.length_mergeSort L
theorem cpt_mem {L : List Int} {x : Int} (h : x ∈ Lib.compact L) : x ∈ L := by
  unfold Lib.compact Lib.compactUpTo at h
  obtain ⟨j, hj, rfl⟩ := List.mem_map.1 h
  have hl : j < L.length := List.mem_range.1 (List.mem_filter.1 hj).1
  rw [getElem!_pos L.toArray j (by simpa using hl)]
  simp
theorem cpt_inc {L : List Int} (h : L.Pairwise (· ≤ ·)) : (Lib.compact L).Pairwise (· < ·) := by
  unfold Lib.compact Lib.compactUpTo
  rw [List.pairwise_map]
  have h1 : ((List.range L.length).filter (Lib.keeps L.toArray)).Pairwise (· < ·) := List.pairwise_lt_range.sublist List.filter_sublist
  refine h1.imp_of_mem fun {a b} ha hb hab => ?_
  have hbl : b < L.length := List.mem_range.1 (List.mem_filter.1 hb).1
  have hk := (List.mem_filter.1 hb).2
  unfold Lib.keeps at hk
  simp only [decide_eq_true_eq] at hk
  rcases hk with hk | hk
  · omega
  · have g (j : Nat) (hj : j < L.length) : L.toArray[j]! = L[j] := by rw [getElem!_pos L.toArray j (by simpa using hj)]; simp
    rw [g b hbl, g (b - 1) (by omega)] at hk
    rw [g a (by omega), g b hbl]
    have e1 : L[b - 1] ≤ L[b] := by
      rcases Nat.eq_or_lt_of_le (show b - 1 ≤ b by omega) with e | e
      · omega
      · exact List.pairwise_iff_getElem.1 h (b - 1) b (by omega) hbl e
    have e2 : L[a] ≤ L[b - 1] := by
      rcases Nat.eq_or_lt_of_le (show a ≤ b - 1 by omega) with e | e
      · subst e; exact Int.le_refl _
      · exact List.pairwise_iff_getElem.1 h a (b - 1) (by omega) (by omega) e
    omega
theorem cpt_len (L : List Int) : (Lib.compact L).length ≤ L.length := Lib.compact_length_le L
/-- A number more among numbers that rise. -/
theorem okW_more {n m : Nat} {L : List Int} {x : Int} (h : okW n m L) (hx : 0 ≤ x ∧ x < n) (hl : L.length < m) : okW n m (Lib.compact (sortI (L ++ [x]))) := by
  refine ⟨fun k hk => ?_, cpt_inc (sortI_le _), ?_⟩
  · have := sortI_mem.1 (cpt_mem hk)
    rcases List.mem_append.1 this with h1 | h1
    · exact h.rng k h1
    · simp at h1; subst h1; exact hx
  · have h1 := cpt_len (sortI (L ++ [x]))
    rw [sortI_len] at h1
    simp at h1
    omega
end Go.Proofs.Ytibnbhjiohighaa

/- Curve and Best with room for all keys: plain. -/
import Derived.Test.YtmgbmoiefgfemaaDoorBelL
import Derived.Shelf.Sort.Plain
import Derived.Shelf.Slices.CompactS
namespace Go.Proofs.YtmgbmoiefgfemaaDoor
open Go.RowKit

/-- How many different strings there are, as the reference counts them. -/
def srtS (K : List ByteArray) : List (List UInt8) := (K.map fun x => x.data.toList).mergeSort fun x y => decide (x ≤ y)
def difN (K : List ByteArray) : Nat := (Lib.compact (srtS K)).length
theorem srtS_mem {K : List ByteArray} {x : List UInt8} : x ∈ srtS K ↔ x ∈ K.map fun x => x.data.toList := (List.mergeSort_perm _ _).mem_iff
theorem srtS_len (K : List ByteArray) : (srtS K).length = K.length := by unfold srtS; rw [List.length_mergeSort, List.length_map]
theorem srtS_le (K : List ByteArray) : (srtS K).Pairwise (· ≤ ·) := by
  have := List.pairwise_mergeSort (le := fun x y : List UInt8 => decide (x ≤ y)) (fun a b c h1 h2 => by simp only [decide_eq_true_eq] at *; exact List.le_trans h1 h2) (fun a b => by simp only [Bool.or_eq_true, decide_eq_true_eq]; exact List.le_total a b) (K.map fun x => x.data.toList)
  exact this.imp fun h => by simpa using h
theorem getS {L : List (List UInt8)} (j : Nat) (hj : j < L.length) : L.toArray[j]! = L[j] := by rw [getElem!_pos L.toArray j (by simpa using hj)]; simp
theorem cptS_mem {L : List (List UInt8)} {x : List UInt8} : x ∈ Lib.compact L ↔ x ∈ L := by
  unfold Lib.compact Lib.compactUpTo
  constructor
  · intro h
    obtain ⟨j, hj, rfl⟩ := List.mem_map.1 h
    have hl : j < L.length := List.mem_range.1 (List.mem_filter.1 hj).1
    rw [getS j hl]
    simp
  · intro h
    obtain ⟨j, hj, rfl⟩ := List.getElem_of_mem h
    induction j with
    | zero => exact List.mem_map.2 ⟨0, List.mem_filter.2 ⟨List.mem_range.2 hj, by simp [Lib.keeps]⟩, getS 0 hj⟩
    | succ j ih =>
      by_cases e : L[j + 1] = L[j]
      · rw [e]
        exact ih (by omega) (by simp)
      · refine List.mem_map.2 ⟨j + 1, List.mem_filter.2 ⟨List.mem_range.2 hj, ?_⟩, getS (j + 1) hj⟩
        unfold Lib.keeps
        simp only [decide_eq_true_eq]
        right
        rw [getS (j + 1) hj, getS (j + 1 - 1) (by omega)]
        exact e
theorem cptS_nodup {L : List (List UInt8)} (h : L.Pairwise (· ≤ ·)) : (Lib.compact L).Nodup := by
  unfold Lib.compact Lib.compactUpTo
  unfold List.Nodup
  rw [List.pairwise_map]
  have h1 : ((List.range L.length).filter (Lib.keeps L.toArray)).Pairwise (· < ·) := List.pairwise_lt_range.sublist List.filter_sublist
  refine h1.imp_of_mem fun {a b} ha hb hab => ?_
  have hbl : b < L.length := List.mem_range.1 (List.mem_filter.1 hb).1
  have hk := (List.mem_filter.1 hb).2
  unfold Lib.keeps at hk
  simp only [decide_eq_true_eq] at hk
  rcases hk with hk | hk
  · omega
  · rw [getS b hbl, getS (b - 1) (by omega)] at hk
    rw [getS a (by omega), getS b hbl]
    have e1 : L[b - 1] ≤ L[b] := List.pairwise_iff_getElem.1 h (b - 1) b (by omega) hbl (by omega)
    have e2 : L[a] ≤ L[b - 1] := by
      rcases Nat.eq_or_lt_of_le (show a ≤ b - 1 by omega) with e | e
      · subst e; exact List.le_refl _
      · exact List.pairwise_iff_getElem.1 h a (b - 1) (by omega) (by omega) e
    intro c
    rw [c] at e2
    exact hk (List.le_antisymm e2 e1)
theorem recK_mem (K : List ByteArray) (x : ByteArray) : ∀ i, x ∈ recK K i ↔ ∃ j, j < i ∧ keyA K j = x
  | 0 => by simp [recK]
  | i + 1 => by
    rw [recK_step (recK_nodup K i), List.mem_cons, mem_rmv, recK_mem K x i]
    constructor
    · rintro (rfl | ⟨⟨j, h1, h2⟩, _⟩)
      · exact ⟨i, by omega, rfl⟩
      · exact ⟨j, by omega, h2⟩
    · rintro ⟨j, h1, h2⟩
      by_cases e : x = keyA K i
      · exact Or.inl e
      · refine Or.inr ⟨⟨j, ?_, h2⟩, e⟩
        have : j ≠ i := fun c => e (by rw [← h2, c])
        omega
theorem difN_rec (K : List ByteArray) : difN K = (recK K K.length).length := by
  unfold difN
  have h1 := cptS_nodup (srtS_le K)
  have h2 : ((recK K K.length).map fun x => x.data.toList).Nodup := by
    unfold List.Nodup
    rw [List.pairwise_map]
    refine (recK_nodup K K.length).imp fun {a b} h c => h ?_
    exact slit_inj (by unfold slit; rw [c])
  have h3 := ((List.perm_ext_iff_of_nodup h1 h2).2 fun x => by
    rw [cptS_mem, srtS_mem, List.mem_map, List.mem_map]
    constructor
    · rintro ⟨y, hy, rfl⟩
      obtain ⟨j, hj, rfl⟩ := List.getElem_of_mem hy
      exact ⟨_, (recK_mem K _ _).2 ⟨j, hj, by unfold keyA; rw [List.getD_eq_getElem?_getD, List.getElem?_eq_getElem hj]; rfl⟩, rfl⟩
    · rintro ⟨y, hy, rfl⟩
      obtain ⟨j, hj, rfl⟩ := (recK_mem K _ _).1 hy
      refine ⟨_, ?_, rfl⟩
      unfold keyA
      rw [List.getD_eq_getElem?_getD, List.getElem?_eq_getElem hj]
      exact List.getElem_mem _).length_eq
  rw [h3, List.length_map]
theorem recK_more (K : List ByteArray) (i : Nat) : (recK K (i + 1)).length + isOn (keyA K i) (recK K i) = (recK K i).length + 1 := by
  rw [recK_step (recK_nodup K i), List.length_cons]
  by_cases h : keyA K i ∈ recK K i
  · rw [isOn_in h, rmv_len (recK_nodup K i) h]
    have := List.length_pos_of_mem h
    omega
  · rw [isOn_out h, rmv_out h]
theorem isOn_le (x : ByteArray) (L : List ByteArray) : isOn x L ≤ 1 := by unfold isOn; split <;> omega
theorem recK_mono (K : List ByteArray) : ∀ d i, (recK K i).length ≤ (recK K (i + d)).length
  | 0, i => Nat.le_refl _
  | d + 1, i => by
    have h1 := recK_mono K d i
    have h2 := recK_more K (i + d)
    have h3 := isOn_le (keyA K (i + d)) (recK K (i + d))
    show _ ≤ (recK K (i + d + 1)).length
    omega
/-- With room for all keys all that come again are found. -/
theorem cntQ_all (K : List ByteArray) {r : Nat} (hr : 0 < r) (hD : difN K ≤ r) : ∀ i, i ≤ K.length → cntQ K (r - 1) i + ((recK K i).length : Nat) = i
  | 0, _ => by simp [cntQ, recK]
  | i + 1, hi => by
    have ih := cntQ_all K hr hD i (by omega)
    have h1 := recK_more K i
    have h2 := recK_mono K (K.length - i) i
    rw [show i + (K.length - i) = K.length by omega, ← difN_rec] at h2
    rw [cntQ_isOn K hr, List.take_of_length_le (by omega)]
    omega
theorem rfS_in (K : List ByteArray) (r : Nat) : ∀ i x, x ∈ (rfS K r i).1 → x ∈ recK K i
  | 0, x, h => by simp [rfS] at h
  | i + 1, x, h => by
    rw [recK_mem]
    rw [rfS_next] at h
    have old : x ∈ (rfS K r i).1 → ∃ j, j < i + 1 ∧ keyA K j = x := fun h => by
      obtain ⟨j, h1, h2⟩ := (recK_mem K x i).1 (rfS_in K r i x h)
      exact ⟨j, by omega, h2⟩
    split at h
    · exact old h
    · rcases List.mem_append.1 h with h | h
      · split at h
        · exact old ((List.eraseIdx_sublist _ _).subset h)
        · exact old h
      · rw [List.mem_singleton] at h
        exact ⟨i, by omega, h.symm⟩
theorem rfS_le (K : List ByteArray) {r : Nat} (hr : 0 < r) : ∀ i, (rfS K r i).2 + ((recK K i).length : Nat) ≤ i
  | 0 => by simp [rfS, recK]
  | i + 1 => by
    have ih := rfS_le K hr i
    have h1 := recK_more K i
    have h2 := (rfS_rest (K := K) (i := i) hr).2.1
    have h3 : isOn (keyA K i) (rfS K r i).1 ≤ isOn (keyA K i) (recK K i) := by
      by_cases h : keyA K i ∈ (rfS K r i).1
      · rw [isOn_in h, isOn_in (rfS_in K r i _ h)]; exact Nat.le_refl _
      · rw [isOn_out h]; omega
    omega
/-- What the law says of a place. -/
theorem best_laws (K : List ByteArray) (i : Nat) : cntQ K i K.length ≤ bsN K (i + 1) ∧ (0 < i → cntQ K (i - 1) K.length ≤ cntQ K i K.length) ∧
    (difN K ≤ i + 1 → cntQ K i K.length = bsN K (i + 1) ∧ cntQ K i K.length = (K.length : Int) - (difN K : Nat)) := by
  have hb := (bel K (r := i + 1) (by omega) K.length (Nat.le_refl _)).1
  rw [Nat.add_sub_cancel] at hb
  have e : bsN K (i + 1) = (rfS K (i + 1) K.length).2 := by unfold bsN; rw [if_neg (by omega)]
  rw [e]
  refine ⟨hb, fun h => ?_, fun h => ?_⟩
  · have h1 := cntQ_next K (i - 1) K.length
    rw [show i - 1 + 1 = i by omega] at h1
    have := (cntP_bd K i K.length).1
    omega
  · have h1 := cntQ_all K (r := i + 1) (by omega) h K.length (Nat.le_refl _)
    rw [Nat.add_sub_cancel, ← difN_rec] at h1
    have h2 := rfS_le K (r := i + 1) (by omega) K.length
    rw [← difN_rec] at h2
    omega
end Go.Proofs.YtmgbmoiefgfemaaDoor

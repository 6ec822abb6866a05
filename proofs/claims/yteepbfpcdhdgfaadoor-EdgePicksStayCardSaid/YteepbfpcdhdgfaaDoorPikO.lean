/- The plain law of pick: what it returns is in order. -/
import Derived.Test.YteepbfpcdhdgfaaDoorPkF
import Derived.Sort.Walk0
namespace Go.Proofs.YteepbfpcdhdgfaaDoor
open Go.RowKit

theorem u8_tri (a b : UInt8) : a < b ∨ a = b ∨ b < a := by
  rcases Nat.lt_trichotomy a.toNat b.toNat with h | h | h
  · exact .inl h
  · exact .inr (.inl (UInt8.toNat_inj.1 h))
  · exact .inr (.inr h)
theorem cb_swap : ∀ a b : List UInt8, Lib.compareBytes b a = - Lib.compareBytes a b
  | [], [] => rfl
  | [], _ :: _ => rfl
  | _ :: _, [] => rfl
  | a :: r, b :: s => by
    unfold Lib.compareBytes
    by_cases h1 : a < b
    · have h2 : ¬ b < a := fun h => absurd (UInt8.lt_trans h1 h) (UInt8.lt_irrefl _)
      simp [h1, h2]
    · by_cases h2 : b < a
      · simp [h1, h2]
      · simp [h1, h2, cb_swap r s]
theorem cb_zero : ∀ {a b : List UInt8}, Lib.compareBytes a b = 0 → a = b
  | [], [], _ => rfl
  | [], _ :: _, h => by simp [Lib.compareBytes] at h
  | _ :: _, [], h => by simp [Lib.compareBytes] at h
  | a :: r, b :: s, h => by
    unfold Lib.compareBytes at h
    by_cases h1 : a < b
    · simp [h1] at h
    · by_cases h2 : b < a
      · simp [h1, h2] at h
      · simp only [h1, h2, if_false] at h
        rw [cb_zero h, UInt8.le_antisymm (UInt8.not_lt.1 h2) (UInt8.not_lt.1 h1)]
theorem cb_tr : ∀ {a b c : List UInt8}, Lib.compareBytes a b < 0 → Lib.compareBytes b c < 0 → Lib.compareBytes a c < 0
  | [], [], _, h, _ => by simp [Lib.compareBytes] at h
  | [], _ :: _, [], _, h => by simp [Lib.compareBytes] at h
  | [], _ :: _, _ :: _, _, _ => by simp [Lib.compareBytes]
  | _ :: _, [], _, h, _ => by simp [Lib.compareBytes] at h
  | _ :: _, _ :: _, [], _, h => by simp [Lib.compareBytes] at h
  | a :: r, b :: s, c :: t, h, g => by
    unfold Lib.compareBytes at h g ⊢
    rcases u8_tri a b with h1 | h1 | h1
    · rcases u8_tri b c with h2 | h2 | h2
      · simp [UInt8.lt_trans h1 h2]
      · subst h2; simp [h1]
      · have h3 : ¬ b < c := fun h => absurd (UInt8.lt_trans h2 h) (UInt8.lt_irrefl _)
        simp [h2, h3] at g
    · subst h1
      simp only [UInt8.lt_irrefl, if_false] at h
      rcases u8_tri a c with h2 | h2 | h2
      · simp [h2]
      · subst h2
        simp only [UInt8.lt_irrefl, if_false] at g ⊢
        exact cb_tr h g
      · have h3 : ¬ a < c := fun h => absurd (UInt8.lt_trans h2 h) (UInt8.lt_irrefl _)
        simp [h2, h3] at g
    · have h3 : ¬ a < b := fun h => absurd (UInt8.lt_trans h1 h) (UInt8.lt_irrefl _)
      simp [h1, h3] at h
/-- The order of picks. -/
def pkT (k x y : ByteArray) : Prop := cmpK k x y < 0
theorem pkT_iff (k x y : ByteArray) : pkT k x y ↔ (wgtK y k < wgtK x k ∨ (wgtK x k = wgtK y k ∧ Lib.compareBytes x.data.toList y.data.toList < 0)) := by
  unfold pkT cmpK
  by_cases h1 : wgtK y k < wgtK x k
  · simp [h1]
  · rw [if_neg h1]
    by_cases h2 : wgtK x k < wgtK y k
    · rw [if_pos h2]; omega
    · rw [if_neg h2]; omega
theorem pk_ord (k : ByteArray) : Ord (ltI (cmpK k)) (pkT k) (fun x y => x ≠ y) where
  tr x y z h g := by
    rw [pkT_iff] at h g ⊢
    rcases h with h | ⟨h, h'⟩ <;> rcases g with g | ⟨g, g'⟩
    · exact .inl (by omega)
    · exact .inl (by omega)
    · exact .inl (by omega)
    · exact .inr ⟨by omega, cb_tr h' g'⟩
  asy x y h g := by
    rw [pkT_iff] at h g
    have := cb_swap x.data.toList y.data.toList
    omega
  cmp x y _ := by unfold ltI pkT; exact decide_eq_true_iff
  tot x y h := by
    rw [pkT_iff, pkT_iff]
    have h1 := cb_swap x.data.toList y.data.toList
    have h2 : Lib.compareBytes x.data.toList y.data.toList ≠ 0 := fun e => h (by
      have := cb_zero e
      exact ByteArray.ext (Array.ext' this))
    omega
theorem pickL_ok (k : ByteArray) {L : List ByteArray} (h : L.Pairwise (fun x y => x ≠ y)) : (pickL k L).Perm L ∧ (pickL k L).Pairwise (pkT k) := stR_ok (pk_ord k) h
theorem sleN_no {x p : ByteArray} (h : sleN x p = false) : p.toList < x.toList := by
  unfold sleN at h
  rw [Bool.or_eq_false_iff, bytesLess_eq] at h
  obtain ⟨h1, h2⟩ := h
  have h3 : ¬ x.toList < p.toList := by simpa using h1
  have h4 : x.toList ≠ p.toList := by simpa using h2
  rcases List.le_iff_lt_or_eq.1 (List.not_lt.1 h3) with h5 | h5
  · exact h5
  · exact absurd h5.symm h4
theorem rise_lt {L : List ByteArray} (h : ∀ i, 0 < i → i < L.length → sleN (L.getD i ⟨#[]⟩) (L.getD (i - 1) ⟨#[]⟩) = false) : L.Pairwise (fun x y => x.toList < y.toList) := by
  rw [List.pairwise_iff_getElem]
  intro i j hi hj hij
  obtain ⟨d, rfl⟩ : ∃ d, j = i + 1 + d := ⟨j - (i + 1), by omega⟩
  have step : ∀ m (hm : m + 1 < L.length), (L[m]'(by omega)).toList < L[m + 1].toList := fun m hm => by
    have := sleN_no (h (m + 1) (by omega) hm)
    rw [List.getD_eq_getElem?_getD, List.getD_eq_getElem?_getD, List.getElem?_eq_getElem hm, Nat.add_sub_cancel, List.getElem?_eq_getElem (by omega : m < L.length)] at this
    exact this
  clear hij
  induction d with
  | zero => exact step i hj
  | succ d ih => exact List.lt_trans (ih (by omega) step) (step (i + 1 + d) hj)
theorem naF_diff {L : List ByteArray} (h : naF L = 0) : L.Pairwise (fun x y => x ≠ y) := by
  obtain ⟨-, -, h3⟩ := naF_zero h
  exact (rise_lt h3).imp fun {a b} h e => by subst e; exact absurd h (List.lt_irrefl _)
theorem pickL_len {L : List ByteArray} (h : naF L = 0) (k : ByteArray) : (pickL k L).length = L.length := (pickL_ok k (naF_diff h)).1.length_eq
/-- The first one is the least. -/
theorem fstL_ok {L : List ByteArray} (h : naF L = 0) (k : ByteArray) (hne : L ≠ []) : fstL k L ∈ L ∧ ∀ y, y ∈ L → y ≠ fstL k L → pkT k (fstL k L) y := by
  obtain ⟨h1, h2⟩ := pickL_ok k (naF_diff h)
  unfold fstL
  cases hq : pickL k L with
  | nil => rw [hq] at h1; exact absurd (List.nil_perm.1 h1) hne
  | cons a r =>
    rw [hq] at h1 h2
    refine ⟨h1.subset (List.mem_cons_self ..), fun y hy hn => ?_⟩
    have := h1.symm.subset hy
    rcases List.mem_cons.1 this with e | e
    · exact absurd e hn
    · exact (List.pairwise_cons.1 h2).1 y e
theorem fstL_one {L : List ByteArray} (h : naF L = 0) (k x : ByteArray) (hx : x ∈ L) (hl : ∀ y, y ∈ L → y ≠ x → pkT k x y) : fstL k L = x := by
  obtain ⟨h1, h2⟩ := fstL_ok h k (List.ne_nil_of_mem hx)
  by_cases e : fstL k L = x
  · exact e
  · exact absurd (h2 x hx (fun h => e h.symm)) ((pk_ord k).asy _ _ (hl _ h1 e))
/-- A cache is taken away: just the keys move whose first one it was. -/
theorem fstL_del {L : List ByteArray} (h : naF L = 0) {i : Nat} (hi : i < L.length) (h' : naF (L.eraseIdx i) = 0) (k : ByteArray) : fstL k L ≠ fstL k (L.eraseIdx i) ↔ fstL k L = L[i] := by
  have hne : L ≠ [] := fun e => by rw [e] at hi; simp at hi
  obtain ⟨h1, h2⟩ := fstL_ok h k hne
  have hd := naF_diff h
  have hdd := hd
  rw [List.pairwise_iff_getElem] at hd
  have hni : L[i] ∉ L.eraseIdx i := fun hm => by
    obtain ⟨j, hj, e1, e2⟩ := List.mem_eraseIdx_iff_getElem.1 hm
    rcases Nat.lt_or_gt_of_ne e1 with h3 | h3
    · exact hd j i hj hi h3 e2
    · exact hd i j hi hj h3 e2.symm
  constructor
  · intro hn
    refine Decidable.byContradiction fun hc => hn ?_
    refine (fstL_one h' k _ ?_ fun y hy hyn => h2 y (List.mem_of_mem_eraseIdx hy) hyn).symm
    obtain ⟨j, hj, e⟩ := List.mem_iff_getElem.1 h1
    refine List.mem_eraseIdx_iff_getElem.2 ⟨j, hj, ?_, e⟩
    rintro rfl
    exact hc e.symm
  · intro he hn
    by_cases hz : L.eraseIdx i = []
    · rw [hz, fstL_nil] at hn
      obtain ⟨-, q, -⟩ := naF_zero h
      have := q _ h1
      rw [hn] at this
      exact absurd this (by decide)
    · have := (fstL_ok h' k hz).1
      rw [← hn, he] at this
      exact hni this
end Go.Proofs.YteepbfpcdhdgfaaDoor

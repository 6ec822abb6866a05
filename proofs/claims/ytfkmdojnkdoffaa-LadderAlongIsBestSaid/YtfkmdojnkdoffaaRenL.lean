/- Renditions without fault: what that says, and of some of them; plain. -/
import Derived.Test.YtfkmdojnkdoffaaRenD
import Derived.Sort.Walk0
namespace Go.Proofs.Ytfkmdojnkdoffaa
open Go.RowKit

/-- One rendition comes before another one. -/
def befR (p x : Rng) : Prop := p.ra < x.ra ∨ (p.ra = x.ra ∧ p.na.toList < x.na.toList)
def goodR (x : Rng) : Prop := nameB x.na = true ∧ (1 ≤ x.ra ∧ x.ra ≤ 1000000000) ∧ (1 ≤ x.he ∧ x.he ≤ 10000) ∧ (0 ≤ x.qu ∧ x.qu ≤ 1000000)

theorem befR_trans {a b c : Rng} (h : befR a b) (k : befR b c) : befR a c := by
  unfold befR at *
  rcases h with h | ⟨h1, h2⟩ <;> rcases k with k | ⟨k1, k2⟩
  · left; omega
  · left; omega
  · left; omega
  · right; exact ⟨by omega, List.lt_trans h2 k2⟩

theorem ordR_iff {x p : Rng} {i : Nat} (hi : 0 < i) : ordR x p i = false ↔ befR p x := by
  unfold ordR befR sle
  rw [bytesLess_eq]
  simp only [hi, decide_true, Bool.true_and, Bool.or_eq_false_iff, Bool.and_eq_false_iff, decide_eq_false_iff_not, beq_eq_false_iff_ne, ne_eq]
  constructor
  · rintro ⟨h1, h2⟩
    by_cases e : x.ra = p.ra
    · right
      refine ⟨e.symm, ?_⟩
      rcases h2 with h2 | ⟨h2, h3⟩
      · exact absurd e h2
      · exact Std.lt_of_le_of_ne (Std.not_lt.1 h2) (fun e => h3 e.symm)
    · left; omega
  · rintro (h | ⟨h1, h2⟩)
    · exact ⟨by omega, .inl (by omega)⟩
    · exact ⟨by omega, .inr ⟨fun h => absurd (List.lt_trans h h2) (List.lt_irrefl _), fun h => by rw [h] at h2; exact absurd h2 (List.lt_irrefl _)⟩⟩

theorem crOf_mk {x p : Rng} {i : Nat} {tw : Bool} (h : goodR x) (ho : ordR x p i = false) (ht : tw = false) : crOf x p i tw = 0 := by
  obtain ⟨h1, h2, h3, h4⟩ := h
  subst ht
  unfold crOf
  rw [h1, ho, if_neg (by simp), if_neg ?_]
  · simp
  · simp only [outB, Bool.or_eq_true, decide_eq_true_eq]; omega

theorem checkR_iff (l : List Rng) : checkR l = 0 ↔ l.length ≤ 100 ∧ (∀ x, x ∈ l → goodR x) ∧ l.Pairwise befR ∧ l.Pairwise (fun a b => sameN a b = false) := by
  constructor
  · intro h
    obtain ⟨h1, h2, h3⟩ := checkR_zero h
    have hb : ∀ i, (hi : i + 1 < l.length) → befR l[i] (l[i + 1]) := fun i hi => by
      have h4 := (crOf_zero (h2 (i + 1) hi)).2.2.2.2.1
      rw [getD_of (List.getElem?_eq_getElem hi), Nat.add_sub_cancel, getD_of (List.getElem?_eq_getElem (by omega : i < l.length))] at h4
      exact (ordR_iff (Nat.succ_pos i)).1 h4
    have hd : ∀ d i, (hi : i + d + 1 < l.length) → befR l[i] (l[i + d + 1]) := by
      intro d
      induction d with
      | zero => exact fun i hi => hb i hi
      | succ d ih => exact fun i hi => befR_trans (ih i (by omega)) (hb (i + d + 1) (by omega))
    refine ⟨h1, h3, ?_, ?_⟩
    · rw [List.pairwise_iff_getElem]
      intro i j hi hj hij
      have := hd (j - i - 1) i (by omega)
      have e : i + (j - i - 1) + 1 = j := by omega
      simpa only [e] using this
    · rw [List.pairwise_iff_getElem]
      intro i j hi hj hij
      have h4 := (crOf_zero (h2 j hj)).2.2.2.2.2
      rw [List.any_eq_false] at h4
      have h5 := h4 l[i] (List.mem_take_iff_getElem.2 ⟨i, by omega, rfl⟩)
      rw [getD_of (List.getElem?_eq_getElem hj)] at h5
      simpa using h5
  · rintro ⟨h1, h2, h3, h4⟩
    unfold checkR
    rw [if_neg (by omega)]
    refine FF_zero fun j hj => ?_
    rw [List.pairwise_iff_getElem] at h3 h4
    unfold crAt
    rw [getD_of (List.getElem?_eq_getElem hj)]
    refine crOf_mk (h2 _ (List.getElem_mem _)) ?_ ?_
    · by_cases e : 0 < j
      · rw [ordR_iff e, getD_of (List.getElem?_eq_getElem (by omega : j - 1 < l.length))]
        exact h3 (j - 1) j (by omega) hj (by omega)
      · simp [ordR, e]
    · rw [List.any_eq_false]
      intro o ho
      obtain ⟨i, hi, rfl⟩ := List.mem_take_iff_getElem.1 ho
      simpa using h4 i j (by omega) hj (by omega)

/-- Some renditions of those without fault have none. -/
theorem checkR_sub {l m : List Rng} (hs : m.Sublist l) (h : checkR l = 0) : checkR m = 0 := by
  rw [checkR_iff] at h ⊢
  obtain ⟨h1, h2, h3, h4⟩ := h
  exact ⟨Nat.le_trans hs.length_le h1, fun x hx => h2 x (hs.subset hx), h3.sublist hs, h4.sublist hs⟩
end Go.Proofs.Ytfkmdojnkdoffaa

/- What the corners of the hull are: sensible, rising, and above all; plain. -/
import Derived.Test.YtikgkgfcnciomaaHulQ
namespace Go.Proofs.Ytikgkgfcnciomaa
open Go.RowKit

theorem best_ex (g R : Nat → Int) (P : Nat → Prop) : ∀ n, (∃ k, k < n ∧ P k) → ∃ y, y < n ∧ P y ∧ ∀ p, p < n → P p → g p < g y ∨ (g p = g y ∧ (R y < R p ∨ (R y = R p ∧ y ≤ p)))
  | 0, ⟨k, h, _⟩ => by omega
  | n + 1, ⟨k, hk, hP⟩ => by
    by_cases h0 : ∃ k, k < n ∧ P k
    · obtain ⟨y, hy, hPy, hb⟩ := best_ex g R P n h0
      by_cases hn : P n ∧ (g y < g n ∨ (g y = g n ∧ R n < R y))
      · refine ⟨n, by omega, hn.1, fun p hp hPp => ?_⟩
        by_cases e : p = n
        · subst e; exact .inr ⟨rfl, .inr ⟨rfl, Nat.le_refl _⟩⟩
        · have := hb p (by omega) hPp
          omega
      · refine ⟨y, by omega, hPy, fun p hp hPp => ?_⟩
        by_cases e : p = n
        · subst e
          have h1 : ¬ (g y < g p ∨ (g y = g p ∧ R p < R y)) := fun h => hn ⟨hPp, h⟩
          omega
        · exact hb p (by omega) hPp
    · have e : k = n := by
        rcases Nat.lt_or_ge k n with h | h
        · exact absurd ⟨k, h, hP⟩ h0
        · omega
      subst e
      refine ⟨k, by omega, hP, fun p hp hPp => ?_⟩
      by_cases e : p = k
      · subst e; exact .inr ⟨rfl, .inr ⟨rfl, Nat.le_refl _⟩⟩
      · exact absurd ⟨p, by omega, hPp⟩ h0

/-- A corner of the whole upper hull. -/
def Cnr (l : List Rng) (x : Nat) : Prop := x < l.length ∧ frstB l x = true ∧ corB l x = true
structure RefI (l : List Rng) (i : Nat) (s : List Nat) : Prop where
  up : s.Pairwise fun a b => a < b ∧ qA l a < qA l b
  mem : ∀ x, x ∈ s → x < i ∧ Cnr l x ∧ ∀ y, y < x → Cnr l y → qA l y < qA l x
  last : ∀ y, y < i → Cnr l y → 0 < s.length ∧ qA l y ≤ qA l (s.getD (s.length - 1) 0)
theorem refN_ok (l : List Rng) : ∀ i, i ≤ l.length → RefI l i (refN l i)
  | 0, _ => ⟨by simp [refN], fun x h => by simp [refN] at h, fun y h => by omega⟩
  | i + 1, hi => by
    have ih := refN_ok l i (by omega)
    unfold refN
    generalize refN l i = s at ih ⊢
    have hall : ∀ a, a ∈ s → qA l a ≤ qA l (s.getD (s.length - 1) 0) := fun a ha => (ih.last a ((ih.mem a ha).1) (ih.mem a ha).2.1).2
    by_cases hc : (frstB l i && corB l i) = true
    · rw [if_pos hc]
      rw [Bool.and_eq_true] at hc
      have hci : Cnr l i := ⟨by omega, hc.1, hc.2⟩
      unfold incS
      by_cases hq : s.length = 0 ∨ qA l (s.getD (s.length - 1) 0) < qA l i
      · rw [if_pos hq]
        have hlt : ∀ y, y < i → Cnr l y → qA l y < qA l i := fun y hy hcy => by
          have := ih.last y hy hcy
          omega
        refine ⟨?_, fun x hx => ?_, fun y hy hcy => ?_⟩
        · rw [List.pairwise_append]
          refine ⟨ih.up, by simp, fun a ha b hb => ?_⟩
          rw [List.mem_singleton] at hb
          subst hb
          have := ih.mem a ha
          exact ⟨this.1, hlt a this.1 this.2.1⟩
        · rw [List.mem_append, List.mem_singleton] at hx
          rcases hx with hx | rfl
          · have := ih.mem x hx
            exact ⟨by omega, this.2⟩
          · exact ⟨by omega, hci, hlt⟩
        · rw [List.length_append, List.length_singleton, Nat.add_sub_cancel, getD_snoc_eq]
          refine ⟨by omega, ?_⟩
          by_cases e : y = i
          · subst e; exact Int.le_refl _
          · have := hlt y (by omega) hcy; omega
      · rw [if_neg hq]
        refine ⟨ih.up, fun x hx => ?_, fun y hy hcy => ?_⟩
        · have := ih.mem x hx
          exact ⟨by omega, this.2⟩
        · by_cases e : y = i
          · subst e; omega
          · exact ih.last y (by omega) hcy
    · rw [if_neg hc]
      refine ⟨ih.up, fun x hx => ?_, fun y hy hcy => ?_⟩
      · have := ih.mem x hx
        exact ⟨by omega, this.2⟩
      · refine ih.last y ?_ hcy
        rcases Nat.lt_or_ge y i with h | h
        · exact h
        · obtain rfl : y = i := by omega
          exact absurd (by rw [hcy.2.1, hcy.2.2]; rfl) hc

theorem cnr_rate {l : List Rng} (h : checkR l = 0) {x y : Nat} (hx : Cnr l x) (hy : Cnr l y) (hxy : x < y) : rA l x < rA l y := by
  have h1 := rates_le h x y (by omega) hy.1
  rcases Int.lt_or_eq_of_le h1 with h2 | h2
  · exact h2
  · exfalso
    have a := frstB_iff.1 hx.2.1 y hy.1 h2.symm
    have b := frstB_iff.1 hy.2.1 x hx.1 h2
    omega
theorem lt_of_rate {l : List Rng} (h : checkR l = 0) {x y : Nat} (hx : x < l.length) (hr : rA l x < rA l y) : x < y := by
  rcases Nat.lt_or_ge x y with h1 | h1
  · exact h1
  · have := rates_le h y x h1 hx
    omega

/-- The highest one above a direction is a corner. -/
theorem max_cnr {l : List Rng} {N D : Int} (hD : 0 < D) {y : Nat} (hy : y < l.length) (hb : ∀ p, p < l.length → (qA l p * D - rA l p * N < qA l y * D - rA l y * N ∨ (qA l p * D - rA l p * N = qA l y * D - rA l y * N ∧ (rA l y < rA l p ∨ (rA l y = rA l p ∧ y ≤ p))))) : Cnr l y := by
  refine ⟨hy, frstB_iff.2 fun k hk hr => ?_, corB_iff.2 fun a b ha hb' h1 h2 => ?_⟩
  · have h1 := hb k hk
    rw [hr] at h1
    rcases Int.lt_trichotomy (qA l k) (qA l y) with h2 | h2 | h2
    · exact .inl h2
    · refine .inr ⟨h2, ?_⟩
      rw [h2] at h1
      omega
    · have : qA l y * D < qA l k * D := Int.mul_lt_mul_of_pos_right h2 hD
      omega
  · have ga := hb a ha
    have gb := hb b hb'
    have ga' : qA l a * D - rA l a * N < qA l y * D - rA l y * N := by omega
    have gb' : qA l b * D - rA l b * N ≤ qA l y * D - rA l y * N := by omega
    have k1 := Int.mul_lt_mul_of_pos_right (c := rA l b - rA l y) (show 0 < (qA l y * D - rA l y * N) - (qA l a * D - rA l a * N) by omega) (by omega)
    have k2 := Int.mul_le_mul_of_nonneg_right (c := rA l y - rA l a) (show 0 ≤ (qA l y * D - rA l y * N) - (qA l b * D - rA l b * N) by omega) (by omega)
    rw [Int.zero_mul] at k1 k2
    unfold abv
    generalize qA l a = qa at *
    generalize qA l b = qb at *
    generalize qA l y = qy at *
    generalize rA l a = ra at *
    generalize rA l b = rb at *
    generalize rA l y = ry at *
    have key : (qy * D - ry * N - (qa * D - ra * N)) * (rb - ry) + (qy * D - ry * N - (qb * D - rb * N)) * (ry - ra) = D * ((qy - qa) * (rb - ra) - (qb - qa) * (ry - ra)) := by grind
    have k3 : 0 < D * ((qy - qa) * (rb - ra) - (qb - qa) * (ry - ra)) := by omega
    have k4 : 0 < (qy - qa) * (rb - ra) - (qb - qa) * (ry - ra) := Int.lt_of_mul_lt_mul_left (a := D) (by rw [Int.mul_zero]; exact k3) (Int.le_of_lt hD)
    omega

/-- Each corner is sensible. -/
theorem hul_sen {l : List Rng} (h : checkR l = 0) {r : Nat} (hr : r ∈ refN l l.length) : senB l (l.getD r default) = true := by
  obtain ⟨hrl, hcr, hbef⟩ := (refN_ok l l.length (Nat.le_refl _)).mem r hr
  unfold senB
  rw [Bool.not_eq_true', List.any_eq_false]
  intro o ho hd
  obtain ⟨k, hk, rfl⟩ := List.mem_iff_getElem.1 ho
  have ek : l.getD k default = l[k] := getD_of (List.getElem?_eq_getElem hk)
  unfold domB at hd
  rw [← ek] at hd
  simp only [Bool.and_eq_true, Bool.or_eq_true, decide_eq_true_eq] at hd
  obtain ⟨⟨h1, h2⟩, h3⟩ := hd
  have h1 : rA l k ≤ rA l r := h1
  have h2 : qA l r ≤ qA l k := h2
  have h3 : rA l k < rA l r ∨ qA l r < qA l k := h3
  have hf := frstB_iff.1 hcr.2.1
  rcases Int.lt_or_eq_of_le h1 with h4 | h4
  · obtain ⟨y, hy, hyr, hb⟩ := best_ex (qA l) (rA l) (fun p => rA l p < rA l r) l.length ⟨k, hk, h4⟩
    have hqk := hb k hk h4
    have hqy : qA l r ≤ qA l y := by omega
    have hyl := lt_of_rate h hy hyr
    have hcy : Cnr l y := by
      refine ⟨hy, frstB_iff.2 fun z hz hzr => ?_, corB_iff.2 fun a b ha hb' ra rb => ?_⟩
      · have := hb z hz (by omega)
        omega
      · have g1 := hb a ha (by omega)
        have g2 : qA l a < qA l y := by omega
        have easy : qA l b ≤ qA l y → abv (rA l) (qA l) a y b := fun hq => by
          unfold abv
          have i1 := Int.mul_le_mul_of_nonneg_right (c := rA l y - rA l a) (show qA l b - qA l a ≤ qA l y - qA l a by omega) (by omega)
          have i2 := Int.mul_lt_mul_of_pos_left (c := qA l y - qA l a) (show rA l y - rA l a < rA l b - rA l a by omega) (by omega)
          omega
        rcases Int.lt_trichotomy (rA l b) (rA l r) with e | e | e
        · have := hb b hb' e
          exact easy (by omega)
        · have := hf b hb' e
          exact easy (by omega)
        · have c1 := corB_iff.1 hcr.2.2 a b ha hb' (by omega) e
          unfold abv at c1 ⊢
          have i1 := Int.mul_le_mul_of_nonneg_right (c := rA l y - rA l a) (show qA l r - qA l a ≤ qA l y - qA l a by omega) (by omega)
          have i2 := Int.mul_lt_mul_of_pos_left (c := qA l y - qA l a) (show rA l y - rA l a < rA l r - rA l a by omega) (by omega)
          exact fr_lt_le (b := rA l b - rA l a) (d := rA l r - rA l a) (f := rA l y - rA l a) c1 (Int.le_of_lt (by omega)) (by omega) (by omega) (by omega)
    have := hbef y hyl hcy
    omega
  · have := hf k hk h4
    omega

/-- A list with renditions has a corner. -/
theorem hul_some {l : List Rng} (h : 0 < l.length) : 0 < (refN l l.length).length := by
  obtain ⟨y, hy, _, hb⟩ := best_ex (fun p => qA l p * 1 - rA l p * 0) (rA l) (fun _ => True) l.length ⟨0, h, trivial⟩
  have hc := max_cnr (l := l) (N := 0) (D := 1) (by omega) hy (fun p hp => hb p hp trivial)
  exact ((refN_ok l l.length (Nat.le_refl _)).last y hy hc).1

theorem hul_up {l : List Rng} (h : checkR l = 0) {i j : Nat} (hij : i < j) (hj : j < (refN l l.length).length) :
    rA l ((refN l l.length).getD i 0) < rA l ((refN l l.length).getD j 0) ∧ qA l ((refN l l.length).getD i 0) < qA l ((refN l l.length).getD j 0) := by
  have hk := refN_ok l l.length (Nat.le_refl _)
  have hp := List.pairwise_iff_getElem.1 hk.up i j (by omega) hj hij
  rw [← getD_of (d := 0) (List.getElem?_eq_getElem (by omega : i < (refN l l.length).length)), ← getD_of (d := 0) (List.getElem?_eq_getElem hj)] at hp
  exact ⟨cnr_rate h (hk.mem _ (mem_getD.2 ⟨i, by omega, rfl⟩)).2.1 (hk.mem _ (mem_getD.2 ⟨j, hj, rfl⟩)).2.1 hp.1, hp.2⟩
/-- The lines become flatter. -/
theorem hul_flat {l : List Rng} (h : checkR l = 0) {i j k : Nat} (hij : i < j) (hjk : j < k) (hk : k < (refN l l.length).length) :
    SLt (rA l) (qA l) ((refN l l.length).getD j 0) ((refN l l.length).getD k 0) ((refN l l.length).getD i 0) ((refN l l.length).getD j 0) := by
  have ho := refN_ok l l.length (Nat.le_refl _)
  have c := fun i (hi : i < (refN l l.length).length) => (ho.mem _ (mem_getD.2 ⟨i, hi, rfl⟩)).2.1
  exact abv_iff.1 (corB_iff.1 (c j (by omega)).2.2 _ _ (c i (by omega)).1 (c k hk).1 (hul_up h hij (by omega)).1 (hul_up h hjk hk).1)
theorem senN_mem (l : List Rng) : ∀ i x, x < i → senB l (l.getD x default) = true → x ∈ senN l i
  | 0, x, h, _ => by omega
  | i + 1, x, h, hs => by
    unfold senN
    by_cases e : x = i
    · subst e; rw [if_pos hs]; simp
    · have := senN_mem l i x (by omega) hs
      split
      · exact List.mem_append_left _ this
      · exact this
end Go.Proofs.Ytikgkgfcnciomaa

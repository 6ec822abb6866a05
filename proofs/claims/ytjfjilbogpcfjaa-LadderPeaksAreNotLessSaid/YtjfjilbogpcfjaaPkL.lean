/- LadderPeaksAreNotLess: the plain law. -/
import Derived.Test.YtjfjilbogpcfjaaPeak1
namespace Go.Proofs.Ytjfjilbogpcfjaa
open Go.RowKit

theorem rat_eq {S L C : Nat} : rNum S L C * L = 8 * S * C * rDen S L C := by
  have h1 := Nat.div_mul_cancel (Nat.gcd_dvd_left (8 * S) L)
  have h2 := Nat.div_mul_cancel (Nat.gcd_dvd_right (8 * S) L)
  have h3 := Nat.div_mul_cancel (Nat.gcd_dvd_left C (L / rG S L))
  have h4 := Nat.div_mul_cancel (Nat.gcd_dvd_right C (L / rG S L))
  unfold rNum rDen rH rG at *
  generalize Nat.gcd C (L / Nat.gcd (8 * S) L) = h at *
  generalize C / h = c at *
  generalize L / Nat.gcd (8 * S) L = b at *
  generalize Nat.gcd (8 * S) L = g at *
  generalize 8 * S / g = a at *
  generalize b / h = d at *
  rw [← h1, ← h2, ← h3, ← h4]
  simp only [Nat.mul_comm, Nat.mul_left_comm]

theorem rat_ge {p q S A C : Nat} (hq : 0 < q) (hA : 0 < A) (h : S * q ≤ p * A) : rNum S A C * rDen p q C ≤ rNum p q C * rDen S A C := by
  have h1 := rat_eq (S := p) (L := q) (C := C)
  have h2 := rat_eq (S := S) (L := A) (C := C)
  generalize rNum p q C = n1 at *
  generalize rDen p q C = d1 at *
  generalize rNum S A C = n2 at *
  generalize rDen S A C = d2 at *
  refine Nat.le_of_mul_le_mul_right (?_ : n2 * d1 * (q * A) ≤ n1 * d2 * (q * A)) (Nat.mul_pos hq hA)
  have e1 : n2 * d1 * (q * A) = (n2 * A) * (d1 * q) := by simp only [Nat.mul_comm, Nat.mul_left_comm]
  have e2 : n1 * d2 * (q * A) = (n1 * q) * (d2 * A) := by simp only [Nat.mul_comm, Nat.mul_left_comm]
  rw [e1, e2, h1, h2]
  have e3 : 8 * S * C * d2 * (d1 * q) = (8 * C * d1 * d2) * (S * q) := by simp only [Nat.mul_assoc, Nat.mul_comm, Nat.mul_left_comm]
  have e4 : 8 * p * C * d1 * (d2 * A) = (8 * C * d1 * d2) * (p * A) := by simp only [Nat.mul_assoc, Nat.mul_comm, Nat.mul_left_comm]
  rw [e3, e4]
  exact Nat.mul_le_mul_left _ h

/-- What was found is no less than a row. -/
def Dom (st : Int × Int) (x y : Int) : Prop := 0 < st.2 ∧ x * st.2 ≤ st.1 * y
theorem pkS_dom {lo hi : Int} (hlo : 1 ≤ lo) {st : Int × Int} {x y x' y' : Int} (hy : 0 < y) (h : Dom st x y) : Dom (pkS lo hi st x' y') x y := by
  unfold pkS
  split
  · rename_i h1
    obtain ⟨h2, h3, h4⟩ := h1
    obtain ⟨h5, h6⟩ := h
    have hy' : 0 < y' := by omega
    refine ⟨hy', ?_⟩
    show x * y' ≤ x' * y
    have h7 : st.1 * y' < x' * st.2 := by
      rcases h4 with h4 | h4
      · omega
      · exact h4
    have a1 : x * st.2 * y' ≤ st.1 * y * y' := Int.mul_le_mul_of_nonneg_right h6 (by omega)
    have a2 : st.1 * y' * y ≤ x' * st.2 * y := Int.mul_le_mul_of_nonneg_right (by omega) (by omega)
    refine Int.le_of_mul_le_mul_right (?_ : x * y' * st.2 ≤ x' * y * st.2) h5
    have e1 : x * y' * st.2 = x * st.2 * y' := by rw [Int.mul_assoc, Int.mul_comm y', ← Int.mul_assoc]
    have e2 : x' * y * st.2 = x' * st.2 * y := by rw [Int.mul_assoc, Int.mul_comm y, ← Int.mul_assoc]
    have e3 : st.1 * y * y' = st.1 * y' * y := by rw [Int.mul_assoc, Int.mul_comm y, ← Int.mul_assoc]
    omega
  · exact h
theorem pkS_self {lo hi : Int} (hlo : 1 ≤ lo) {st : Int × Int} (hst : 0 ≤ st.2) {x y : Int} (h1 : lo ≤ y) (h2 : y ≤ hi) : Dom (pkS lo hi st x y) x y := by
  unfold pkS
  split
  · exact ⟨by show 0 < y; omega, Int.le_refl _⟩
  · rename_i h3
    have h4 : ¬ (st.2 = 0 ∨ st.1 * y < x * st.2) := fun h => h3 ⟨h1, h2, h⟩
    rw [not_or] at h4
    exact ⟨by omega, by omega⟩
theorem pkI_dom {lo hi : Int} (hlo : 1 ≤ lo) {s l : List Int} {i : Nat} {st : Int × Int} {x y : Int} (hy : 0 < y) (h : Dom st x y) : ∀ m, Dom (pkI lo hi s l i m st) x y
  | 0 => h
  | m + 1 => pkS_dom hlo hy (pkI_dom hlo hy h m)
theorem pkA_dom {lo hi : Int} (hlo : 1 ≤ lo) {s l : List Int} {x y : Int} (hy : 0 < y) (h : Dom (pkA lo hi s l 1) x y) : ∀ n, Dom (pkA lo hi s l (n + 1)) x y
  | 0 => h
  | n + 1 => pkI_dom hlo hy (pkA_dom hlo hy h n) _

/-- The greatest rate of rows is no less than the mean one. -/
theorem peak_ge {s l : List Int} {c z : Int} (h : segF s l c = 0) (hz0 : 0 ≤ z) (hz1 : z < sumI l) :
    pkF s l c (1 + z) (sumI l) = ratF (pkA (1 + z) (sumI l) s l s.length).1.toNat (pkA (1 + z) (sumI l) s l s.length).2.toNat c.toNat ∧ pkG s l c (1 + z) (sumI l) = true ∧
      PkOk (pkA (1 + z) (sumI l) s l s.length) ∧ Dom (pkA (1 + z) (sumI l) s l s.length) (sumI s) (sumI l) := by
  obtain ⟨h1, h2, h3, h4, h5, h6, h7⟩ := segF_zero h
  have hss := seg_sums h
  have hdom : Dom (pkA (1 + z) (sumI l) s l s.length) (sumI s) (sumI l) := by
    obtain ⟨n, hn⟩ : ∃ n, s.length = n + 1 := ⟨s.length - 1, by omega⟩
    have hrow1 : rowS s 0 s.length = sumI s := by unfold rowS; rw [List.drop_zero, List.take_length]
    have hrow2 : rowS l 0 s.length = sumI l := by unfold rowS; rw [List.drop_zero, ← h3, List.take_length]
    have hone : Dom (pkA (1 + z) (sumI l) s l 1) (sumI s) (sumI l) := by
      show Dom (pkI (1 + z) (sumI l) s l 0 (s.length - 0) (0, 0)) (sumI s) (sumI l)
      rw [Nat.sub_zero, hn, pkI, ← hn, hrow1, hrow2]
      exact pkS_self (by omega) (pkI_ok h4 h5 0 ⟨by simp, by simp, by simp, by simp⟩ n (by omega)).2.2.1 (by omega) (Int.le_refl _)
    rw [hn]
    exact pkA_dom (by omega) (by omega) hone n
  have hok := pkA_ok (lo := 1 + z) (hi := sumI l) h4 h5 h2 s.length
  have ho : (outB (1 + z) 1 (sumI l) || decide (1000000000000000 < sumI l)) = false := by simp [outB]; omega
  have hne : (pkA (1 + z) (sumI l) s l s.length).2 ≠ 0 := by have := hdom.1; omega
  refine ⟨?_, ?_, hok, hdom⟩
  · unfold pkF
    rw [if_neg (by simp [h]), ho, if_neg (by simp), if_neg hne]
  · unfold pkG
    rw [h, ho, decide_eq_true hne]
    rfl

/-- What Mean and Peak return together. -/
theorem peaks_not_less {s l : List Int} {c z : Int} (h : mF s l c = 0) (hz0 : 0 ≤ z) (hz1 : z < sumI l) :
    (pkF s l c (1 + z) (sumI l) = 1) ∨ (pkF s l c (1 + z) (sumI l) = 0 ∧ pkB s l c (1 + z) (sumI l) = true ∧ (0 ≤ pkN s l c (1 + z) (sumI l) ∧ pkN s l c (1 + z) (sumI l) ≤ 9223372036854775807) ∧ (1 ≤ pkD s l c (1 + z) (sumI l) ∧ pkD s l c (1 + z) (sumI l) ≤ 9223372036854775807) ∧ (0 ≤ mN s l c ∧ mN s l c ≤ 9223372036854775807) ∧ (1 ≤ mD s l c ∧ mD s l c ≤ 9223372036854775807) ∧
      ¬ pkN s l c (1 + z) (sumI l) * mD s l c < mN s l c * pkD s l c (1 + z) (sumI l)) := by
  have hs : segF s l c = 0 := by
    unfold mF at h
    split at h
    · rename_i h1; exact absurd h h1
    · rename_i h1; simpa using h1
  obtain ⟨h1, h2, h3, h4⟩ := peak_ge hs hz0 hz1
  obtain ⟨s1, s2, s3, s4⟩ := seg_sums hs
  have hc := (segF_zero hs).2.2.2.2.2
  have hmn : mN s l c = ratN (sumI s).toNat (sumI l).toNat c.toNat := by unfold mN; rw [if_neg (by simp [hs])]
  have hmd : mD s l c = ratD (sumI s).toNat (sumI l).toNat c.toNat := by unfold mD; rw [if_neg (by simp [hs])]
  have hmf : ratF (sumI s).toNat (sumI l).toNat c.toNat = 0 := by unfold mF at h; rw [if_neg (by simp [hs])] at h; exact h
  have hpn : pkN s l c (1 + z) (sumI l) = ratN (pkA (1 + z) (sumI l) s l s.length).1.toNat (pkA (1 + z) (sumI l) s l s.length).2.toNat c.toNat := by unfold pkN; rw [if_pos h2]
  have hpd : pkD s l c (1 + z) (sumI l) = ratD (pkA (1 + z) (sumI l) s l s.length).1.toNat (pkA (1 + z) (sumI l) s l s.length).2.toNat c.toNat := by unfold pkD; rw [if_pos h2]
  have hpb : pkB s l c (1 + z) (sumI l) = decide (pkF s l c (1 + z) (sumI l) = 0) := by unfold pkB; rw [h2]; rfl
  rw [hpb, hpn, hpd, hmn, hmd]
  rw [h1]
  obtain ⟨o1, o2, o3, o4⟩ := h3
  obtain ⟨d1, d2⟩ := h4
  generalize pkA (1 + z) (sumI l) s l s.length = st at o1 o2 o3 o4 d1 d2
  obtain ⟨p, hp⟩ : ∃ n : Nat, st.1 = n := ⟨st.1.toNat, by omega⟩
  obtain ⟨q, hq⟩ : ∃ n : Nat, st.2 = n := ⟨st.2.toNat, by omega⟩
  obtain ⟨S, hS⟩ : ∃ n : Nat, sumI s = n := ⟨(sumI s).toNat, by omega⟩
  obtain ⟨A, hA⟩ : ∃ n : Nat, sumI l = n := ⟨(sumI l).toNat, by omega⟩
  rw [hp, hq, hS, hA] at d2
  rw [hq] at d1 o4
  rw [hp] at o2
  rw [hS] at s2
  rw [hA] at s3 s4
  rw [hS, hA] at hmf
  rw [hp, hq, hS, hA]
  simp only [Int.toNat_natCast] at hmf ⊢
  have hdom : S * q ≤ p * A := by
    rw [← Int.natCast_mul, ← Int.natCast_mul, Int.ofNat_le] at d2
    exact d2
  have hge := rat_ge (C := c.toNat) (show 0 < q by omega) (show 0 < A by omega) hdom
  have hD1 := rD_pos (S := p) (C := c.toNat) (show 1 ≤ q by omega)
  have hD2 := rD_pos (S := S) (C := c.toNat) (show 1 ≤ A by omega)
  have hDl1 : rDen p q c.toNat ≤ q := Nat.le_trans (Nat.div_le_self _ _) (Nat.div_le_self _ _)
  have hDl2 : rDen S A c.toNat ≤ A := Nat.le_trans (Nat.div_le_self _ _) (Nat.div_le_self _ _)
  unfold ratF at hmf
  have hlt : rNum S A c.toNat < 9223372036854775808 := by
    split at hmf
    · assumption
    · simp at hmf
  unfold ratF ratN ratD
  by_cases hov : rNum p q c.toNat < 9223372036854775808
  · right
    simp only [if_pos hov, if_pos hlt]
    refine ⟨trivial, by simp, by omega, by omega, by omega, by omega, ?_⟩
    rw [← Int.natCast_mul, ← Int.natCast_mul, Int.ofNat_lt]
    omega
  · left
    rw [if_neg hov]
end Go.Proofs.Ytjfjilbogpcfjaa

/- Slopes, and the upper hull by a stack; plain. -/
import Derived.Test.YtikgkgfcnciomaaLib
namespace Go.Proofs.Ytikgkgfcnciomaa
open Go.RowKit

/-- Fractions with denominators above 0. -/
theorem fr_lt_le {a b c d e f : Int} (h1 : a * d < c * b) (h2 : c * f ≤ e * d) (hb : 0 < b) (hd : 0 < d) (hf : 0 < f) : a * f < e * b := by
  have h3 : a * d * f < c * b * f := Int.mul_lt_mul_of_pos_right h1 hf
  have h4 : c * f * b ≤ e * d * b := Int.mul_le_mul_of_nonneg_right h2 (Int.le_of_lt hb)
  have e1 : a * d * f = a * f * d := Int.mul_right_comm _ _ _
  have e2 : c * b * f = c * f * b := Int.mul_right_comm _ _ _
  have e3 : e * d * b = e * b * d := Int.mul_right_comm _ _ _
  have h5 : (a * f) * d < (e * b) * d := by omega
  exact Int.lt_of_mul_lt_mul_right h5 (Int.le_of_lt hd)
theorem fr_le_lt {a b c d e f : Int} (h1 : a * d ≤ c * b) (h2 : c * f < e * d) (hb : 0 < b) (hd : 0 < d) (hf : 0 < f) : a * f < e * b := by
  have h3 : a * d * f ≤ c * b * f := Int.mul_le_mul_of_nonneg_right h1 (Int.le_of_lt hf)
  have h4 : c * f * b < e * d * b := Int.mul_lt_mul_of_pos_right h2 hb
  have e1 : a * d * f = a * f * d := Int.mul_right_comm _ _ _
  have e2 : c * b * f = c * f * b := Int.mul_right_comm _ _ _
  have e3 : e * d * b = e * b * d := Int.mul_right_comm _ _ _
  have h5 : (a * f) * d < (e * b) * d := by omega
  exact Int.lt_of_mul_lt_mul_right h5 (Int.le_of_lt hd)
theorem fr_le_le {a b c d e f : Int} (h1 : a * d ≤ c * b) (h2 : c * f ≤ e * d) (hb : 0 < b) (hd : 0 < d) (hf : 0 < f) : a * f ≤ e * b := by
  have h3 : a * d * f ≤ c * b * f := Int.mul_le_mul_of_nonneg_right h1 (Int.le_of_lt hf)
  have h4 : c * f * b ≤ e * d * b := Int.mul_le_mul_of_nonneg_right h2 (Int.le_of_lt hb)
  have e1 : a * d * f = a * f * d := Int.mul_right_comm _ _ _
  have e2 : c * b * f = c * f * b := Int.mul_right_comm _ _ _
  have e3 : e * d * b = e * b * d := Int.mul_right_comm _ _ _
  have h5 : (a * f) * d ≤ (e * b) * d := by omega
  exact Int.le_of_mul_le_mul_right h5 hd

/-- The line from a to b is less steep than that from c to d. -/
def SLt (R Q : Nat → Int) (a b c d : Nat) : Prop := (Q b - Q a) * (R d - R c) < (Q d - Q c) * (R b - R a)
def SLe (R Q : Nat → Int) (a b c d : Nat) : Prop := (Q b - Q a) * (R d - R c) ≤ (Q d - Q c) * (R b - R a)
/-- b lies above the line from a to c. -/
def abv (R Q : Nat → Int) (a b c : Nat) : Prop := (Q c - Q a) * (R b - R a) < (Q b - Q a) * (R c - R a)
instance (R Q : Nat → Int) (a b c : Nat) : Decidable (abv R Q a b c) := by unfold abv; infer_instance

section
variable {R Q : Nat → Int}
theorem SLt.trans_le {a b c d e f : Nat} (h : SLt R Q a b c d) (k : SLe R Q c d e f) (h1 : R a < R b) (h2 : R c < R d) (h3 : R e < R f) : SLt R Q a b e f := fr_lt_le h k (by omega) (by omega) (by omega)
theorem SLe.trans_lt {a b c d e f : Nat} (h : SLe R Q a b c d) (k : SLt R Q c d e f) (h1 : R a < R b) (h2 : R c < R d) (h3 : R e < R f) : SLt R Q a b e f := fr_le_lt h k (by omega) (by omega) (by omega)
theorem SLe.trans {a b c d e f : Nat} (h : SLe R Q a b c d) (k : SLe R Q c d e f) (h1 : R a < R b) (h2 : R c < R d) (h3 : R e < R f) : SLe R Q a b e f := fr_le_le h k (by omega) (by omega) (by omega)
theorem SLt.le {a b c d : Nat} (h : SLt R Q a b c d) : SLe R Q a b c d := Int.le_of_lt h
theorem SLe.refl (a b : Nat) : SLe R Q a b a b := Int.le_refl _
theorem SLe.not {a b c d : Nat} : ¬ SLt R Q a b c d ↔ SLe R Q c d a b := by unfold SLt SLe; omega
/-- the polynomial identity behind all of it -/
theorem med (u v p q : Int) : (u + v) * p - u * (p + q) = v * p - u * q := by rw [Int.add_mul, Int.mul_add]; omega
theorem abv_iff {a b c : Nat} : abv R Q a b c ↔ SLt R Q b c a b := by
  unfold abv SLt
  have h := med (Q b - Q a) (Q c - Q b) (R b - R a) (R c - R b)
  rw [show Q b - Q a + (Q c - Q b) = Q c - Q a by omega, show R b - R a + (R c - R b) = R c - R a by omega] at h
  omega
/-- first ≤ second, then first ≤ whole ≤ second -/
theorem SLe.fst {a b c : Nat} : SLe R Q a b b c ↔ SLe R Q a b a c := by
  unfold SLe
  have h := med (Q b - Q a) (Q c - Q b) (R b - R a) (R c - R b)
  rw [show Q b - Q a + (Q c - Q b) = Q c - Q a by omega, show R b - R a + (R c - R b) = R c - R a by omega] at h
  omega
theorem SLe.snd {a b c : Nat} : SLe R Q a b b c ↔ SLe R Q a c b c := by
  unfold SLe
  have h := med (Q c - Q b) (Q b - Q a) (R c - R b) (R b - R a)
  rw [show Q c - Q b + (Q b - Q a) = Q c - Q a by omega, show R c - R b + (R b - R a) = R c - R a by omega] at h
  omega
theorem SLe.fst' {a b c : Nat} : SLe R Q b c a b ↔ SLe R Q a c a b := by
  unfold SLe
  have h := med (Q b - Q a) (Q c - Q b) (R b - R a) (R c - R b)
  rw [show Q b - Q a + (Q c - Q b) = Q c - Q a by omega, show R b - R a + (R c - R b) = R c - R a by omega] at h
  omega
theorem SLe.snd' {a b c : Nat} : SLe R Q b c a b ↔ SLe R Q b c a c := by
  unfold SLe
  have h := med (Q c - Q b) (Q b - Q a) (R c - R b) (R b - R a)
  rw [show Q c - Q b + (Q b - Q a) = Q c - Q a by omega, show R c - R b + (R b - R a) = R c - R a by omega] at h
  omega
theorem SLt.fst' {a b c : Nat} : SLt R Q b c a b ↔ SLt R Q a c a b := by
  unfold SLt
  have h := med (Q b - Q a) (Q c - Q b) (R b - R a) (R c - R b)
  rw [show Q b - Q a + (Q c - Q b) = Q c - Q a by omega, show R b - R a + (R c - R b) = R c - R a by omega] at h
  omega

/-- How many corners stay when point m comes. -/
def popN (R Q : Nat → Int) (s : List Nat) (m : Nat) : Nat → Nat
  | 0 => 0
  | n + 1 => if 0 < n ∧ ¬ abv R Q (s.getD (n - 1) 0) (s.getD n 0) m then popN R Q s m n else n + 1
/-- The corners of the first m points. -/
def chain (R Q : Nat → Int) : Nat → List Nat
  | 0 => []
  | m + 1 => (chain R Q m).take (popN R Q (chain R Q m) m (chain R Q m).length) ++ [m]

theorem popN_le (s : List Nat) (m : Nat) : ∀ n, popN R Q s m n ≤ n
  | 0 => Nat.le_refl _
  | n + 1 => by
    unfold popN
    split
    · have := popN_le s m n; omega
    · exact Nat.le_refl _
theorem popN_pos (s : List Nat) (m : Nat) : ∀ n, 0 < n → 0 < popN R Q s m n
  | 0, h => h
  | n + 1, _ => by
    unfold popN
    split
    · rename_i h; exact popN_pos s m n h.1
    · omega
theorem popN_stop (s : List Nat) (m : Nat) : ∀ n, 1 < popN R Q s m n → abv R Q (s.getD (popN R Q s m n - 2) 0) (s.getD (popN R Q s m n - 1) 0) m
  | 0, h => by simp [popN] at h
  | n + 1, h => by
    unfold popN at h ⊢
    by_cases hc : 0 < n ∧ ¬ abv R Q (s.getD (n - 1) 0) (s.getD n 0) m
    · rw [if_pos hc] at h ⊢; exact popN_stop s m n h
    · rw [if_neg hc] at h ⊢
      have h1 : 0 < n := by omega
      have : abv R Q (s.getD (n - 1) 0) (s.getD n 0) m := Decidable.byContradiction fun h2 => hc ⟨h1, h2⟩
      simpa using this
theorem popN_gone (s : List Nat) (m : Nat) : ∀ n i, popN R Q s m n ≤ i → i < n → 0 < i ∧ ¬ abv R Q (s.getD (i - 1) 0) (s.getD i 0) m
  | 0, i, _, h => by omega
  | n + 1, i, h1, h2 => by
    unfold popN at h1
    by_cases hc : 0 < n ∧ ¬ abv R Q (s.getD (n - 1) 0) (s.getD n 0) m
    · rw [if_pos hc] at h1
      by_cases e : i = n
      · subst e; exact hc
      · exact popN_gone s m n i h1 (by omega)
    · rw [if_neg hc] at h1; omega

/-- No point is above any line between others. -/
def Cor (R Q : Nat → Int) (m j : Nat) : Prop := ∀ a b, a < j → j < b → b < m → abv R Q a j b
/-- The line from p to j is a tangent of what is before j. -/
def Tan (R Q : Nat → Int) (p j : Nat) : Prop := ∀ a, a < j → SLe R Q p j a j

/-- What holds of the corners of the first m points. -/
structure Chn (R Q : Nat → Int) (m : Nat) (s : List Nat) : Prop where
  len : m = 0 ↔ s = []
  lt : ∀ i, i < s.length → s.getD i 0 < m
  top : 0 < m → s.getD (s.length - 1) 0 = m - 1
  bot : s.getD 0 0 = 0
  up : ∀ i, i + 1 < s.length → s.getD i 0 < s.getD (i + 1) 0
  tan : ∀ i, i + 1 < s.length → Tan R Q (s.getD i 0) (s.getD (i + 1) 0)
  cvx : ∀ i, i + 2 < s.length → abv R Q (s.getD i 0) (s.getD (i + 1) 0) (s.getD (i + 2) 0)
  mem : ∀ j, j ∈ s ↔ j < m ∧ Cor R Q m j

theorem getD_take {s : List Nat} {n i : Nat} (h : i < n) : (s.take n).getD i 0 = s.getD i 0 := by
  simp only [List.getD_eq_getElem?_getD, List.getElem?_take, if_pos h]
theorem getD_snoc_lt {s : List Nat} {x i : Nat} (h : i < s.length) : (s ++ [x]).getD i 0 = s.getD i 0 := by
  simp only [List.getD_eq_getElem?_getD, List.getElem?_append_left h]
theorem getD_snoc_eq {s : List Nat} {x : Nat} : (s ++ [x]).getD s.length 0 = x := by
  simp [List.getD_eq_getElem?_getD]
theorem mem_getD {s : List Nat} {j : Nat} : j ∈ s ↔ ∃ i, i < s.length ∧ s.getD i 0 = j := by
  rw [List.mem_iff_getElem]
  constructor
  · rintro ⟨i, hi, rfl⟩; exact ⟨i, hi, getD_of (List.getElem?_eq_getElem hi)⟩
  · rintro ⟨i, hi, rfl⟩; exact ⟨i, hi, (getD_of (List.getElem?_eq_getElem hi)).symm⟩

theorem chn_step {m : Nat} {s : List Nat} (hR : ∀ a b, a < b → b ≤ m → R a < R b) (h : Chn R Q m s) (hm : 0 < m) : Chn R Q (m + 1) (s.take (popN R Q s m s.length) ++ [m]) := by
  have hs0 : 0 < s.length := by
    cases e : s with
    | nil => have := h.len.2 e; omega
    | cons => simp
  have hle := popN_le (R := R) (Q := Q) s m s.length
  have hpos := popN_pos (R := R) (Q := Q) s m s.length hs0
  have hstop := popN_stop (R := R) (Q := Q) s m s.length
  have hgone := popN_gone (R := R) (Q := Q) s m s.length
  generalize popN R Q s m s.length = n at hle hpos hstop hgone ⊢
  have hRs : ∀ i j, s.getD i 0 < s.getD j 0 → j < s.length → R (s.getD i 0) < R (s.getD j 0) := fun i j h1 h2 => hR _ _ h1 (by have := h.lt j h2; omega)
  have hRm : ∀ i, i < s.length → R (s.getD i 0) < R m := fun i hi => hR _ _ (h.lt i hi) (Nat.le_refl _)
  -- what lies between the top and m lies below the line between them
  have hseg : ∀ d i, i + d + 1 = s.length → n ≤ i + 1 → ∀ a, s.getD i 0 < a → a < m → SLe R Q (s.getD i 0) m a m := by
    intro d
    induction d with
    | zero =>
      intro i hi _ a h1 h2
      have := h.top hm
      rw [show s.length - 1 = i by omega] at this
      omega
    | succ d ih =>
      intro i hi hn a h1 h2
      have hi1 : i + 1 < s.length := by omega
      have hu := h.lt (i + 1) hi1
      have hup := h.up i hi1
      have hrp := hRs i (i + 1) hup hi1
      have hru := hRm (i + 1) hi1
      have hg := (hgone (i + 1) (by omega) hi1).2
      rw [Nat.add_sub_cancel, abv_iff, SLe.not] at hg
      -- slope(p,u) ≤ slope(u,m)
      have hpm : SLe R Q (s.getD i 0) m (s.getD (i + 1) 0) m := SLe.snd.1 hg
      rcases Nat.lt_trichotomy a (s.getD (i + 1) 0) with hau | hau | hau
      · have ht := h.tan i hi1 a hau
        have hra := hR _ _ h1 (by omega : a ≤ m)
        have hra2 := hR _ _ hau (by omega)
        have hra3 := hR _ _ h2 (Nat.le_refl _)
        -- slope(p,u) ≤ slope(a,u), so slope(p,a) ≤ slope(p,u)
        have h3 : SLe R Q (s.getD i 0) a a (s.getD (i + 1) 0) := SLe.snd.2 ht
        have h4 : SLe R Q (s.getD i 0) a (s.getD i 0) (s.getD (i + 1) 0) := SLe.fst.1 h3
        have h5 : SLe R Q (s.getD i 0) (s.getD (i + 1) 0) (s.getD i 0) m := SLe.fst.1 hg
        have h6 := h4.trans h5 hra hrp (by omega)
        exact SLe.snd.1 (SLe.fst.2 h6)
      · subst hau; exact hpm
      · have h3 := ih (i + 1) (by omega) (by omega) a hau h2
        exact hpm.trans h3 (by omega) hru (hR _ _ h2 (Nat.le_refl _))
  obtain ⟨t, ht⟩ : ∃ t, t = s.getD (n - 1) 0 := ⟨_, rfl⟩
  -- going down from the top
  have hdown : ∀ d i, i + d + 1 = n → 0 < i → SLt R Q (s.getD i 0) m (s.getD (i - 1) 0) (s.getD i 0) := by
    intro d
    induction d with
    | zero =>
      intro i hi h0
      have := hstop (by omega)
      rw [show n - 2 = i - 1 by omega, show n - 1 = i by omega, abv_iff] at this
      exact this
    | succ d ih =>
      intro i hi h0
      have h1 := ih (i + 1) (by omega) (by omega)
      rw [Nat.add_sub_cancel] at h1
      have hc := h.cvx (i - 1) (by omega)
      rw [show i - 1 + 1 = i by omega, show i - 1 + 2 = i + 1 by omega, abv_iff] at hc
      have hup := h.up i (by omega)
      have hup0 := h.up (i - 1) (by omega)
      rw [show i - 1 + 1 = i by omega] at hup0
      have h2 := SLt.fst'.1 h1
      exact h2.trans_le hc.le (hRm i (by omega)) (hRs i (i + 1) hup (by omega)) (hRs (i - 1) i hup0 (by omega))
  have htan : Tan R Q t m := by
    intro a ha
    rw [ht]
    rcases Nat.lt_trichotomy a (s.getD (n - 1) 0) with hau | hau | hau
    · have hn1 : 1 < n := by
        rcases Nat.lt_or_ge 1 n with h1 | h1
        · exact h1
        · exfalso
          have e : n - 1 = 0 := by omega
          rw [e, h.bot] at hau; omega
      have h1 := hdown 0 (n - 1) (by omega) (by omega)
      have hup := h.up (n - 2) (by omega)
      rw [show n - 2 + 1 = n - 1 by omega] at hup
      have h2 := h.tan (n - 2) (by omega) a (by rw [show n - 2 + 1 = n - 1 by omega]; exact hau)
      rw [show n - 2 + 1 = n - 1 by omega] at h2
      rw [show n - 1 - 1 = n - 2 by omega] at h1
      have h3 := h1.trans_le h2 (hRm (n - 1) (by omega)) (hRs _ _ hup (by omega)) (hR _ _ hau (by have := h.lt (n - 1) (by omega); omega))
      exact SLe.snd'.1 h3.le
    · subst hau; exact SLe.refl _ _
    · exact hseg (s.length - n) (n - 1) (by omega) (by omega) a hau ha
  have hcor : ∀ i, i < n → ∀ a, a < s.getD i 0 → abv R Q a (s.getD i 0) m := by
    intro i hi a ha
    have hi0 : 0 < i := by
      rcases Nat.eq_zero_or_pos i with e | e
      · rw [e, h.bot] at ha; omega
      · exact e
    have h1 := hdown (n - 1 - i) i (by omega) hi0
    have h2 := h.tan (i - 1) (by omega) a (by rw [show i - 1 + 1 = i by omega]; exact ha)
    have hup0 := h.up (i - 1) (by omega)
    rw [show i - 1 + 1 = i by omega] at h2 hup0
    rw [abv_iff]
    exact h1.trans_le h2 (hRm i (by omega)) (hRs _ _ hup0 (by omega)) (hR _ _ ha (by have := h.lt i (by omega); omega))
  have htl : (s.take n).length = n := by simp; omega
  have hlen : (s.take n ++ [m]).length = n + 1 := by simp; omega
  have hlo : ∀ i, i < n → (s.take n ++ [m]).getD i 0 = s.getD i 0 := fun i hi => by rw [getD_snoc_lt (by omega), getD_take hi]
  have hhi : (s.take n ++ [m]).getD n 0 = m := by
    have := getD_snoc_eq (s := s.take n) (x := m)
    rwa [htl] at this
  refine ⟨by simp, fun i hi => ?_, fun _ => ?_, ?_, fun i hi => ?_, fun i hi => ?_, fun i hi => ?_, fun j => ?_⟩
  · rw [hlen] at hi
    rcases Nat.lt_or_ge i n with h1 | h1
    · rw [hlo i h1]; have := h.lt i (by omega); omega
    · obtain rfl : i = n := by omega
      rw [hhi]; omega
  · rw [hlen, Nat.add_sub_cancel, hhi]; omega
  · rw [hlo 0 hpos]; exact h.bot
  · rw [hlen] at hi
    rw [hlo i (by omega)]
    rcases Nat.lt_or_ge (i + 1) n with h1 | h1
    · rw [hlo _ h1]; exact h.up i (by omega)
    · obtain rfl : n = i + 1 := by omega
      rw [hhi]; exact h.lt i (by omega)
  · rw [hlen] at hi
    rw [hlo i (by omega)]
    rcases Nat.lt_or_ge (i + 1) n with h1 | h1
    · rw [hlo _ h1]; exact h.tan i (by omega)
    · obtain rfl : n = i + 1 := by omega
      rw [hhi]
      rw [Nat.add_sub_cancel] at ht
      rw [← ht]; exact htan
  · rw [hlen] at hi
    rw [hlo i (by omega), hlo (i + 1) (by omega)]
    rcases Nat.lt_or_ge (i + 2) n with h1 | h1
    · rw [hlo _ h1]; exact h.cvx i (by omega)
    · obtain rfl : n = i + 2 := by omega
      rw [hhi]
      exact hcor (i + 1) (by omega) _ (h.up i (by omega))
  · rw [mem_getD, hlen]
    constructor
    · rintro ⟨i, hi, rfl⟩
      rcases Nat.lt_or_ge i n with h1 | h1
      · rw [hlo i h1]
        have h2 := (h.mem (s.getD i 0)).1 (mem_getD.2 ⟨i, by omega, rfl⟩)
        refine ⟨by omega, fun a b ha hb hbm => ?_⟩
        by_cases e : b = m
        · subst e; exact hcor i h1 a ha
        · exact h2.2 a b ha hb (by omega)
      · obtain rfl : i = n := by omega
        rw [hhi]
        exact ⟨by omega, fun a b _ hb hbm => by omega⟩
    · rintro ⟨hj, hc⟩
      by_cases e : j = m
      · subst e; exact ⟨n, by omega, hhi⟩
      · have h2 := (h.mem j).2 ⟨by omega, fun a b ha hb hbm => hc a b ha hb (by omega)⟩
        obtain ⟨i, hi, rfl⟩ := mem_getD.1 h2
        rcases Nat.lt_or_ge i n with h1 | h1
        · exact ⟨i, by omega, hlo i h1⟩
        · exfalso
          have hg := hgone i h1 hi
          have hup := h.up (i - 1) (by omega)
          rw [show i - 1 + 1 = i by omega] at hup
          exact hg.2 (hc _ m hup (h.lt i hi) (by omega))

theorem chain_ok : ∀ m, (∀ a b, a < b → b < m → R a < R b) → Chn R Q m (chain R Q m)
  | 0, _ => ⟨by simp [chain], fun i hi => by simp [chain] at hi, fun h => by omega, by simp [chain], fun i hi => by simp [chain] at hi, fun i hi => by simp [chain] at hi, fun i hi => by simp [chain] at hi, fun j => by simp [chain]⟩
  | m + 1, hR => by
    have ih := chain_ok m (fun a b h1 h2 => hR a b h1 (by omega))
    rcases Nat.eq_zero_or_pos m with e | e
    · subst e
      refine ⟨by simp [chain], fun i hi => ?_, fun _ => by simp [chain], by simp [chain], fun i hi => ?_, fun i hi => ?_, fun i hi => ?_, fun j => ?_⟩
      · simp [chain] at hi; subst hi; simp [chain]
      · simp [chain] at hi
      · simp [chain] at hi
      · simp [chain] at hi
      · constructor
        · intro h
          simp [chain] at h
          subst h
          exact ⟨by omega, fun a b h1 => by omega⟩
        · rintro ⟨h, _⟩
          obtain rfl : j = 0 := by omega
          simp [chain]
    · exact chn_step (fun a b h1 h2 => hR a b h1 (by omega)) ih e
end

/-- Two increasing lists of the same numbers are one. -/
theorem sorted_ext : ∀ {l m : List Nat}, l.Pairwise (· < ·) → m.Pairwise (· < ·) → (∀ x, x ∈ l ↔ x ∈ m) → l = m
  | [], [], _, _, _ => rfl
  | [], b :: m, _, _, h => by have := (h b).2 (by simp); simp at this
  | a :: l, [], _, _, h => by have := (h a).1 (by simp); simp at this
  | a :: l, b :: m, h1, h2, h => by
    rw [List.pairwise_cons] at h1 h2
    have hab : a = b := by
      have h3 := (h a).1 (by simp)
      have h4 := (h b).2 (by simp)
      rw [List.mem_cons] at h3 h4
      rcases h3 with h3 | h3
      · exact h3
      · rcases h4 with h4 | h4
        · exact h4.symm
        · have h5 := h2.1 a h3
          have h6 := h1.1 b h4
          omega
    subst hab
    congr 1
    refine sorted_ext h1.2 h2.2 fun x => ?_
    have h3 := h x
    rw [List.mem_cons, List.mem_cons] at h3
    constructor
    · intro hx
      rcases h3.1 (.inr hx) with e | e
      · have := h1.1 x hx; omega
      · exact e
    · intro hx
      rcases h3.2 (.inr hx) with e | e
      · have := h2.1 x hx; omega
      · exact e
theorem pairwise_getD {s : List Nat} (h : ∀ i, i + 1 < s.length → s.getD i 0 < s.getD (i + 1) 0) : s.Pairwise (· < ·) := by
  rw [List.pairwise_iff_getElem]
  have hd : ∀ d i, (hi : i + d + 1 < s.length) → s.getD i 0 < s.getD (i + d + 1) 0 := by
    intro d
    induction d with
    | zero => exact fun i hi => h i hi
    | succ d ih => exact fun i hi => Nat.lt_trans (ih i (by omega)) (h (i + d + 1) (by omega))
  intro i j hi hj hij
  have := hd (j - i - 1) i (by omega)
  rw [show i + (j - i - 1) + 1 = j by omega, getD_of (List.getElem?_eq_getElem hi), getD_of (List.getElem?_eq_getElem hj)] at this
  exact this
end Go.Proofs.Ytikgkgfcnciomaa

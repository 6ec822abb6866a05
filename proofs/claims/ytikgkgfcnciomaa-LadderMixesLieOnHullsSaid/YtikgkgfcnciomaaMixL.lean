/- The greatest mean quality at a rate: on the hull, and over all pairs; plain. -/
import Derived.Test.YtikgkgfcnciomaaHulS
namespace Go.Proofs.Ytikgkgfcnciomaa
open Go.RowKit

/-- A fraction in lowest terms. -/
def redN (n d : Int) : Int := n / (Nat.gcd n.toNat d.toNat : Nat)
def redD (n d : Int) : Int := d / (Nat.gcd n.toNat d.toNat : Nat)
/-- How many corners, up to the last one whose Rate is not above. -/
def kA (l : List Rng) (h : List Nat) (r : Int) : Nat → Nat
  | 0 => 0
  | k + 1 => if rA l (h.getD k 0) ≤ r then k + 1 else kA l h r k
theorem kA_ok (l : List Rng) (h : List Nat) (r : Int) : ∀ n, kA l h r n ≤ n ∧ (0 < kA l h r n → rA l (h.getD (kA l h r n - 1) 0) ≤ r) ∧ ∀ k, kA l h r n ≤ k → k < n → r < rA l (h.getD k 0)
  | 0 => ⟨Nat.le_refl _, fun h => by simp [kA] at h, fun k _ h => by omega⟩
  | n + 1 => by
    have ih := kA_ok l h r n
    unfold kA
    by_cases hc : rA l (h.getD n 0) ≤ r
    · rw [if_pos hc]
      exact ⟨Nat.le_refl _, fun _ => hc, fun k h1 h2 => by omega⟩
    · rw [if_neg hc]
      refine ⟨by omega, ih.2.1, fun k h1 h2 => ?_⟩
      by_cases e : k = n
      · subst e; omega
      · exact ih.2.2 k h1 (by omega)
/-- The numerator and the denominator of what a line has at a rate. -/
def linN (l : List Rng) (r : Int) (a b : Nat) : Int := qA l a * (rA l b - r) + qA l b * (r - rA l a)
def linD (l : List Rng) (a b : Nat) : Int := rA l b - rA l a
/-- What the hull has at a rate; (-1, 1): nothing. -/
def mixV (l : List Rng) (r : Int) : Int × Int :=
  let h := refN l l.length
  let K := kA l h r h.length
  if K = 0 then (-1, 1) else if K = h.length then (qA l (h.getD (K - 1) 0), 1)
  else (redN (linN l r (h.getD (K - 1) 0) (h.getD K 0)) (linD l (h.getD (K - 1) 0) (h.getD K 0)), redD (linN l r (h.getD (K - 1) 0) (h.getD K 0)) (linD l (h.getD (K - 1) 0) (h.getD K 0)))

def lesP (b c : Int × Int) : Bool := decide (b.1 * c.2 < c.1 * b.2)
def pick (b c : Int × Int) : Int × Int := if lesP b c = true then c else b
def rowA (l : List Rng) (r : Int) (a : Nat) (b : Int × Int) : Nat → Int × Int
  | 0 => b
  | k + 1 => if rA l k ≤ r then rowA l r a b k else pick (rowA l r a b k) (redN (linN l r a k) (linD l a k), redD (linN l r a k) (linD l a k))
/-- The reference's best one, of the first i. -/
def bestA (l : List Rng) (r : Int) : Nat → Int × Int
  | 0 => (-1, 1)
  | i + 1 => if r < rA l i then bestA l r i else rowA l r i (pick (bestA l r i) (qA l i, 1)) l.length

/-- A fraction from 0 on in lowest terms. -/
def Low (c : Int × Int) : Prop := 0 ≤ c.1 ∧ 0 < c.2 ∧ Nat.gcd c.1.toNat c.2.toNat = 1
theorem low_eq {b c : Int × Int} (hb : Low b) (hc : Low c) (h : b.1 * c.2 = c.1 * b.2) : b = c := by
  obtain ⟨b1, b2⟩ := b
  obtain ⟨c1, c2⟩ := c
  obtain ⟨h1, h2, h3⟩ := hb
  obtain ⟨k1, k2, k3⟩ := hc
  simp only at *
  obtain ⟨m1, rfl⟩ := Int.eq_ofNat_of_zero_le h1
  obtain ⟨m2, rfl⟩ := Int.eq_ofNat_of_zero_le (Int.le_of_lt h2)
  obtain ⟨n1, rfl⟩ := Int.eq_ofNat_of_zero_le k1
  obtain ⟨n2, rfl⟩ := Int.eq_ofNat_of_zero_le (Int.le_of_lt k2)
  simp only [Int.toNat_natCast] at h3 k3
  have h' : m1 * n2 = n1 * m2 := by exact_mod_cast h
  have d1 : m2 ∣ n2 := by
    have : m2 ∣ m1 * n2 := ⟨n1, by rw [h', Nat.mul_comm]⟩
    exact Nat.Coprime.dvd_of_dvd_mul_left (by rw [Nat.Coprime, Nat.gcd_comm]; exact h3) this
  have d2 : n2 ∣ m2 := by
    have : n2 ∣ n1 * m2 := ⟨m1, by rw [← h', Nat.mul_comm]⟩
    exact Nat.Coprime.dvd_of_dvd_mul_left (by rw [Nat.Coprime, Nat.gcd_comm]; exact k3) this
  have e := Nat.dvd_antisymm d1 d2
  subst e
  have : m1 = n1 := Nat.eq_of_mul_eq_mul_right (by omega) h'
  rw [this]
theorem red_gcd_pos {n d : Int} (hd : 0 < d) : 0 < Nat.gcd n.toNat d.toNat := Nat.gcd_pos_of_pos_right _ (by omega)
theorem red_ok {n d : Int} (hn : 0 ≤ n) (hd : 0 < d) : Low (redN n d, redD n d) ∧ redN n d * d = n * redD n d := by
  obtain ⟨a, rfl⟩ := Int.eq_ofNat_of_zero_le hn
  obtain ⟨b, rfl⟩ := Int.eq_ofNat_of_zero_le (Int.le_of_lt hd)
  have hg := red_gcd_pos (n := (a : Int)) hd
  unfold Low redN redD
  simp only [Int.toNat_natCast] at hg ⊢
  have e1 : (a : Int) / (Nat.gcd a b : Nat) = ((a / Nat.gcd a b : Nat) : Int) := (Int.natCast_ediv _ _).symm
  have e2 : (b : Int) / (Nat.gcd a b : Nat) = ((b / Nat.gcd a b : Nat) : Int) := (Int.natCast_ediv _ _).symm
  rw [e1, e2]
  simp only [Int.toNat_natCast]
  have hb : 0 < b := by omega
  refine ⟨⟨Int.natCast_nonneg _, Int.natCast_pos.2 (Nat.div_pos (Nat.le_of_dvd hb (Nat.gcd_dvd_right a b)) hg), Nat.coprime_div_gcd_div_gcd hg⟩, ?_⟩
  have h1 : a / Nat.gcd a b * b = a * (b / Nat.gcd a b) := by
    obtain ⟨x, hx⟩ := Nat.gcd_dvd_left a b
    obtain ⟨y, hy⟩ := Nat.gcd_dvd_right a b
    have f1 : a / Nat.gcd a b = x := by
      apply Nat.div_eq_of_eq_mul_right hg hx
    have f2 : b / Nat.gcd a b = y := by
      apply Nat.div_eq_of_eq_mul_right hg hy
    rw [f1, f2]
    conv => lhs; rw [hy]
    conv => rhs; rw [hx]
    generalize Nat.gcd a b = g
    grind
  exact_mod_cast h1
theorem low_one {q : Int} (h : 0 ≤ q) : Low (q, 1) := ⟨h, (by decide : (0 : Int) < 1), by simp⟩

/-- What is tried. -/
def Cand (l : List Rng) (r : Int) (c : Int × Int) : Prop :=
  ∃ a, a < l.length ∧ rA l a ≤ r ∧ (c = (qA l a, 1) ∨ ∃ b, b < l.length ∧ r < rA l b ∧ c = (redN (linN l r a b) (linD l a b), redD (linN l r a b) (linD l a b)))
/-- The best of some. -/
structure Top (S : Int × Int → Prop) (b : Int × Int) : Prop where
  is : b = (-1, 1) ∨ S b
  top : ∀ c, S c → c.1 * b.2 ≤ b.1 * c.2
theorem pick_top {S T : Int × Int → Prop} {b c : Int × Int} (h : Top S b) (hT : ∀ x, T x ↔ S x ∨ x = c) (hS : ∀ x, S x → 0 < x.2) (hc : 0 < c.2) : Top T (pick b c) := by
  have hb : 0 < b.2 := by
    rcases h.is with e | e
    · rw [e]; decide
    · exact hS b e
  unfold pick lesP
  by_cases hl : b.1 * c.2 < c.1 * b.2
  · rw [if_pos (by simpa using hl)]
    refine ⟨.inr ((hT c).2 (.inr rfl)), fun x hx => ?_⟩
    rcases (hT x).1 hx with hx | hx
    · exact fr_le_le (h.top x hx) (Int.le_of_lt hl) (hS x hx) hb hc
    · rw [hx]; exact Int.le_refl _
  · rw [if_neg (by simpa using hl)]
    refine ⟨h.is.imp id fun e => (hT b).2 (.inl e), fun x hx => ?_⟩
    rcases (hT x).1 hx with hx | hx
    · exact h.top x hx
    · rw [hx]; exact Int.not_lt.1 hl

theorem qA_pos {l : List Rng} (h : checkR l = 0) {a : Nat} (ha : a < l.length) : 0 ≤ qA l a := by
  unfold qA
  rw [getD_of (List.getElem?_eq_getElem ha)]
  exact (inR_of h _ (List.getElem_mem ha)).2.1
theorem linN_pos {l : List Rng} (h : checkR l = 0) {r : Int} {a b : Nat} (ha : a < l.length) (hb : b < l.length) (h1 : rA l a ≤ r) (h2 : r < rA l b) : 0 ≤ linN l r a b := by
  have k1 := Int.mul_nonneg (qA_pos h ha) (show 0 ≤ rA l b - r by omega)
  have k2 := Int.mul_nonneg (qA_pos h hb) (show 0 ≤ r - rA l a by omega)
  unfold linN
  omega
theorem cand_low {l : List Rng} (h : checkR l = 0) {r : Int} {c : Int × Int} (hc : Cand l r c) : Low c := by
  obtain ⟨a, ha, hr, rfl | ⟨b, hb, hrb, rfl⟩⟩ := hc
  · exact low_one (qA_pos h ha)
  · exact (red_ok (linN_pos h ha hb hr hrb) (by unfold linD; omega)).1
def CandI (l : List Rng) (r : Int) (i : Nat) (c : Int × Int) : Prop :=
  ∃ a, a < i ∧ rA l a ≤ r ∧ (c = (qA l a, 1) ∨ ∃ b, b < l.length ∧ r < rA l b ∧ c = (redN (linN l r a b) (linD l a b), redD (linN l r a b) (linD l a b)))
theorem row_top {l : List Rng} (h : checkR l = 0) {r : Int} {a : Nat} (ha : a < l.length) (hr : rA l a ≤ r) {S : Int × Int → Prop} {b0 : Int × Int} (hS : ∀ x, S x → 0 < x.2) (hb : Top S b0) : ∀ k, k ≤ l.length →
    Top (fun c => S c ∨ ∃ b, b < k ∧ r < rA l b ∧ c = (redN (linN l r a b) (linD l a b), redD (linN l r a b) (linD l a b))) (rowA l r a b0 k) ∧ ∀ x, (S x ∨ ∃ b, b < k ∧ r < rA l b ∧ x = (redN (linN l r a b) (linD l a b), redD (linN l r a b) (linD l a b))) → 0 < x.2
  | 0, _ => ⟨⟨hb.is.imp id .inl, fun c hc => by
      rcases hc with hc | ⟨b, h1, _⟩
      · exact hb.top c hc
      · omega⟩, fun x hx => by
      rcases hx with hx | ⟨b, h1, _⟩
      · exact hS x hx
      · omega⟩
  | k + 1, hk => by
    obtain ⟨ih, ihd⟩ := row_top h ha hr hS hb k (by omega)
    have hd : ∀ x, (S x ∨ ∃ b, b < k + 1 ∧ r < rA l b ∧ x = (redN (linN l r a b) (linD l a b), redD (linN l r a b) (linD l a b))) → 0 < x.2 := fun x hx => by
      rcases hx with hx | ⟨b, h1, h2, rfl⟩
      · exact hS x hx
      · exact (red_ok (linN_pos h ha (by omega) hr h2) (by unfold linD; omega)).1.2.1
    refine ⟨?_, hd⟩
    unfold rowA
    by_cases hc : rA l k ≤ r
    · rw [if_pos hc]
      refine ⟨ih.is.imp id fun e => ?_, fun c hcc => ih.top c ?_⟩
      · rcases e with e | ⟨b, h1, h2⟩
        · exact .inl e
        · exact .inr ⟨b, by omega, h2⟩
      · rcases hcc with e | ⟨b, h1, h2, h3⟩
        · exact .inl e
        · by_cases e : b = k
          · subst e; omega
          · exact .inr ⟨b, by omega, h2, h3⟩
    · rw [if_neg hc]
      refine pick_top ih (fun x => ?_) ihd (red_ok (linN_pos h ha (by omega) hr (by omega)) (by unfold linD; omega)).1.2.1
      constructor
      · rintro (e | ⟨b, h1, h2, h3⟩)
        · exact .inl (.inl e)
        · by_cases e : b = k
          · subst e; exact .inr h3
          · exact .inl (.inr ⟨b, by omega, h2, h3⟩)
      · rintro ((e | ⟨b, h1, h2, h3⟩) | e)
        · exact .inl e
        · exact .inr ⟨b, by omega, h2, h3⟩
        · exact .inr ⟨k, by omega, by omega, e⟩
theorem best_top {l : List Rng} (h : checkR l = 0) (r : Int) : ∀ i, i ≤ l.length → Top (CandI l r i) (bestA l r i)
  | 0, _ => ⟨.inl rfl, fun c ⟨a, h1, _⟩ => by omega⟩
  | i + 1, hi => by
    have ih := best_top h r i (by omega)
    have hden : ∀ x, CandI l r i x → 0 < x.2 := fun x ⟨a, h1, h2, h3⟩ => (cand_low h ⟨a, by omega, h2, h3⟩).2.1
    unfold bestA
    by_cases hc : r < rA l i
    · rw [if_pos hc]
      refine ⟨ih.is.imp id fun ⟨a, h1, h2⟩ => ⟨a, by omega, h2⟩, fun c ⟨a, h1, h2, h3⟩ => ih.top c ⟨a, ?_, h2, h3⟩⟩
      by_cases e : a = i
      · subst e; omega
      · omega
    · rw [if_neg hc]
      have h1 : Top (fun c => CandI l r i c ∨ c = (qA l i, 1)) (pick (bestA l r i) (qA l i, 1)) := pick_top ih (fun x => Iff.rfl) hden (show (0 : Int) < 1 by decide)
      have h2 := (row_top h (by omega : i < l.length) (Int.not_lt.1 hc) (fun x hx => by
        rcases hx with hx | rfl
        · exact hden x hx
        · show (0 : Int) < 1; decide) h1 l.length (Nat.le_refl _)).1
      have he : ∀ x, CandI l r (i + 1) x ↔ ((CandI l r i x ∨ x = (qA l i, 1)) ∨ ∃ b, b < l.length ∧ r < rA l b ∧ x = (redN (linN l r i b) (linD l i b), redD (linN l r i b) (linD l i b))) := fun x => by
        constructor
        · rintro ⟨a, k1, k2, k3⟩
          by_cases e : a = i
          · subst e
            rcases k3 with k3 | k3
            · exact .inl (.inr k3)
            · exact .inr k3
          · exact .inl (.inl ⟨a, by omega, k2, k3⟩)
        · rintro ((⟨a, k1, k2, k3⟩ | e) | ⟨b, k1, k2, k3⟩)
          · exact ⟨a, by omega, k2, k3⟩
          · exact ⟨i, by omega, by omega, .inl e⟩
          · exact ⟨i, by omega, by omega, .inr ⟨b, k1, k2, k3⟩⟩
      exact ⟨h2.is.imp id fun e => (he _).2 e, fun c hcc => h2.top c ((he c).1 hcc)⟩

theorem refN_mono (l : List Rng) (x : Nat) : ∀ i j, i ≤ j → x ∈ refN l i → x ∈ refN l j := by
  intro i j hij
  obtain ⟨d, rfl⟩ : ∃ d, j = i + d := ⟨j - i, by omega⟩
  clear hij
  induction d with
  | zero => exact id
  | succ d ih =>
    intro h
    have h1 := ih h
    show x ∈ refN l (i + d + 1)
    unfold refN
    split
    · unfold incS
      split
      · exact List.mem_append_left _ h1
      · exact h1
    · exact h1
/-- A corner above all before it is kept. -/
theorem kept {l : List Rng} {z : Nat} (hz : Cnr l z) (hb : ∀ y, y < z → Cnr l y → qA l y < qA l z) : z ∈ refN l l.length := by
  refine refN_mono l z (z + 1) l.length (by have := hz.1; omega) ?_
  unfold refN
  rw [if_pos (by rw [hz.2.1, hz.2.2]; rfl)]
  unfold incS
  rw [if_pos ?_]
  · simp
  · rcases Nat.eq_zero_or_pos (refN l z).length with e | e
    · exact .inl e
    · refine .inr ?_
      have hm : (refN l z).getD ((refN l z).length - 1) 0 ∈ refN l z := mem_getD.2 ⟨_, by omega, rfl⟩
      have h1 := (refN_ok l z (by have := hz.1; omega)).mem _ hm
      exact hb _ h1.1 h1.2.1
theorem hul_get {l : List Rng} {i : Nat} (hi : i < (refN l l.length).length) : (refN l l.length).getD i 0 ∈ refN l l.length := mem_getD.2 ⟨i, hi, rfl⟩
theorem cnr_same {l : List Rng} (h : checkR l = 0) {x y : Nat} (hx : Cnr l x) (hy : Cnr l y) (hr : rA l x = rA l y) : x = y := by
  rcases Nat.lt_trichotomy x y with e | e | e
  · have := cnr_rate h hx hy e; omega
  · exact e
  · have := cnr_rate h hy hx e; omega

/-- No rendition is above the line between two neighbours of the hull. -/
theorem line_top {l : List Rng} (h : checkR l = 0) {k : Nat} (hk : k + 1 < (refN l l.length).length) (x y : Nat) (hx : x = (refN l l.length).getD k 0) (hy : y = (refN l l.length).getD (k + 1) 0) :
    ∀ p, p < l.length → qA l p * (rA l y - rA l x) - rA l p * (qA l y - qA l x) ≤ qA l x * (rA l y - rA l x) - rA l x * (qA l y - qA l x) := by
  have ho := refN_ok l l.length (Nat.le_refl _)
  have hxm : x ∈ refN l l.length := by rw [hx]; exact hul_get (by omega)
  have hym : y ∈ refN l l.length := by rw [hy]; exact hul_get hk
  obtain ⟨hxl, hxc, hxb⟩ := ho.mem x hxm
  obtain ⟨hyl, hyc, hyb⟩ := ho.mem y hym
  obtain ⟨hr, hq⟩ := hul_up h (Nat.lt_succ_self k) hk
  rw [← hx, ← hy] at hr hq
  obtain ⟨D, hD⟩ : ∃ D, D = rA l y - rA l x := ⟨_, rfl⟩
  obtain ⟨N, hN⟩ : ∃ N, N = qA l y - qA l x := ⟨_, rfl⟩
  rw [← hD, ← hN]
  have hD0 : 0 < D := by omega
  have hN0 : 0 < N := by omega
  obtain ⟨z, hz, _, hb⟩ := best_ex (fun p => qA l p * D - rA l p * N) (rA l) (fun _ => True) l.length ⟨x, hxl, trivial⟩
  have hzc : Cnr l z := max_cnr hD0 hz (fun p hp => hb p hp trivial)
  have hgxy : qA l x * D - rA l x * N = qA l y * D - rA l y * N := by
    rw [hD, hN]
    generalize qA l x = a
    generalize qA l y = b
    generalize rA l x = c
    generalize rA l y = d
    grind
  have hle : qA l z * D - rA l z * N ≤ qA l x * D - rA l x * N := by
    rcases Int.lt_or_le (qA l x * D - rA l x * N) (qA l z * D - rA l z * N) with hgt | hgt
    · exfalso
      -- z is above the line
      have tri : ∀ a j b, rA l a < rA l j → rA l j < rA l b → abv (rA l) (qA l) a j b → (qA l a * D - rA l a * N) * (rA l b - rA l j) + (qA l b * D - rA l b * N) * (rA l j - rA l a) < (qA l j * D - rA l j * N) * (rA l b - rA l a) := by
        intro a j b h1 h2 h3
        unfold abv at h3
        generalize qA l a = qa at *
        generalize qA l b = qb at *
        generalize qA l j = qj at *
        generalize rA l a = ra at *
        generalize rA l b = rb at *
        generalize rA l j = rj at *
        have key : (qj * D - rj * N) * (rb - ra) - ((qa * D - ra * N) * (rb - rj) + (qb * D - rb * N) * (rj - ra)) = D * ((qj - qa) * (rb - ra) - (qb - qa) * (rj - ra)) := by grind
        have : 0 < D * ((qj - qa) * (rb - ra) - (qb - qa) * (rj - ra)) := Int.mul_pos hD0 (by omega)
        omega
      generalize hgx : qA l x * D - rA l x * N = gx at hgt hgxy tri
      generalize hgz : qA l z * D - rA l z * N = gz at hgt tri
      have hgy : qA l y * D - rA l y * N = gx := hgxy.symm
      rcases Int.lt_trichotomy (rA l z) (rA l x) with e | e | e
      · have h1 := tri z x y e hr (corB_iff.1 hxc.2.2 z y hz hyl e hr)
        rw [hgx, hgy, hgz] at h1
        have h2 : gx * (rA l y - rA l x) ≤ gz * (rA l y - rA l x) := Int.mul_le_mul_of_nonneg_right (by omega) (by omega)
        have h3 : gx * (rA l y - rA l z) = gx * (rA l y - rA l x) + gx * (rA l x - rA l z) := by rw [← Int.mul_add]; congr 1; omega
        omega
      · have := cnr_same h hzc hxc e
        subst this
        omega
      · rcases Int.lt_trichotomy (rA l z) (rA l y) with e2 | e2 | e2
        · -- between the two
          have hqz : qA l x < qA l z := by
            have h1 : rA l x * N < rA l z * N := Int.mul_lt_mul_of_pos_right e hN0
            have h2 : qA l x * D < qA l z * D := by omega
            exact Int.lt_of_mul_lt_mul_right h2 (Int.le_of_lt hD0)
          have hzk : z ∈ refN l l.length := kept hzc fun y' hy' hcy' => by
            have h1 := cnr_rate h hcy' hzc hy'
            have h2 := hb y' hcy'.1 trivial
            have h3 : rA l y' * N < rA l z * N := Int.mul_lt_mul_of_pos_right h1 hN0
            have h4 : qA l y' * D < qA l z * D := by omega
            exact Int.lt_of_mul_lt_mul_right h4 (Int.le_of_lt hD0)
          obtain ⟨i, hi, hiz⟩ := mem_getD.1 hzk
          rcases Nat.lt_trichotomy i k with f | f | f
          · have := (hul_up h f (by omega)).1
            rw [hiz, ← hx] at this; omega
          · subst f; rw [← hx] at hiz; subst hiz; omega
          · rcases Nat.lt_or_ge (k + 1) i with f2 | f2
            · have := (hul_up h f2 hi).1
              rw [hiz, ← hy] at this; omega
            · obtain rfl : i = k + 1 := by omega
              rw [← hy] at hiz; subst hiz; omega
        · have := cnr_same h hzc hyc e2
          subst this
          omega
        · have h1 := tri x y z hr e2 (corB_iff.1 hyc.2.2 x z hxl hz hr e2)
          rw [hgx, hgy, hgz] at h1
          have h2 : gx * (rA l y - rA l x) ≤ gz * (rA l y - rA l x) := Int.mul_le_mul_of_nonneg_right (by omega) (by omega)
          have h3 : gx * (rA l z - rA l x) = gx * (rA l z - rA l y) + gx * (rA l y - rA l x) := by rw [← Int.mul_add]; congr 1; omega
          omega
    · exact hgt
  intro p hp
  have := hb p hp trivial
  omega
/-- None has a greater Quality than the last corner. -/
theorem last_top {l : List Rng} (hl : 0 < l.length) : ∀ p, p < l.length → qA l p ≤ qA l ((refN l l.length).getD ((refN l l.length).length - 1) 0) := by
  obtain ⟨y, hy, _, hb⟩ := best_ex (fun p => qA l p * 1 - rA l p * 0) (rA l) (fun _ => True) l.length ⟨0, hl, trivial⟩
  have hc := max_cnr (l := l) (N := 0) (D := 1) (by omega) hy (fun p hp => hb p hp trivial)
  have h1 := (refN_ok l l.length (Nat.le_refl _)).last y hy hc
  intro p hp
  have := hb p hp trivial
  simp only [Int.mul_one, Int.mul_zero] at this
  omega
/-- The first corner has the least Rate. -/
theorem first_low {l : List Rng} (h : checkR l = 0) (hl : 0 < l.length) : ∃ y, y ∈ refN l l.length ∧ ∀ p, p < l.length → rA l y ≤ rA l p := by
  obtain ⟨y, hy, hyr, hb⟩ := best_ex (qA l) (rA l) (fun p => rA l p = rA l 0) l.length ⟨0, hl, rfl⟩
  have hmin : ∀ p, p < l.length → rA l y ≤ rA l p := fun p hp => by rw [hyr]; exact rates_le h 0 p (by omega) hp
  have hc : Cnr l y := ⟨hy, frstB_iff.2 fun k hk hr => by
    have := hb k hk (by omega)
    omega, corB_iff.2 fun a b ha _ h1 _ => by
    have := hmin a ha
    omega⟩
  refine ⟨y, kept hc fun y' hy' hcy' => ?_, hmin⟩
  have := cnr_rate h hcy' hc hy'
  have := hmin y' hcy'.1
  omega

/-- What the hull has is the greatest of all that is tried. -/
theorem mix_ok {l : List Rng} (h : checkR l = 0) (r : Int) : bestA l r l.length = mixV l r := by
  have ht := best_top h r l.length (Nat.le_refl _)
  have hk := kA_ok l (refN l l.length) r (refN l l.length).length
  have ho := refN_ok l l.length (Nat.le_refl _)
  unfold mixV
  simp only
  generalize hK : kA l (refN l l.length) r (refN l l.length).length = K at hk ⊢
  by_cases h0 : K = 0
  · rw [if_pos h0]
    rcases ht.is with e | ⟨a, ha, hr, _⟩
    · exact e
    · exfalso
      obtain ⟨y, hy, hmin⟩ := first_low h (by omega)
      obtain ⟨i, hi, rfl⟩ := mem_getD.1 hy
      have h1 := hk.2.2 i (by omega) hi
      have h2 := hmin a ha
      omega
  · rw [if_neg h0]
    have hKl := hk.1
    have hrx := hk.2.1 (by omega)
    have hxm := hul_get (l := l) (i := K - 1) (by omega)
    have hxl := (ho.mem _ hxm).1
    -- it is enough that the value is tried and is not less than what is tried
    have fin : ∀ V, Cand l r V → (∀ c, Cand l r c → c.1 * V.2 ≤ V.1 * c.2) → bestA l r l.length = V := fun V hV hmax => by
      have h1 := ht.top V hV
      rcases ht.is with e | e
      · exfalso
        rw [e] at h1
        have := (cand_low h hV)
        have h2 := this.1
        have h3 := this.2.1
        simp only at h1
        omega
      · exact low_eq (cand_low h e) (cand_low h hV) (Int.le_antisymm (hmax _ e) h1)
    by_cases h1 : K = (refN l l.length).length
    · rw [if_pos h1]
      refine fin _ ⟨_, hxl, hrx, .inl rfl⟩ fun c hc => ?_
      have hlt := last_top (l := l) (by omega)
      rw [← h1] at hlt
      generalize (refN l l.length).getD (K - 1) 0 = x at *
      obtain ⟨a, ha, hra, rfl | ⟨b, hb, hrb, rfl⟩⟩ := hc
      · simp only [Int.mul_one]; exact hlt a ha
      · simp only [Int.mul_one]
        have hrd := red_ok (linN_pos h ha hb hra hrb) (show 0 < linD l a b by unfold linD; omega)
        -- numerator ≤ Q x * denominator, before reducing
        have hl1 : linN l r a b ≤ qA l x * linD l a b := by
          have i1 := Int.mul_le_mul_of_nonneg_right (c := rA l b - r) (hlt a ha) (by omega)
          have i2 := Int.mul_le_mul_of_nonneg_right (c := r - rA l a) (hlt b hb) (by omega)
          have e1 : qA l x * (rA l b - rA l a) = qA l x * (rA l b - r) + qA l x * (r - rA l a) := by rw [← Int.mul_add]; congr 1; omega
          unfold linN linD
          omega
        have h2 : redN (linN l r a b) (linD l a b) * linD l a b ≤ qA l x * redD (linN l r a b) (linD l a b) * linD l a b := by
          rw [hrd.2, Int.mul_right_comm]
          exact Int.mul_le_mul_of_nonneg_right hl1 (Int.le_of_lt hrd.1.2.1)
        exact Int.le_of_mul_le_mul_right h2 (by unfold linD; omega)
    · rw [if_neg h1]
      have hry := hk.2.2 K (Nat.le_refl _) (by omega)
      have hyl := (ho.mem _ (hul_get (l := l) (i := K) (by omega))).1
      have hline := line_top h (k := K - 1) (by omega) _ _ rfl rfl
      have hup := hul_up h (show K - 1 < K by omega) (by omega)
      rw [show K - 1 + 1 = K by omega] at hline
      refine fin _ ⟨_, hxl, hrx, .inr ⟨_, hyl, hry, rfl⟩⟩ fun c hc => ?_
      generalize (refN l l.length).getD (K - 1) 0 = x at *
      generalize (refN l l.length).getD K 0 = y at *
      have hrv := red_ok (linN_pos h hxl hyl hrx hry) (show 0 < linD l x y by unfold linD; omega)
      obtain ⟨hr, hq⟩ := hup
      have hD : linD l x y = rA l y - rA l x := rfl
      -- the line's numerator
      have hnum : linN l r x y = qA l x * (rA l y - rA l x) - rA l x * (qA l y - qA l x) + r * (qA l y - qA l x) := by
        unfold linN
        generalize qA l x = a
        generalize qA l y = b
        generalize rA l x = c
        generalize rA l y = d
        grind
      have hptN : ∀ p, p < l.length → qA l p * linD l x y ≤ qA l x * (rA l y - rA l x) - rA l x * (qA l y - qA l x) + rA l p * (qA l y - qA l x) := fun p hp => by
        have := hline p hp
        rw [hD]; omega
      have hlow := cand_low h hc
      -- c's value, before reducing, is not above the line's
      have main : ∃ n d, 0 < d ∧ c.1 * d = n * c.2 ∧ n * linD l x y ≤ linN l r x y * d := by
        obtain ⟨a, ha, hra, rfl | ⟨b, hb, hrb, rfl⟩⟩ := hc
        · refine ⟨qA l a, 1, by decide, rfl, ?_⟩
          have i1 := hptN a ha
          have i2 := Int.mul_le_mul_of_nonneg_right (c := qA l y - qA l x) hra (by omega)
          rw [hnum, Int.mul_one]
          omega
        · have hrd := red_ok (linN_pos h ha hb hra hrb) (show 0 < linD l a b by unfold linD; omega)
          refine ⟨linN l r a b, linD l a b, by unfold linD; omega, hrd.2, ?_⟩
          have i1 := Int.mul_le_mul_of_nonneg_right (c := rA l b - r) (hptN a ha) (by omega)
          have i2 := Int.mul_le_mul_of_nonneg_right (c := r - rA l a) (hptN b hb) (by omega)
          rw [hnum]
          unfold linN at hnum ⊢
          generalize linD l x y = DD at *
          generalize qA l x * (rA l y - rA l x) - rA l x * (qA l y - qA l x) = G at *
          generalize qA l y - qA l x = NN at *
          unfold linD
          generalize qA l a = qa at *
          generalize qA l b = qb at *
          generalize rA l a = ra at *
          generalize rA l b = rb at *
          have key : (G + ra * NN) * (rb - r) + (G + rb * NN) * (r - ra) = (G + r * NN) * (rb - ra) := by grind
          have key2 : (qa * (rb - r) + qb * (r - ra)) * DD = qa * DD * (rb - r) + qb * DD * (r - ra) := by grind
          omega
      obtain ⟨n, d, hd, e1, e2⟩ := main
      have hVd := hrv.1.2.1
      -- c = n/d ≤ linN/linD = V
      have s1 : n * redD (linN l r x y) (linD l x y) ≤ redN (linN l r x y) (linD l x y) * d := by
        have := fr_le_le (a := n) (b := d) (c := linN l r x y) (d := linD l x y) (e := redN (linN l r x y) (linD l x y)) (f := redD (linN l r x y) (linD l x y)) e2 (by rw [← hrv.2]; exact Int.le_refl _) hd (by rw [hD]; omega) hVd
        exact this
      exact fr_le_le (a := c.1) (b := c.2) (c := n) (d := d) (e := redN (linN l r x y) (linD l x y)) (f := redD (linN l r x y) (linD l x y)) (by rw [e1]; exact Int.le_refl _) s1 hlow.2.1 hd hVd
end Go.Proofs.Ytikgkgfcnciomaa

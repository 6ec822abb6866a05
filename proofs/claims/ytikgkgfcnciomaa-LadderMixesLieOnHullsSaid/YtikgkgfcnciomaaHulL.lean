/- The hull of renditions: the program's lists and the reference's; plain. -/
import Derived.Test.YtikgkgfcnciomaaSlo
import Derived.Test.YtikgkgfcnciomaaRenD
namespace Go.Proofs.Ytikgkgfcnciomaa
open Go.RowKit

def rA (l : List Rng) (i : Nat) : Int := (l.getD i default).ra
def qA (l : List Rng) (i : Nat) : Int := (l.getD i default).qu
theorem rates_le {l : List Rng} (h : checkR l = 0) : ∀ i j, i ≤ j → j < l.length → rA l i ≤ rA l j := by
  intro i j hij
  obtain ⟨d, rfl⟩ : ∃ d, j = i + d := ⟨j - i, by omega⟩
  clear hij
  induction d with
  | zero => intro _; exact Int.le_refl _
  | succ d ih =>
    intro hj
    exact Int.le_trans (ih (by omega)) (rates_up h (i := i + d) hj)

/-- Is i the first one with the greatest Quality of its Rate? -/
def frstB (l : List Rng) (i : Nat) : Bool := (List.range l.length).all fun k => !(rA l k == rA l i && (decide (qA l i < qA l k) || (qA l k == qA l i && decide (k < i))))
/-- Does i lie above all lines? -/
def corB (l : List Rng) (i : Nat) : Bool := (List.range l.length).all fun a => (List.range l.length).all fun b =>
  !(decide (rA l a < rA l i) && decide (rA l i < rA l b) && decide ((qA l i - qA l a) * (rA l b - rA l a) ≤ (qA l b - qA l a) * (rA l i - rA l a)))
/-- The best ones of each Rate, of the first i. -/
def bst (l : List Rng) : Nat → List Nat
  | 0 => []
  | i + 1 => if 0 < (bst l i).length ∧ rA l ((bst l i).getD ((bst l i).length - 1) 0) = rA l i
      then (if qA l ((bst l i).getD ((bst l i).length - 1) 0) < qA l i then (bst l i).set ((bst l i).length - 1) i else bst l i)
      else bst l i ++ [i]
/-- One more corner, if its Quality is greater. -/
def incS (Q : Nat → Int) (o : List Nat) (x : Nat) : List Nat := if o.length = 0 ∨ Q (o.getD (o.length - 1) 0) < Q x then o ++ [x] else o
def ptsL (l : List Rng) : List Rng := (bst l l.length).map (fun i => l.getD i default)
/-- The hull of points with different Rates. -/
def hullN (p : List Rng) : List Nat := (chain (rA p) (qA p) p.length).foldl (incS (qA p)) []
/-- The program's hull. -/
def hulN (l : List Rng) : List Nat := (hullN (ptsL l)).map fun k => (bst l l.length).getD k 0
/-- The reference's, of the first i. -/
def refN (l : List Rng) : Nat → List Nat
  | 0 => []
  | i + 1 => if (frstB l i && corB l i) = true then incS (qA l) (refN l i) i else refN l i

theorem frstB_iff {l : List Rng} {i : Nat} : frstB l i = true ↔ ∀ k, k < l.length → rA l k = rA l i → qA l k < qA l i ∨ (qA l k = qA l i ∧ i ≤ k) := by
  unfold frstB
  rw [List.all_eq_true]
  constructor
  · intro h k hk hr
    have := h k (List.mem_range.2 hk)
    simp only [Bool.not_eq_true', Bool.and_eq_false_iff, beq_eq_false_iff_ne, ne_eq, Bool.or_eq_false_iff, decide_eq_false_iff_not] at this
    rcases this with h1 | ⟨h1, h2⟩
    · exact absurd hr h1
    · omega
  · intro h k hk
    have := h k (List.mem_range.1 hk)
    simp only [Bool.not_eq_true', Bool.and_eq_false_iff, beq_eq_false_iff_ne, ne_eq, Bool.or_eq_false_iff, decide_eq_false_iff_not]
    by_cases e : rA l k = rA l i
    · right; have := this e; omega
    · left; exact e
theorem corB_iff {l : List Rng} {i : Nat} : corB l i = true ↔ ∀ a b, a < l.length → b < l.length → rA l a < rA l i → rA l i < rA l b → abv (rA l) (qA l) a i b := by
  unfold corB abv
  rw [List.all_eq_true]
  constructor
  · intro h a b ha hb h1 h2
    have h3 := h a (List.mem_range.2 ha)
    rw [List.all_eq_true] at h3
    have h4 := h3 b (List.mem_range.2 hb)
    simp only [Bool.not_eq_true', Bool.and_eq_false_iff, decide_eq_false_iff_not] at h4
    rcases h4 with (h4 | h4) | h4
    · exact absurd h1 h4
    · exact absurd h2 h4
    · exact Int.not_le.1 h4
  · intro h a ha
    rw [List.all_eq_true]
    intro b hb
    have h3 := h a b (List.mem_range.1 ha) (List.mem_range.1 hb)
    simp only [Bool.not_eq_true', Bool.and_eq_false_iff, decide_eq_false_iff_not]
    by_cases h1 : rA l a < rA l i
    · by_cases h2 : rA l i < rA l b
      · exact .inr (Int.not_le.2 (h3 h1 h2))
      · exact .inl (.inr h2)
    · exact .inl (.inl h1)

/-- Above is the more above, the lower the ends are. -/
theorem abv_mono {R Q R' Q' : Nat → Int} {a j b a' j' b' : Nat} (h : abv R Q a j b) (h1 : R a < R j) (h2 : R j < R b) (ra : R' a' = R a) (rj : R' j' = R j) (rb : R' b' = R b) (qj : Q' j' = Q j) (qa : Q' a' ≤ Q a) (qb : Q' b' ≤ Q b) : abv R' Q' a' j' b' := by
  unfold abv at *
  rw [ra, rj, rb, qj]
  have e1 := Int.sub_mul (Q b) (Q a) (R j - R a)
  have e2 := Int.sub_mul (Q j) (Q a) (R b - R a)
  have e3 := Int.sub_mul (Q' b') (Q' a') (R j - R a)
  have e4 := Int.sub_mul (Q j) (Q' a') (R b - R a)
  have e5 : Q a * (R b - R a) = Q a * (R b - R j) + Q a * (R j - R a) := by rw [← Int.mul_add]; congr 1; omega
  have e6 : Q' a' * (R b - R a) = Q' a' * (R b - R j) + Q' a' * (R j - R a) := by rw [← Int.mul_add]; congr 1; omega
  have i1 : Q' a' * (R b - R j) ≤ Q a * (R b - R j) := Int.mul_le_mul_of_nonneg_right qa (by omega)
  have i2 : Q' b' * (R j - R a) ≤ Q b * (R j - R a) := Int.mul_le_mul_of_nonneg_right qb (by omega)
  omega

/-- The first one of its Rate with the greatest Quality, among the first i. -/
def Fst (l : List Rng) (i x : Nat) : Prop := ∀ k, k < i → rA l k = rA l x → qA l k < qA l x ∨ (qA l k = qA l x ∧ x ≤ k)
structure BstI (l : List Rng) (i : Nat) (s : List Nat) : Prop where
  up : s.Pairwise fun a b => a < b ∧ rA l a < rA l b
  mem : ∀ x, x ∈ s ↔ x < i ∧ Fst l i x
  ex : ∀ k, k < i → ∃ x, x ∈ s ∧ rA l x = rA l k
  last : ∀ s0 t, s = s0 ++ [t] → rA l t = rA l (i - 1)
theorem fst_one {l : List Rng} {i x y : Nat} (h1 : Fst l i x) (h2 : Fst l i y) (hx : x < i) (hy : y < i) (hr : rA l x = rA l y) : x = y := by
  have a := h1 y hy hr.symm
  have b := h2 x hx hr
  omega
theorem bst_ok {l : List Rng} (hR : ∀ i j, i ≤ j → j < l.length → rA l i ≤ rA l j) : ∀ i, i ≤ l.length → BstI l i (bst l i)
  | 0, _ => ⟨by simp [bst], fun x => by simp [bst], fun k h => by omega, fun s0 t h => by simp [bst] at h⟩
  | i + 1, hi => by
    have ih := bst_ok hR i (by omega)
    unfold bst
    generalize bst l i = s at ih ⊢
    rcases List.eq_nil_or_concat s with rfl | ⟨s0, t, hst⟩
    · have h0 : i = 0 := by
        rcases Nat.eq_zero_or_pos i with e | e
        · exact e
        · obtain ⟨x, hx, _⟩ := ih.ex 0 e; simp at hx
      subst h0
      simp only [List.length_nil, Nat.lt_irrefl, false_and, if_false, List.nil_append]
      refine ⟨by simp, fun x => ?_, fun k hk => ⟨0, by simp, by rw [show k = 0 by omega]⟩, fun s0 t h => ?_⟩
      · rw [List.mem_singleton]
        constructor
        · rintro rfl; exact ⟨by omega, fun k hk _ => .inr ⟨by rw [show k = 0 by omega], by omega⟩⟩
        · rintro ⟨h, _⟩; omega
      · have := congrArg List.length h
        simp at this
        subst this
        simp at h
        rw [← h]
    · rw [List.concat_eq_append] at hst
      subst hst
      have hlen : (s0 ++ [t]).length - 1 = s0.length := by simp
      have hget : (s0 ++ [t]).getD ((s0 ++ [t]).length - 1) 0 = t := by rw [hlen]; exact getD_snoc_eq
      rw [hget]
      have hpos : 0 < (s0 ++ [t]).length := by simp
      have htm := (ih.mem t).1 (by simp)
      have hi0 : 0 < i := by omega
      have hlast := ih.last s0 t rfl
      have hle : rA l t ≤ rA l i := by rw [hlast]; exact hR _ _ (by omega) (by omega)
      have hallt : ∀ k, k < i → rA l k ≤ rA l t := fun k hk => by rw [hlast]; exact hR _ _ (by omega) (by omega)
      have hup := ih.up
      rw [List.pairwise_append] at hup
      have hs0 : ∀ x, x ∈ s0 → x < t ∧ rA l x < rA l t := fun x hx => hup.2.2 x hx t (by simp)
      by_cases hr : rA l t = rA l i
      · rw [if_pos ⟨hpos, hr⟩]
        by_cases hq : qA l t < qA l i
        · rw [if_pos hq, hlen, List.set_append_right _ _ (Nat.le_refl _), Nat.sub_self]
          show BstI l (i + 1) (s0 ++ [i])
          refine ⟨?_, fun x => ?_, fun k hk => ?_, fun s1 u h => ?_⟩
          · rw [List.pairwise_append]
            refine ⟨hup.1, by simp, fun a ha b hb => ?_⟩
            rw [List.mem_singleton] at hb
            subst hb
            have := hs0 a ha
            have := ((ih.mem a).1 (by simp [ha])).1
            exact ⟨by omega, by omega⟩
          · rw [List.mem_append, List.mem_singleton]
            constructor
            · rintro (hx | rfl)
              · have h1 := (ih.mem x).1 (by simp [hx])
                have h2 := hs0 x hx
                refine ⟨by omega, fun k hk hkr => ?_⟩
                by_cases e : k = i
                · subst e; omega
                · exact h1.2 k (by omega) hkr
              · refine ⟨by omega, fun k hk hkr => ?_⟩
                by_cases e : k = x
                · subst e; exact .inr ⟨rfl, Nat.le_refl _⟩
                · have := htm.2 k (by omega) (by rw [hkr, hr])
                  omega
            · rintro ⟨hx, hf⟩
              by_cases e : x = i
              · exact .inr e
              · have h1 := (ih.mem x).2 ⟨by omega, fun k hk hkr => hf k (by omega) hkr⟩
                rw [List.mem_append, List.mem_singleton] at h1
                rcases h1 with h1 | h1
                · exact .inl h1
                · subst h1
                  have := hf i (by omega) hr.symm
                  omega
          · by_cases e : k = i
            · subst e; exact ⟨k, by simp, rfl⟩
            · obtain ⟨x, hx, hxr⟩ := ih.ex k (by omega)
              rw [List.mem_append, List.mem_singleton] at hx
              rcases hx with hx | rfl
              · exact ⟨x, by simp [hx], hxr⟩
              · exact ⟨i, by simp, by rw [← hr, hxr]⟩
          · have h1 := List.append_inj' h rfl
            simp only [List.cons.injEq, and_true] at h1
            rw [← h1.2]; rfl
        · rw [if_neg hq]
          refine ⟨ih.up, fun x => ?_, fun k hk => ?_, fun s1 u h => ?_⟩
          · rw [ih.mem x]
            constructor
            · rintro ⟨hx, hf⟩
              refine ⟨by omega, fun k hk hkr => ?_⟩
              by_cases e : k = i
              · subst e
                have hxt : x = t := fst_one hf htm.2 hx htm.1 (by rw [hr, hkr])
                subst hxt
                omega
              · exact hf k (by omega) hkr
            · rintro ⟨hx, hf⟩
              refine ⟨?_, fun k hk hkr => hf k (by omega) hkr⟩
              rcases Nat.lt_or_ge x i with h1 | h1
              · exact h1
              · obtain rfl : x = i := by omega
                have := hf t (by omega) hr
                omega
          · by_cases e : k = i
            · subst e; exact ⟨t, by simp, hr⟩
            · exact ih.ex k (by omega)
          · have := ih.last s1 u h
            rw [Nat.add_sub_cancel, this, ← hlast]
            exact hr
      · rw [if_neg (fun h => hr h.2)]
        have hrlt : rA l t < rA l i := by omega
        refine ⟨?_, fun x => ?_, fun k hk => ?_, fun s1 u h => ?_⟩
        · rw [List.pairwise_append]
          refine ⟨ih.up, by simp, fun a ha b hb => ?_⟩
          rw [List.mem_singleton] at hb
          subst hb
          have h1 := ((ih.mem a).1 ha).1
          have := hallt a h1
          exact ⟨h1, by omega⟩
        · rw [List.mem_append, List.mem_singleton]
          constructor
          · rintro (hx | rfl)
            · have h1 := (ih.mem x).1 hx
              have h2 := hallt x h1.1
              refine ⟨by omega, fun k hk hkr => ?_⟩
              by_cases e : k = i
              · subst e; omega
              · exact h1.2 k (by omega) hkr
            · refine ⟨by omega, fun k hk hkr => ?_⟩
              by_cases e : k = x
              · subst e; exact .inr ⟨rfl, Nat.le_refl _⟩
              · have := hallt k (by omega); omega
          · rintro ⟨hx, hf⟩
            by_cases e : x = i
            · exact .inr e
            · exact .inl ((ih.mem x).2 ⟨by omega, fun k hk hkr => hf k (by omega) hkr⟩)
        · by_cases e : k = i
          · subst e; exact ⟨k, by simp, rfl⟩
          · obtain ⟨x, hx, hxr⟩ := ih.ex k (by omega)
            exact ⟨x, List.mem_append_left _ hx, hxr⟩
        · have h1 := List.append_inj' h rfl
          simp only [List.cons.injEq, and_true] at h1
          rw [← h1.2]; rfl

theorem pts_len (l : List Rng) : (ptsL l).length = (bst l l.length).length := by simp [ptsL]
theorem pts_get {l : List Rng} {k : Nat} (hk : k < (bst l l.length).length) : (ptsL l).getD k default = l.getD ((bst l l.length).getD k 0) default := by
  unfold ptsL
  rw [getD_of (x := l.getD ((bst l l.length)[k]) default) (by simp [hk]), getD_of (List.getElem?_eq_getElem hk)]
theorem refN_eq (l : List Rng) : ∀ i, refN l i = ((List.range i).filter fun x => frstB l x && corB l x).foldl (incS (qA l)) []
  | 0 => rfl
  | i + 1 => by
    unfold refN
    rw [List.range_succ, List.filter_append, List.foldl_append, ← refN_eq l i]
    by_cases h : (frstB l i && corB l i) = true
    · rw [if_pos h]; simp [h]
    · rw [if_neg h]; simp [h]
theorem incS_mem {Q : Nat → Int} {o : List Nat} {x y : Nat} (h : y ∈ incS Q o x) : y ∈ o ∨ y = x := by
  unfold incS at h
  split at h
  · simpa using h
  · exact .inl h
theorem foldl_map_inc {Q Q' : Nat → Int} {f : Nat → Nat} : ∀ (s o : List Nat), (∀ x, x ∈ s → Q' (f x) = Q x) → (∀ x, x ∈ o → Q' (f x) = Q x) → (s.foldl (incS Q) o).map f = (s.map f).foldl (incS Q') (o.map f)
  | [], o, _, _ => rfl
  | x :: s, o, hs, ho => by
    rw [List.foldl_cons, List.map_cons, List.foldl_cons]
    have hx := hs x (by simp)
    have e : (incS Q o x).map f = incS Q' (o.map f) (f x) := by
      unfold incS
      rw [List.length_map]
      by_cases h0 : o.length = 0
      · rw [if_pos (.inl h0), if_pos (.inl h0)]; simp
      · have hm : o.getD (o.length - 1) 0 ∈ o := by
          rw [getD_of (List.getElem?_eq_getElem (by omega))]; exact List.getElem_mem _
        have hg : (o.map f).getD (o.length - 1) 0 = f (o.getD (o.length - 1) 0) := by
          rw [getD_of (x := f (o[o.length - 1]'(by omega))) (by simp; exact ⟨_, List.getElem?_eq_getElem (by omega), rfl⟩), getD_of (List.getElem?_eq_getElem (by omega))]
        rw [hg, ho _ hm, hx]
        split <;> simp
    rw [← e]
    exact foldl_map_inc s _ (fun y hy => hs y (by simp [hy])) (fun y hy => by
      rcases incS_mem hy with h | rfl
      · exact ho y h
      · exact hx)

/-- The program's hull is the reference's. -/
theorem hulN_ref {l : List Rng} (h : checkR l = 0) : hulN l = refN l l.length := by
  have hR := rates_le h
  have hb := bst_ok hR l.length (Nat.le_refl _)
  have hpl := pts_len l
  have hpg := fun k (hk : k < (bst l l.length).length) => pts_get (l := l) hk
  rw [refN_eq]
  unfold hulN hullN
  generalize hs : bst l l.length = s at hb hpl hpg ⊢
  have hup := List.pairwise_iff_getElem.1 hb.up
  have hg : ∀ k, (hk : k < s.length) → s.getD k 0 = s[k] := fun k hk => getD_of (List.getElem?_eq_getElem hk)
  have hra : ∀ k, k < s.length → rA (ptsL l) k = rA l (s.getD k 0) := fun k hk => by unfold rA; rw [hpg k hk]
  have hqa : ∀ k, k < s.length → qA (ptsL l) k = qA l (s.getD k 0) := fun k hk => by unfold qA; rw [hpg k hk]
  have hsr : ∀ a b, a < b → b < s.length → s.getD a 0 < s.getD b 0 ∧ rA l (s.getD a 0) < rA l (s.getD b 0) := fun a b h1 h2 => by
    rw [hg a (by omega), hg b h2]; exact hup a b (by omega) h2 h1
  have hmem : ∀ k, k < s.length → s.getD k 0 < l.length ∧ Fst l l.length (s.getD k 0) := fun k hk => (hb.mem _).1 (by rw [hg k hk]; exact List.getElem_mem _)
  rw [hpl]
  have hc := chain_ok (R := rA (ptsL l)) (Q := qA (ptsL l)) s.length (fun a b h1 h2 => by rw [hra a (by omega), hra b h2]; exact (hsr a b h1 h2).2)
  generalize chain (rA (ptsL l)) (qA (ptsL l)) s.length = c at hc ⊢
  rw [foldl_map_inc (Q' := qA l) (f := fun k => s.getD k 0) c [] (fun x hx => (hqa x ((hc.mem x).1 hx).1).symm) (fun x hx => by simp at hx)]
  congr 1
  refine sorted_ext ?_ (List.Pairwise.filter _ List.pairwise_lt_range) fun x => ?_
  · rw [List.pairwise_map]
    exact (pairwise_getD hc.up).imp_of_mem fun {a b} ha hb' hab => (hsr a b hab ((hc.mem b).1 hb').1).1
  · rw [List.mem_map, List.mem_filter, List.mem_range, Bool.and_eq_true, frstB_iff, corB_iff]
    constructor
    · rintro ⟨k, hk, rfl⟩
      obtain ⟨hk1, hk2⟩ := (hc.mem k).1 hk
      obtain ⟨h1, h2⟩ := hmem k hk1
      refine ⟨h1, h2, fun a b ha hb' hra' hrb' => ?_⟩
      -- the best ones of the Rates of a and b
      obtain ⟨a', ha', hae⟩ := hb.ex a ha
      obtain ⟨b', hb'', hbe⟩ := hb.ex b hb'
      obtain ⟨ka, hka, rfl⟩ := mem_getD.1 ha'
      obtain ⟨kb, hkb, rfl⟩ := mem_getD.1 hb''
      have h3 : ka < k := by
        rcases Nat.lt_trichotomy ka k with e | e | e
        · exact e
        · subst e; omega
        · have := (hsr k ka e hka).2; omega
      have h4 : k < kb := by
        rcases Nat.lt_trichotomy k kb with e | e | e
        · exact e
        · subst e; omega
        · have := (hsr kb k e hk1).2; omega
      have h5 := hk2 ka kb h3 h4 hkb
      have h6 := (hmem ka hka).2 a ha hae.symm
      have h7 := (hmem kb hkb).2 b hb' hbe.symm
      exact abv_mono h5 (by rw [hra ka hka, hra k hk1]; exact (hsr ka k h3 hk1).2) (by rw [hra k hk1, hra kb hkb]; exact (hsr k kb h4 hkb).2)
        (by rw [hra ka hka, hae]) (hra k hk1).symm (by rw [hra kb hkb, hbe]) (hqa k hk1).symm (by rw [hqa ka hka]; omega) (by rw [hqa kb hkb]; omega)
    · rintro ⟨hx, hf, hcx⟩
      obtain ⟨k, hk, rfl⟩ := mem_getD.1 ((hb.mem x).2 ⟨hx, hf⟩)
      refine ⟨k, (hc.mem k).2 ⟨hk, fun a b h1 h2 h3 => ?_⟩, rfl⟩
      have h4 := hcx (s.getD a 0) (s.getD b 0) (hmem a (by omega)).1 (hmem b h3).1 (hsr a k h1 hk).2 (hsr k b h2 h3).2
      exact abv_mono h4 (hsr a k h1 hk).2 (hsr k b h2 h3).2 (hra a (by omega)) (hra k hk) (hra b h3) (hqa k hk) (by rw [hqa a (by omega)]; exact Int.le_refl _) (by rw [hqa b h3]; exact Int.le_refl _)
end Go.Proofs.Ytikgkgfcnciomaa

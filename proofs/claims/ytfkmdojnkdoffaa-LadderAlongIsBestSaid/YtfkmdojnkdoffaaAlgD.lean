/- Along: chains of renditions, what they are worth, the best one: plain. -/
import Derived.Test.YtfkmdojnkdoffaaAlgL
import Derived.Test.YtfkmdojnkdoffaaMoreL
import Derived.Test.YtfkmdojnkdoffaaRenL
import Derived.Test.YtfkmdojnkdoffaaBstL
namespace Go.Proofs.Ytfkmdojnkdoffaa
open Go.RowKit

def raA (l : List Rng) (i : Nat) : Int := (l.getD i default).ra
/-- Renditions stand by their rates. -/
def SrtR (l : List Rng) : Prop := (∀ i k, i ≤ k → k < l.length → raA l i ≤ raA l k) ∧ (∀ i, i < l.length → 1 ≤ raA l i ∧ raA l i ≤ 1000000000) ∧ (∀ i, i < l.length → 0 ≤ quA l i)
theorem srtR_of {l : List Rng} (h : checkR l = 0) : SrtR l := by
  obtain ⟨_, h2, h3, _⟩ := (checkR_iff l).1 h
  have hg : ∀ i, i < l.length → l.getD i default ∈ l := fun i hi => by
    rw [getD_of (show l[i]? = some l[i] by simp [hi])]
    exact List.getElem_mem hi
  refine ⟨fun i k hik hk => ?_, fun i hi => (h2 _ (hg i hi)).2.1, fun i hi => ((h2 _ (hg i hi)).2.2.2).1⟩
  by_cases e : i = k
  · subst e; exact Int.le_refl _
  · have hlt : i < k := by omega
    have := List.pairwise_iff_getElem.1 h3 i k (by omega) hk hlt
    unfold raA
    rw [getD_of (show l[i]? = some l[i] by simp [show i < l.length by omega]), getD_of (show l[k]? = some l[k] by simp [hk])]
    rcases this with h | h
    · omega
    · omega
/-- What the best of some renditions that a rate allows is worth. -/
def valL (l : List Rng) : List Nat → Int → Int
  | [], _ => 0
  | i :: r, s => max (if raA l i ≤ s then quA l i else 0) (valL l r s)
theorem valL_nonneg (l : List Rng) : ∀ (X : List Nat) (s : Int), 0 ≤ valL l X s
  | [], _ => Int.le_refl 0
  | _ :: r, s => Int.le_trans (valL_nonneg l r s) (Int.le_max_right _ _)
theorem valL_ge {l : List Rng} {s : Int} : ∀ {X : List Nat} {i : Nat}, i ∈ X → raA l i ≤ s → quA l i ≤ valL l X s
  | j :: r, i, hi, hr => by
    rcases List.mem_cons.1 hi with rfl | h
    · show _ ≤ max _ _
      rw [if_pos hr]
      exact Int.le_max_left _ _
    · exact Int.le_trans (valL_ge h hr) (Int.le_max_right _ _)
theorem valL_le {l : List Rng} {s B : Int} (hB : 0 ≤ B) : ∀ {X : List Nat}, (∀ i, i ∈ X → raA l i ≤ s → quA l i ≤ B) → valL l X s ≤ B
  | [], _ => hB
  | j :: r, h => by
    show max _ _ ≤ B
    refine Int.max_le.2 ⟨?_, valL_le hB fun i hi => h i (by simp [hi])⟩
    split
    · rename_i hr; exact h j (by simp) hr
    · exact hB
/-- A chain: numbers and qualities rise. -/
def ChR (l : List Rng) : List Nat → Prop
  | [] => True
  | [i] => i < l.length
  | i :: k :: r => i < k ∧ quA l i < quA l k ∧ ChR l (k :: r)
theorem ChR.lt {l : List Rng} : ∀ {X : List Nat}, ChR l X → ∀ i, i ∈ X → i < l.length
  | [], _, i, hi => by cases hi
  | [j], h, i, hi => by rw [List.mem_singleton] at hi; subst hi; exact h
  | j :: k :: r, h, i, hi => by
    rcases List.mem_cons.1 hi with rfl | h2
    · have := ChR.lt h.2.2 k (by simp)
      have := h.1
      omega
    · exact ChR.lt h.2.2 i h2
theorem ChR.tail {l : List Rng} {i : Nat} {X : List Nat} (h : ChR l (i :: X)) : ChR l X := by
  cases X with
  | nil => trivial
  | cons k r => exact h.2.2
theorem ChR.head {l : List Rng} : ∀ {X : List Nat} {i : Nat}, ChR l (i :: X) → ∀ k, k ∈ X → i < k ∧ quA l i < quA l k
  | [], _, _, k, hk => by cases hk
  | j :: r, i, h, k, hk => by
    rcases List.mem_cons.1 hk with rfl | h2
    · exact ⟨h.1, h.2.1⟩
    · have := ChR.head h.2.2 k h2
      have h3 := h.1
      have h4 := h.2.1
      omega
theorem ChR.mk {l : List Rng} {i : Nat} (hi : i < l.length) : ∀ {X : List Nat}, ChR l X → (∀ k, k ∈ X → i < k ∧ quA l i < quA l k) → ChR l (i :: X)
  | [], _, _ => hi
  | j :: r, h, hk => ⟨(hk j (by simp)).1, (hk j (by simp)).2, h⟩
/-- What a chain is worth. -/
def Dv (l : List Rng) (c : List Vw) : List Nat → Int
  | [] => 0
  | [i] => quA l i * Wt l c i l.length
  | i :: k :: r => quA l i * Wt l c i k + Dv l c (k :: r)
/-- Of one viewer. -/
def d1 (l : List Rng) (s : Int) : List Nat → Int
  | [] => 0
  | [i] => if raA l i ≤ s then quA l i else 0
  | i :: k :: r => (if raA l i ≤ s ∧ s < raA l k then quA l i else 0) + d1 l s (k :: r)
theorem d1_val {l : List Rng} (hs : SrtR l) {s : Int} : ∀ {X : List Nat}, ChR l X → d1 l s X = valL l X s
  | [], _ => rfl
  | [i], h => by
    show (if _ then _ else _) = max (if _ then _ else _) (0 : Int)
    have := hs.2.2 i h
    split <;> omega
  | i :: k :: r, h => by
    have ih := d1_val hs (s := s) h.2.2
    show (if _ then _ else _) + d1 l s (k :: r) = max _ (valL l (k :: r) s)
    rw [ih]
    have hkl := ChR.lt h.2.2 k (by simp)
    have hq := hs.2.2 i (by have := h.1; omega)
    have hik := hs.1 i k (by have := h.1; omega) hkl
    by_cases h1 : s < raA l k
    · have hz : valL l (k :: r) s = 0 := by
        have h2 := valL_le (l := l) (s := s) (B := 0) (Int.le_refl 0) (X := k :: r) fun j hj hr => by
          have hjl := ChR.lt h.2.2 j hj
          have : raA l k ≤ raA l j := by
            rcases List.mem_cons.1 hj with rfl | h3
            · exact Int.le_refl _
            · exact hs.1 k j (by have := (ChR.head h.2.2 j h3).1; omega) hjl
          omega
        have := valL_nonneg l (k :: r) s
        omega
      rw [hz]
      by_cases h2 : raA l i ≤ s
      · rw [if_pos ⟨h2, h1⟩, if_pos h2]; omega
      · rw [if_neg (fun h => h2 h.1), if_neg h2]; omega
    · have h2 := valL_ge (l := l) (s := s) (X := k :: r) (i := k) (by simp) (by omega)
      rw [if_neg (fun h => h1 h.2), if_pos (by omega)]
      have := h.2.1
      omega
theorem wgA_add {c : List Vw} {q lo hi : Int} : ∀ t, q * wgA c lo hi t = ((c.take t).map fun v => q * wg1 lo hi v).sum ∨ c.length < t
  | 0 => by left; simp [wgA]
  | t + 1 => by
    by_cases ht : t < c.length
    · left
      rcases wgA_add (c := c) (q := q) (lo := lo) (hi := hi) t with h | h
      · have hv : c[t]? = some c[t] := by simp [ht]
        rw [wgA_next hv, take_next hv, List.map_append, List.sum_append, Int.mul_add, h]
        simp
      · omega
    · right; omega
theorem wg_sum (c : List Vw) (q lo hi : Int) : q * wg c lo hi = (c.map fun v => q * wg1 lo hi v).sum := by
  rcases wgA_add (c := c) (q := q) (lo := lo) (hi := hi) c.length with h | h
  · rw [List.take_length] at h
    exact h
  · omega
theorem Dv_sum {l : List Rng} {c : List Vw} (hc : ∀ v, v ∈ c → 0 ≤ v.ra ∧ v.ra ≤ 1000000000) : ∀ {X : List Nat}, ChR l X → Dv l c X = (c.map fun v => v.we * d1 l v.ra X).sum
  | [], _ => by
    show (0 : Int) = (c.map fun v => v.we * 0).sum
    induction c with
    | nil => rfl
    | cons a r ih =>
      rw [List.map_cons, List.sum_cons, ← ih fun v hv => hc v (by simp [hv])]
      simp
  | [i], h => by
    show quA l i * Wt l c i l.length = _
    unfold Wt
    rw [wg_sum]
    congr 1
    refine List.map_congr_left fun v hv => ?_
    have := hc v hv
    unfold wg1 raK
    rw [if_neg (Nat.lt_irrefl _)]
    show quA l i * (if raA l i ≤ v.ra ∧ v.ra < 1000000001 then v.we else 0) = v.we * (if raA l i ≤ v.ra then quA l i else 0)
    by_cases h1 : raA l i ≤ v.ra
    · rw [if_pos ⟨h1, by omega⟩, if_pos h1, Int.mul_comm]
    · rw [if_neg (fun h => h1 h.1), if_neg h1]; simp
  | i :: k :: r, h => by
    have ih := Dv_sum hc h.2.2
    show quA l i * Wt l c i k + Dv l c (k :: r) = _
    rw [ih]
    unfold Wt
    rw [wg_sum]
    have hk := ChR.lt h.2.2 k (by simp)
    have e : raK l k = raA l k := by unfold raK; rw [if_pos hk]; rfl
    rw [e]
    have key : ∀ c' : List Vw, (c'.map fun v => quA l i * wg1 (l.getD i default).ra (raA l k) v).sum + (c'.map fun v => v.we * d1 l v.ra (k :: r)).sum = (c'.map fun v => v.we * d1 l v.ra (i :: k :: r)).sum := by
      intro c'
      induction c' with
      | nil => rfl
      | cons a t iht =>
        simp only [List.map_cons, List.sum_cons]
        rw [← iht]
        have : quA l i * wg1 (l.getD i default).ra (raA l k) a + a.we * d1 l a.ra (k :: r) = a.we * d1 l a.ra (i :: k :: r) := by
          show _ = a.we * ((if raA l i ≤ a.ra ∧ a.ra < raA l k then quA l i else 0) + d1 l a.ra (k :: r))
          unfold wg1
          show quA l i * (if raA l i ≤ a.ra ∧ a.ra < raA l k then a.we else 0) + _ = _
          rw [Int.mul_add]
          by_cases h1 : raA l i ≤ a.ra ∧ a.ra < raA l k
          · rw [if_pos h1, if_pos h1, Int.mul_comm]
          · rw [if_neg h1, if_neg h1]; simp
        omega
    exact key c
/-- Of numbers that rise a chain is worth as much. -/
theorem chain_of {l : List Rng} (hs : SrtR l) : ∀ (X : List Nat), X.Pairwise (· < ·) → (∀ i, i ∈ X → i < l.length) → ∃ Y, ChR l Y ∧ Y.length ≤ X.length ∧ (∀ i, i ∈ Y → i ∈ X) ∧ ∀ s, valL l X s ≤ valL l Y s
  | [], _, _ => ⟨[], trivial, Nat.le_refl _, fun i hi => hi, fun s => Int.le_refl _⟩
  | i :: r, hp, hl => by
    rw [List.pairwise_cons] at hp
    obtain ⟨Y, h1, h2, h3, h4⟩ := chain_of hs r hp.2 fun j hj => hl j (by simp [hj])
    -- of a chain those that are better than i
    have key : ∀ (Y : List Nat), ChR l Y → (∀ j, j ∈ Y → i < j) → ∃ Z, ChR l (i :: Z) ∧ Z.length ≤ Y.length ∧ (∀ j, j ∈ Z → j ∈ Y) ∧ ∀ s, valL l (i :: Y) s ≤ valL l (i :: Z) s := by
      intro Y
      induction Y with
      | nil => intro _ _; exact ⟨[], hl i (by simp), Nat.le_refl _, fun j hj => hj, fun s => Int.le_refl _⟩
      | cons k t ih =>
        intro hY hlt
        by_cases hq : quA l i < quA l k
        · refine ⟨k :: t, ⟨hlt k (by simp), hq, hY⟩, Nat.le_refl _, fun j hj => hj, fun s => Int.le_refl _⟩
        · obtain ⟨Z, z1, z2, z3, z4⟩ := ih hY.tail fun j hj => hlt j (by simp [hj])
          refine ⟨Z, z1, by simp only [List.length_cons]; omega, fun j hj => by simp [z3 j hj], fun s => Int.le_trans ?_ (z4 s)⟩
          have hkl := ChR.lt hY k (by simp)
          have hr := hs.1 i k (by have := hlt k (by simp); omega) hkl
          refine valL_le (valL_nonneg _ _ _) fun j hj hr2 => ?_
          rcases List.mem_cons.1 hj with rfl | hj
          · exact valL_ge (by simp) hr2
          · rcases List.mem_cons.1 hj with rfl | hj
            · exact Int.le_trans (by omega) (valL_ge (i := i) (by simp) (by omega))
            · exact valL_ge (by simp [hj]) hr2
    obtain ⟨Z, z1, z2, z3, z4⟩ := key Y h1 fun j hj => hp.1 j (h3 j hj)
    refine ⟨i :: Z, z1, by simp only [List.length_cons]; omega, fun j hj => ?_, fun s => Int.le_trans ?_ (z4 s)⟩
    · rcases List.mem_cons.1 hj with rfl | hj
      · simp
      · simp [h3 j (z3 j hj)]
    · have := h4 s
      show max _ _ ≤ max _ _
      omega
/-- The best choice behind a rendition: no less than it alone, and than any way on. -/
theorem bstF_mono (l : List Rng) (c : List Vw) (last : Nat → Rst) (i m : Nat) : (bstF l c last i m).wo ≤ (bstF l c last i (m + 1)).wo := by
  show _ ≤ (tryF l c last i m (bstF l c last i m)).wo
  unfold tryF
  split
  · rename_i h; exact Int.le_of_lt h.2.2
  · exact Int.le_refl _
theorem bstF_mono' (l : List Rng) (c : List Vw) (last : Nat → Rst) (i : Nat) {m k : Nat} (h : m ≤ k) : (bstF l c last i m).wo ≤ (bstF l c last i k).wo := by
  induction k with
  | zero => obtain rfl : m = 0 := by omega
            exact Int.le_refl _
  | succ k ih =>
    by_cases e : m = k + 1
    · subst e; exact Int.le_refl _
    · exact Int.le_trans (ih (by omega)) (bstF_mono l c last i k)
theorem bstF_ge (l : List Rng) (c : List Vw) (last : Nat → Rst) {i k : Nat} (hik : i < k) (hq : quA l i < quA l k) {m : Nat} (hk : k < m) : quA l i * Wt l c i k + (last k).wo ≤ (bstF l c last i m).wo := by
  refine Int.le_trans ?_ (bstF_mono' l c last i (show k + 1 ≤ m by omega))
  show _ ≤ (tryF l c last i k (bstF l c last i k)).wo
  unfold tryF
  by_cases h : (bstF l c last i k).wo < quA l i * Wt l c i k + (last k).wo
  · rw [if_pos ⟨hik, hq, h⟩]; exact Int.le_refl _
  · rw [if_neg (fun h2 => h h2.2.2)]; omega
theorem bstF_or (l : List Rng) (c : List Vw) (last : Nat → Rst) (i : Nat) : ∀ m, bstF l c last i m = alnF l c i ∨ ∃ k, i < k ∧ k < m ∧ quA l i < quA l k ∧ bstF l c last i m = ⟨quA l i * Wt l c i k + (last k).wo, k⟩
  | 0 => Or.inl rfl
  | m + 1 => by
    rw [show bstF l c last i (m + 1) = tryF l c last i m (bstF l c last i m) from rfl]
    unfold tryF
    split
    · rename_i h
      exact Or.inr ⟨m, h.1, by omega, h.2.1, rfl⟩
    · rcases bstF_or l c last i m with h | ⟨k, h1, h2, h3, h4⟩
      · exact Or.inl h
      · exact Or.inr ⟨k, h1, by omega, h3, h4⟩
theorem layF_aln (l : List Rng) (c : List Vw) (m i : Nat) : (alnF l c i).wo ≤ (layF l c m i).wo := by
  cases m with
  | zero => exact Int.le_refl _
  | succ m => exact bstF_mono' l c (layF l c m) i (show 0 ≤ l.length by omega)
theorem Dv_le (l : List Rng) (c : List Vw) : ∀ (m : Nat) (i : Nat) (Z : List Nat), ChR l (i :: Z) → Z.length ≤ m → Dv l c (i :: Z) ≤ (layF l c m i).wo
  | m, i, [], _, _ => layF_aln l c m i
  | 0, i, k :: r, _, h => by simp at h
  | m + 1, i, k :: r, h, hl => by
    have ih := Dv_le l c m k r h.2.2 (by simpa using hl)
    have h2 := bstF_ge l c (layF l c m) h.1 h.2.1 (ChR.lt h.2.2 k (by simp))
    show quA l i * Wt l c i k + Dv l c (k :: r) ≤ (bstF l c (layF l c m) i l.length).wo
    omega
/-- The way that a layer tells. -/
def pathR (l : List Rng) (c : List Vw) : Nat → Nat → List Nat
  | 0, i => [i]
  | m + 1, i => if 0 ≤ (layF l c (m + 1) i).nx then i :: pathR l c m (layF l c (m + 1) i).nx.toNat else [i]
theorem pathR_ok (l : List Rng) (c : List Vw) : ∀ m i, i < l.length → ChR l (pathR l c m i) ∧ (pathR l c m i).head? = some i ∧ (pathR l c m i).length ≤ m + 1 ∧ Dv l c (pathR l c m i) = (layF l c m i).wo
  | 0, i, hi => ⟨hi, rfl, by simp [pathR], rfl⟩
  | m + 1, i, hi => by
    rcases bstF_or l c (layF l c m) i l.length with h | ⟨k, h1, h2, h3, h4⟩
    · have e : layF l c (m + 1) i = alnF l c i := h
      have hn : ¬ 0 ≤ (layF l c (m + 1) i).nx := by rw [e]; show ¬ (0 : Int) ≤ -1; omega
      unfold pathR
      rw [if_neg hn]
      exact ⟨hi, rfl, by simp, by rw [e]; rfl⟩
    · have e : layF l c (m + 1) i = ⟨quA l i * Wt l c i k + (layF l c m k).wo, k⟩ := h4
      have hn : (layF l c (m + 1) i).nx = (k : Int) := by rw [e]
      obtain ⟨g1, g2, g3, g4⟩ := pathR_ok l c m k h2
      unfold pathR
      rw [hn, if_pos (by omega), Int.toNat_natCast]
      obtain ⟨t, ht⟩ : ∃ t, pathR l c m k = k :: t := by
        cases hp : pathR l c m k with
        | nil => rw [hp] at g2; cases g2
        | cons a t => rw [hp] at g2; simp at g2; exact ⟨t, by rw [g2]⟩
      rw [ht] at g1 g3 g4 ⊢
      refine ⟨⟨h1, h3, g1⟩, rfl, by simp only [List.length_cons] at g3 ⊢; omega, ?_⟩
      show quA l i * Wt l c i k + Dv l c (k :: t) = _
      rw [g4, e]
/-- The best one to begin with, and what it is worth. -/
def topA (f : Nat → Rst) : Nat → Int × Int
  | 0 => (-1, 0)
  | i + 1 => if (topA f i).2 < (f i).wo then (i, (f i).wo) else topA f i
theorem topA_ok (f : Nat → Rst) : ∀ n, 0 ≤ (topA f n).2 ∧ (∀ i, i < n → (f i).wo ≤ (topA f n).2) ∧ (((topA f n).1 = -1 ∧ (topA f n).2 = 0) ∨ ∃ i, i < n ∧ (topA f n).1 = (i : Int) ∧ (topA f n).2 = (f i).wo ∧ 0 < (f i).wo)
  | 0 => ⟨Int.le_refl _, fun i hi => absurd hi (Nat.not_lt_zero _), Or.inl ⟨rfl, rfl⟩⟩
  | n + 1 => by
    obtain ⟨h1, h2, h3⟩ := topA_ok f n
    unfold topA
    split
    · rename_i h
      refine ⟨by show 0 ≤ (f n).wo; omega, fun i hi => ?_, Or.inr ⟨n, by omega, rfl, rfl, by omega⟩⟩
      by_cases e : i = n
      · subst e; exact Int.le_refl _
      · have := h2 i (by omega)
        show _ ≤ (f n).wo
        omega
    · rename_i h
      refine ⟨h1, fun i hi => ?_, ?_⟩
      · by_cases e : i = n
        · subst e; omega
        · exact h2 i (by omega)
      · rcases h3 with h3 | ⟨i, a, b⟩
        · exact Or.inl h3
        · exact Or.inr ⟨i, by omega, b⟩
/-- What Along answers. -/
def alN (l : List Rng) (c : List Vw) (m : Nat) : Int := if m = 0 then 0 else (topA (layF l c (m - 1)) l.length).2
def alP (l : List Rng) (c : List Vw) (m : Nat) : List Nat := if m = 0 then [] else if (topA (layF l c (m - 1)) l.length).1 < 0 then [] else pathR l c (m - 1) (topA (layF l c (m - 1)) l.length).1.toNat
theorem alP_ok (l : List Rng) (c : List Vw) (m : Nat) : ChR l (alP l c m) ∧ (alP l c m).length ≤ m ∧ Dv l c (alP l c m) = alN l c m := by
  unfold alP alN
  by_cases hm : m = 0
  · rw [if_pos hm, if_pos hm]; exact ⟨trivial, by simp, rfl⟩
  · rw [if_neg hm, if_neg hm]
    obtain ⟨_, _, h⟩ := topA_ok (layF l c (m - 1)) l.length
    rcases h with ⟨h1, h2⟩ | ⟨i, h1, h2, h3, _⟩
    · rw [if_pos (by rw [h1]; omega), h2]; exact ⟨trivial, by simp, rfl⟩
    · rw [if_neg (by rw [h2]; omega), h2, Int.toNat_natCast, h3]
      obtain ⟨g1, _, g3, g4⟩ := pathR_ok l c (m - 1) i h1
      exact ⟨g1, by omega, g4⟩
theorem alN_ge (l : List Rng) (c : List Vw) {m : Nat} {Y : List Nat} (h : ChR l Y) (hl : Y.length ≤ m) : Dv l c Y ≤ alN l c m := by
  unfold alN
  cases Y with
  | nil =>
    split
    · exact Int.le_refl _
    · exact (topA_ok (layF l c (m - 1)) l.length).1
  | cons i Z =>
    have hm : ¬ m = 0 := by simp at hl; omega
    rw [if_neg hm]
    exact Int.le_trans (Dv_le l c (m - 1) i Z h (by simp at hl; omega)) ((topA_ok (layF l c (m - 1)) l.length).2.1 i (ChR.lt h i (by simp)))
end Go.Proofs.Ytfkmdojnkdoffaa

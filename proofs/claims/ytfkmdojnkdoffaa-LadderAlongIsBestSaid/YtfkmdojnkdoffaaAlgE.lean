/- Along: worth to a crowd whose heights do not matter; the reference's way: plain. -/
import Derived.Test.YtfkmdojnkdoffaaAlgD
import Derived.Test.YtfkmdojnkdoffaaBstF
namespace Go.Proofs.Ytfkmdojnkdoffaa
open Go.RowKit

def tallV (v : Vw) : Vw := ⟨v.ra, 10000, v.we⟩
def tallC (c : List Vw) : List Vw := c.map tallV
def castL (X : List Nat) : List Int := X.map fun (i : Nat) => (i : Int)
theorem wtA_sum (S : List Rng) (c : List Vw) : ∀ k, k ≤ c.length → wtA S c k = ((c.take k).map fun v => wt1 S v).sum
  | 0, _ => by simp [wtA]
  | k + 1, h => by
    have hv : c[k]? = some c[k] := by simp
    rw [take_next hv, List.map_append, List.sum_append, ← wtA_sum S c k (by omega)]
    show _ + wt1 S (c.getD k default) = _
    rw [getD_of hv]
    simp
theorem wtR_sum (S : List Rng) (c : List Vw) : wtR S c = (c.map fun v => wt1 S v).sum := by
  unfold wtR
  rw [wtA_sum S c c.length (Nat.le_refl _), List.take_length]
/-- What a viewer whose height does not matter gets. -/
theorem wt1_val {l : List Rng} {X : List Nat} (hl : ∀ i, i ∈ X → i < l.length) (hs : SrtR l) (hh : ∀ x, x ∈ l → x.he ≤ 10000) (v : Vw) : wt1 (selR l (castL X)) (tallV v) = v.we * valL l X v.ra := by
  have hsel : ∀ j : Nat, (selR l (castL X))[j]? = (X[j]?).map fun i => l.getD i default := fun j => by
    unfold selR castL
    rw [List.map_map, List.getElem?_map]
    cases X[j]? <;> simp
  have hfit : ∀ i, i ∈ X → (fitsV (tallV v) (l.getD i default) ↔ raA l i ≤ v.ra) := fun i hi => by
    have hi2 := hl i hi
    have hx : l[i]? = some l[i] := by simp [hi2]
    have h2 := hh l[i] (List.getElem_mem _)
    unfold fitsV tallV raA
    rw [getD_of hx]
    exact ⟨fun h => h.1, fun h => ⟨h, h2⟩⟩
  obtain ⟨h1, h2⟩ := tkA_inv (selR l (castL X)) (tallV v) (selR l (castL X)).length (Nat.le_refl _)
  unfold wt1 takesR
  split
  · rename_i h0
    obtain ⟨y, hy, hf, hm⟩ := h2 h0
    rw [getD_of hy]
    show v.we * y.qu = _
    congr 1
    rw [hsel] at hy
    obtain ⟨i, hi, he⟩ : ∃ i, X[(tkA (selR l (castL X)) (tallV v) (selR l (castL X)).length).toNat]? = some i ∧ l.getD i default = y := by
      cases hx : X[(tkA (selR l (castL X)) (tallV v) (selR l (castL X)).length).toNat]? with
      | none => rw [hx] at hy; cases hy
      | some i => rw [hx] at hy; exact ⟨i, rfl, by simpa using hy⟩
    have hiX := List.mem_of_getElem? hi
    rw [← he] at hf
    have hr := (hfit i hiX).1 hf
    have hqy : quA l i = y.qu := by unfold quA; rw [he]
    refine Int.le_antisymm ?_ ?_
    · rw [← hqy]; exact valL_ge hiX hr
    · refine valL_le (by rw [← hqy]; exact hs.2.2 i (hl i hiX)) fun j hj hjr => ?_
      obtain ⟨t, ht, he2⟩ := List.mem_iff_getElem.1 hj
      have hgt : (selR l (castL X))[t]? = some (l.getD j default) := by
        rw [hsel, List.getElem?_eq_getElem ht, he2]; rfl
      exact hm t _ (by have := (List.getElem?_eq_some_iff.1 hgt).1; exact this) hgt ((hfit j hj).2 hjr)
  · rename_i h0
    have hz : valL l X v.ra = 0 := by
      refine Int.le_antisymm (valL_le (Int.le_refl 0) fun j hj hjr => ?_) (valL_nonneg _ _ _)
      obtain ⟨t, ht, he2⟩ := List.mem_iff_getElem.1 hj
      have hgt : (selR l (castL X))[t]? = some (l.getD j default) := by
        rw [hsel, List.getElem?_eq_getElem ht, he2]; rfl
      exact absurd ((hfit j hj).2 hjr) (h1 (by omega) t _ (List.getElem?_eq_some_iff.1 hgt).1 hgt)
    rw [hz, Int.mul_zero]
theorem wtR_val {l : List Rng} {X : List Nat} (hl : ∀ i, i ∈ X → i < l.length) (hs : SrtR l) (hh : ∀ x, x ∈ l → x.he ≤ 10000) (c : List Vw) : wtR (selR l (castL X)) (tallC c) = (c.map fun v => v.we * valL l X v.ra).sum := by
  rw [wtR_sum]
  unfold tallC
  rw [List.map_map]
  congr 1
  exact List.map_congr_left fun v _ => wt1_val hl hs hh v
theorem wtR_chain {l : List Rng} {X : List Nat} (hX : ChR l X) (hs : SrtR l) (hh : ∀ x, x ∈ l → x.he ≤ 10000) {c : List Vw} (hc : ∀ v, v ∈ c → 0 ≤ v.ra ∧ v.ra ≤ 1000000000) : wtR (selR l (castL X)) (tallC c) = Dv l c X := by
  rw [wtR_val (ChR.lt hX) hs hh, Dv_sum hc hX]
  congr 1
  exact List.map_congr_left fun v _ => by rw [d1_val hs hX]
theorem sum_le {c : List Vw} {f g : Vw → Int} (h : ∀ v, v ∈ c → f v ≤ g v) : (c.map f).sum ≤ (c.map g).sum := by
  induction c with
  | nil => exact Int.le_refl _
  | cons a r ih =>
    simp only [List.map_cons, List.sum_cons]
    have h1 := h a (by simp)
    have h2 := ih fun v hv => h v (by simp [hv])
    omega
/-- No choice is worth more than the best chain. -/
theorem wtR_le {l : List Rng} {X : List Nat} (hp : X.Pairwise (· < ·)) (hl : ∀ i, i ∈ X → i < l.length) (hs : SrtR l) (hh : ∀ x, x ∈ l → x.he ≤ 10000) {c : List Vw} (hc : ∀ v, v ∈ c → (0 ≤ v.ra ∧ v.ra ≤ 1000000000) ∧ 0 ≤ v.we) {m : Nat} (hm : X.length ≤ m) : wtR (selR l (castL X)) (tallC c) ≤ alN l c m := by
  obtain ⟨Y, h1, h2, h3, h4⟩ := chain_of hs X hp hl
  refine Int.le_trans ?_ (alN_ge l c h1 (Nat.le_trans h2 hm))
  rw [wtR_val hl hs hh, Dv_sum (fun v hv => (hc v hv).1) h1]
  refine sum_le fun v hv => ?_
  rw [d1_val hs h1]
  exact Int.mul_le_mul_of_nonneg_left (h4 _) (hc v hv).2
theorem castL_okW {l : List Rng} {X : List Nat} (hX : ChR l X) {m : Nat} (hm : X.length ≤ m) : okW l.length m (castL X) := by
  refine ⟨fun k hk => ?_, ?_, by unfold castL; simpa using hm⟩
  · unfold castL at hk
    rw [List.mem_map] at hk
    obtain ⟨i, hi, rfl⟩ := hk
    have := ChR.lt hX i hi
    omega
  · unfold castL
    rw [List.pairwise_map]
    have : ∀ {X : List Nat}, ChR l X → X.Pairwise (· < ·) := by
      intro X
      induction X with
      | nil => intro _; exact List.Pairwise.nil
      | cons a t ih =>
        intro h
        rw [List.pairwise_cons]
        exact ⟨fun k hk => (ChR.head h k hk).1, ih h.tail⟩
    exact (this hX).imp fun h => by omega
theorem okW_cast {n m : Nat} {B : List Int} (h : okW n m B) : ∃ X : List Nat, B = castL X ∧ X.Pairwise (· < ·) ∧ (∀ i, i ∈ X → i < n) ∧ X.length ≤ m := by
  refine ⟨B.map Int.toNat, ?_, ?_, fun i hi => ?_, by simpa using h.len⟩
  · unfold castL
    rw [List.map_map]
    refine (Eq.trans (List.map_congr_left (g := id) fun k hk => ?_) (List.map_id B)).symm
    have := h.rng k hk
    show ((k.toNat : Nat) : Int) = k
    omega
  · rw [List.pairwise_map]
    exact h.inc.imp_of_mem fun {a b} ha hb hab => by
      have h1 := h.rng a ha
      have h2 := h.rng b hb
      omega
  · rw [List.mem_map] at hi
    obtain ⟨k, hk, rfl⟩ := hi
    have := h.rng k hk
    omega
/-- Best finds what Along finds. -/
theorem best_al {l : List Rng} {c : List Vw} {m : Nat} {B : List Int} (hs : SrtR l) (hh : ∀ x, x ∈ l → x.he ≤ 10000) (hc : ∀ v, v ∈ c → (0 ≤ v.ra ∧ v.ra ≤ 1000000000) ∧ 0 ≤ v.we) (hB : bestW (wOf l (tallC c)) l.length m B) : wOf l (tallC c) B = alN l c m := by
  obtain ⟨h1, h2⟩ := hB
  refine Int.le_antisymm ?_ ?_
  · obtain ⟨X, rfl, g1, g2, g3⟩ := okW_cast h1
    exact wtR_le g1 g2 hs hh hc g3
  · obtain ⟨a1, a2, a3⟩ := alP_ok l c m
    have h := h2 _ (castL_okW a1 a2)
    have e : wOf l (tallC c) (castL (alP l c m)) = alN l c m := by
      unfold wOf
      rw [wtR_chain a1 hs hh (fun v hv => (hc v hv).1), a3]
    rw [← e]
    have : ¬ (btW (wOf l (tallC c)) (castL (alP l c m)) B = true) := by rw [h]; simp
    rw [btW_iff] at this
    omega
/-- The reference's gain. -/
def gnT (l : List Rng) (c : List Vw) (last : Nat → Int) (i m : Nat) (p : Int) : Int :=
  if i < m ∧ ¬ (quA l m ≤ quA l i ∨ raA l m = raA l i) ∧ p < wg c (raA l i) (raA l m) * quA l i + last m then wg c (raA l i) (raA l m) * quA l i + last m else p
def gnB (l : List Rng) (c : List Vw) (last : Nat → Int) (i : Nat) : Nat → Int
  | 0 => wg c (raA l i) 1000000001 * quA l i
  | m + 1 => gnT l c last i m (gnB l c last i m)
def gnF (l : List Rng) (c : List Vw) : Nat → Nat → Int
  | 0 => fun i => wg c (raA l i) 1000000001 * quA l i
  | m + 1 => fun i => gnB l c (gnF l c m) i l.length
theorem gn_aln (l : List Rng) (c : List Vw) (i : Nat) : wg c (raA l i) 1000000001 * quA l i = (alnF l c i).wo := by
  show _ = quA l i * Wt l c i l.length
  unfold Wt raK
  rw [if_neg (Nat.lt_irrefl _), Int.mul_comm]
  rfl
theorem Wt_lt {l : List Rng} {c : List Vw} {i k : Nat} (hk : k < l.length) : Wt l c i k = wg c (raA l i) (raA l k) := by
  unfold Wt raK
  rw [if_pos hk]
  rfl
theorem gnB_le (l : List Rng) (c : List Vw) {last : Nat → Int} {la : Nat → Rst} (h : ∀ k, k < l.length → last k ≤ (la k).wo) (i : Nat) : ∀ m, m ≤ l.length → gnB l c last i m ≤ (bstF l c la i m).wo
  | 0, _ => by
    show wg c (raA l i) 1000000001 * quA l i ≤ (alnF l c i).wo
    rw [gn_aln]
    exact Int.le_refl _
  | m + 1, hm => by
    have ih := gnB_le l c h i m (by omega)
    have h1 := h m (by omega)
    rw [show gnB l c last i (m + 1) = gnT l c last i m (gnB l c last i m) from rfl]
    unfold gnT
    split
    · rename_i hh
      have h2 := bstF_ge l c la hh.1 (show quA l i < quA l m by have := hh.2.1; omega) (show m < m + 1 by omega)
      rw [Wt_lt (show m < l.length by omega)] at h2
      rw [Int.mul_comm]
      omega
    · exact Int.le_trans ih (bstF_mono l c la i m)
theorem gnF_le (l : List Rng) (c : List Vw) : ∀ m i, i < l.length → gnF l c m i ≤ (layF l c m i).wo
  | 0, i, _ => by
    show wg c (raA l i) 1000000001 * quA l i ≤ (alnF l c i).wo
    rw [gn_aln]
    exact Int.le_refl _
  | m + 1, i, _ => gnB_le l c (fun k hk => gnF_le l c m k hk) i l.length (Nat.le_refl _)
theorem gnB_mono (l : List Rng) (c : List Vw) (last : Nat → Int) (i m : Nat) : gnB l c last i m ≤ gnB l c last i (m + 1) := by
  show _ ≤ gnT l c last i m (gnB l c last i m)
  unfold gnT
  split
  · rename_i h; exact Int.le_of_lt h.2.2
  · exact Int.le_refl _
theorem gnB_mono' (l : List Rng) (c : List Vw) (last : Nat → Int) (i : Nat) {m k : Nat} (h : m ≤ k) : gnB l c last i m ≤ gnB l c last i k := by
  induction k with
  | zero => obtain rfl : m = 0 := by omega
            exact Int.le_refl _
  | succ k ih =>
    by_cases e : m = k + 1
    · subst e; exact Int.le_refl _
    · exact Int.le_trans (ih (by omega)) (gnB_mono l c last i k)
theorem gnB_ge (l : List Rng) (c : List Vw) (last : Nat → Int) {i k : Nat} (hik : i < k) (hq : quA l i < quA l k) (hr : raA l k ≠ raA l i) {m : Nat} (hk : k < m) : wg c (raA l i) (raA l k) * quA l i + last k ≤ gnB l c last i m := by
  refine Int.le_trans ?_ (gnB_mono' l c last i (show k + 1 ≤ m by omega))
  show _ ≤ gnT l c last i k (gnB l c last i k)
  unfold gnT
  by_cases h : gnB l c last i k < wg c (raA l i) (raA l k) * quA l i + last k
  · rw [if_pos ⟨hik, by omega, h⟩]; exact Int.le_refl _
  · rw [if_neg (fun h2 => h h2.2.2)]; omega
theorem gnB_last (l : List Rng) (c : List Vw) {a b : Nat → Int} (h : ∀ k, k < l.length → a k ≤ b k) (i : Nat) : ∀ m, m ≤ l.length → gnB l c a i m ≤ gnB l c b i m
  | 0, _ => Int.le_refl _
  | m + 1, hm => by
    have ih := gnB_last l c h i m (by omega)
    have h1 := h m (by omega)
    rw [show gnB l c a i (m + 1) = gnT l c a i m (gnB l c a i m) from rfl]
    unfold gnT
    split
    · rename_i hh
      have := gnB_ge l c b hh.1 (show quA l i < quA l m by have := hh.2.1; omega) (fun e => hh.2.1 (Or.inr e)) (show m < m + 1 by omega)
      omega
    · exact Int.le_trans ih (gnB_mono l c b i m)
theorem gnF_up (l : List Rng) (c : List Vw) : ∀ m i, i < l.length → gnF l c m i ≤ gnF l c (m + 1) i
  | 0, i, _ => gnB_mono' l c (gnF l c 0) i (show 0 ≤ l.length by omega)
  | m + 1, i, _ => gnB_last l c (fun k hk => gnF_up l c m k hk) i l.length (Nat.le_refl _)
theorem gnF_up' (l : List Rng) (c : List Vw) {i : Nat} (hi : i < l.length) {a b : Nat} (h : a ≤ b) : gnF l c a i ≤ gnF l c b i := by
  induction b with
  | zero => obtain rfl : a = 0 := by omega
            exact Int.le_refl _
  | succ b ih =>
    by_cases e : a = b + 1
    · subst e; exact Int.le_refl _
    · exact Int.le_trans (ih (by omega)) (gnF_up l c b i hi)
theorem wg_none (c : List Vw) (a : Int) : wg c a a = 0 := by
  unfold wg
  have : ∀ t, wgA c a a t = 0 := by
    intro t
    induction t with
    | zero => rfl
    | succ t ih =>
      show wgA c a a t + wg1 a a _ = 0
      rw [ih]
      unfold wg1
      rw [if_neg (by omega)]
      rfl
  exact this _
/-- A chain is worth no more than what the reference finds. -/
theorem Dv_gn {l : List Rng} (hs : SrtR l) (c : List Vw) : ∀ (m i : Nat) (Z : List Nat), ChR l (i :: Z) → Z.length ≤ m → ∃ j, i ≤ j ∧ j < l.length ∧ raA l j = raA l i ∧ quA l i ≤ quA l j ∧ Dv l c (i :: Z) ≤ gnF l c m j
  | m, i, [], h, _ => by
    have hi : i < l.length := h
    refine ⟨i, Nat.le_refl _, hi, rfl, Int.le_refl _, Int.le_trans ?_ (gnF_up' l c hi (Nat.zero_le m))⟩
    show quA l i * Wt l c i l.length ≤ wg c (raA l i) 1000000001 * quA l i
    rw [gn_aln]
    exact Int.le_refl _
  | 0, i, k :: r, _, h => by simp at h
  | m + 1, i, k :: r, h, hl => by
    obtain ⟨j, j1, j2, j3, j4, j5⟩ := Dv_gn hs c m k r h.2.2 (by simpa using hl)
    have hk := ChR.lt h.2.2 k (by simp)
    have hi : i < l.length := by have := h.1; omega
    have hq := h.2.1
    show ∃ j, _ ∧ _ ∧ _ ∧ _ ∧ quA l i * Wt l c i k + Dv l c (k :: r) ≤ _
    rw [Wt_lt hk]
    by_cases e : raA l k = raA l i
    · refine ⟨j, by have := h.1; omega, j2, by rw [j3, e], by omega, ?_⟩
      rw [e, wg_none]
      have := gnF_up l c m j j2
      omega
    · refine ⟨i, Nat.le_refl _, hi, rfl, Int.le_refl _, ?_⟩
      have h2 := gnB_ge l c (gnF l c m) (show i < j by have := h.1; omega) (by omega) (show raA l j ≠ raA l i by rw [j3]; exact e) j2
      rw [j3] at h2
      show _ ≤ gnB l c (gnF l c m) i l.length
      rw [Int.mul_comm]
      omega
/-- The reference's best one to begin with. -/
def topG (f : Nat → Int) : Nat → Int × Int
  | 0 => (-1, 0)
  | i + 1 => if 0 < f i ∧ ((topG f i).1 < 0 ∨ (topG f i).2 < f i) then (i, f i) else topG f i
theorem topG_ok (f : Nat → Int) : ∀ n, 0 ≤ (topG f n).2 ∧ (∀ i, i < n → f i ≤ (topG f n).2) ∧ (((topG f n).1 = -1 ∧ (topG f n).2 = 0) ∨ ∃ i, i < n ∧ (topG f n).1 = (i : Int) ∧ (topG f n).2 = f i ∧ 0 < f i)
  | 0 => ⟨Int.le_refl _, fun i hi => absurd hi (Nat.not_lt_zero _), Or.inl ⟨rfl, rfl⟩⟩
  | n + 1 => by
    obtain ⟨h1, h2, h3⟩ := topG_ok f n
    unfold topG
    split
    · rename_i h
      refine ⟨by show 0 ≤ f n; omega, fun i hi => ?_, Or.inr ⟨n, by omega, rfl, rfl, h.1⟩⟩
      show f i ≤ f n
      by_cases e : i = n
      · subst e; exact Int.le_refl _
      · have := h2 i (by omega)
        rcases h3 with ⟨h3, h4⟩ | ⟨j, hj, h3, h4, h5⟩
        · omega
        · rcases h.2 with h6 | h6 <;> omega
    · rename_i h
      refine ⟨h1, fun i hi => ?_, ?_⟩
      · by_cases e : i = n
        · subst e
          rcases h3 with ⟨h3, h4⟩ | ⟨j, hj, h3, h4, h5⟩
          · by_cases h7 : 0 < f i
            · exact absurd ⟨h7, Or.inl (by omega)⟩ h
            · omega
          · by_cases h7 : 0 < f i
            · by_cases h8 : (topG f i).2 < f i
              · exact absurd ⟨h7, Or.inr h8⟩ h
              · omega
            · omega
        · exact h2 i (by omega)
      · rcases h3 with h3 | ⟨i, a, b⟩
        · exact Or.inl h3
        · exact Or.inr ⟨i, by omega, b⟩
def rfN (l : List Rng) (c : List Vw) (R : Nat) : Int := if R = 0 then 0 else (topG (gnF l c (R - 1)) l.length).2
theorem chain_len {l : List Rng} : ∀ {X : List Nat}, ChR l X → ∀ a, (∀ i, i ∈ X → a ≤ i) → X.length + a ≤ l.length ∨ X = []
  | [], _, _, _ => Or.inr rfl
  | i :: r, h, a, ha => by
    left
    have hi := ha i (by simp)
    have hl := ChR.lt h i (by simp)
    rcases chain_len h.tail (i + 1) (fun k hk => (ChR.head h k hk).1) with h2 | rfl
    · simp only [List.length_cons]; omega
    · simp only [List.length_cons, List.length_nil]; omega
theorem layF_up (l : List Rng) (c : List Vw) {i : Nat} (hi : i < l.length) {a b : Nat} (h : a ≤ b) : (layF l c a i).wo ≤ (layF l c b i).wo := by
  obtain ⟨g1, g2, g3, g4⟩ := pathR_ok l c a i hi
  rw [← g4]
  obtain ⟨t, ht⟩ : ∃ t, pathR l c a i = i :: t := by
    cases hp : pathR l c a i with
    | nil => rw [hp] at g2; cases g2
    | cons x t => rw [hp] at g2; simp at g2; exact ⟨t, by rw [g2]⟩
  rw [ht] at g1 g3 ⊢
  exact Dv_le l c b i t g1 (by simp at g3; omega)
/-- Both find the same. -/
theorem rfN_al {l : List Rng} (hs : SrtR l) (c : List Vw) (m : Nat) : rfN l c (min m l.length) = alN l c m := by
  unfold rfN
  by_cases h0 : min m l.length = 0
  · rw [if_pos h0]
    obtain ⟨a1, a2, a3⟩ := alP_ok l c m
    rw [← a3]
    rcases chain_len a1 0 (fun i _ => Nat.zero_le i) with h | h
    · have : alP l c m = [] := List.length_eq_zero_iff.1 (by omega)
      rw [this]; rfl
    · rw [h]; rfl
  · rw [if_neg h0]
    obtain ⟨t1, t2, t3⟩ := topG_ok (gnF l c (min m l.length - 1)) l.length
    refine Int.le_antisymm ?_ ?_
    · have hm : ¬ m = 0 := by omega
      unfold alN
      rw [if_neg hm]
      obtain ⟨s1, s2, _⟩ := topA_ok (layF l c (m - 1)) l.length
      rcases t3 with ⟨_, h⟩ | ⟨i, hi, _, h, _⟩
      · omega
      · rw [h]
        exact Int.le_trans (gnF_le l c _ i hi) (Int.le_trans (layF_up l c hi (by omega)) (s2 i hi))
    · obtain ⟨a1, a2, a3⟩ := alP_ok l c m
      rw [← a3]
      cases hp : alP l c m with
      | nil => exact t1
      | cons i Z =>
        rw [hp] at a1 a2
        have hlen : (i :: Z).length ≤ l.length := by
          rcases chain_len a1 0 (fun i _ => Nat.zero_le i) with h | h
          · omega
          · cases h
        obtain ⟨j, _, j2, _, _, j5⟩ := Dv_gn hs c (min m l.length - 1) i Z a1 (by simp at a2 hlen; omega)
        exact Int.le_trans j5 (t2 j j2)
end Go.Proofs.Ytfkmdojnkdoffaa

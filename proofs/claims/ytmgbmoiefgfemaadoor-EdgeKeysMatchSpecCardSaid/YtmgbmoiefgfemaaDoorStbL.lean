/- slices.SortStableFunc as plain functions on lists, and that it sorts stably: plain. -/
import Derived.Test.YtmgbmoiefgfemaaDoorLib
namespace Go.Proofs.YtmgbmoiefgfemaaDoor
open Go.RowKit
set_option linter.unusedSectionVars false

section
variable {α : Type} [Inhabited α]

/-- Two elements change places. -/
def swL (l : List α) (i j : Nat) : List α := (l.set i (l.getD j default)).set j (l.getD i default)
/-- The first n exchanges of two rows. -/
def swR (l : List α) (a b : Nat) : Nat → List α
  | 0 => l
  | i + 1 => swL (swR l a b i) (a + i) (b + i)
/-- i to the left of m and j to the right of it are still to change sides. -/
def rotR (m : Nat) : Nat → Nat → Nat → List α → List α
  | 0 => fun _ _ d => d
  | g + 1 => fun i j d => if i = j then swR d (m - i) m i else if j < i then rotR m g (i - j) j (swR d (m - i) m j) else rotR m g i (j - i) (swR d (m - i) (m + j - i) i)
/-- The first place from i on at which p does not hold, looked for by halves below j. -/
def bsR (p : Nat → Bool) : Nat → Nat → Nat → Nat
  | 0 => fun i _ => i
  | g + 1 => fun i j => if i < j then (if p ((i + j) / 2) = true then bsR p g ((i + j) / 2 + 1) j else bsR p g i ((i + j) / 2)) else i
/-- An element goes up n places; down n places. -/
def upR (d : List α) (a : Nat) : Nat → List α
  | 0 => d
  | n + 1 => swL (upR d a n) (a + n) (a + n + 1)
def dnR (d : List α) (m : Nat) : Nat → List α
  | 0 => d
  | n + 1 => swL (dnR d m n) (m - n) (m - n - 1)
def at_ (d : List α) (i : Nat) : α := d.getD i default
/-- Where the middle is cut. -/
def cutR (lt : α → α → Bool) (d : List α) (a m b : Nat) : Nat :=
  bsR (fun c => !lt (at_ d ((a + b) / 2 + m - 1 - c)) (at_ d c)) (b - a) (if (a + b) / 2 < m then (a + b) / 2 + m - b else a) (if (a + b) / 2 < m then (a + b) / 2 else m)
def symR (lt : α → α → Bool) : Nat → Nat → Nat → Nat → List α → List α
  | 0 => fun _ _ _ d => d
  | g + 1 => fun a m b d =>
    if m - a = 1 then upR d a (bsR (fun h => lt (at_ d h) (at_ d a)) (b - a) m b - 1 - a)
    else if b - m = 1 then dnR d m (m - bsR (fun h => !lt (at_ d m) (at_ d h)) (b - a) a m)
    else
      let s := cutR lt d a m b
      let e := (a + b) / 2 + m - s
      let d1 := if s < m ∧ m < e then rotR m (e - s) (m - s) (e - m) d else d
      let d2 := if a < s ∧ s < (a + b) / 2 then symR lt g a s ((a + b) / 2) d1 else d1
      if (a + b) / 2 < e ∧ e < b then symR lt g ((a + b) / 2) e b d2 else d2

theorem bsR_bd (p : Nat → Bool) : ∀ g i j, i ≤ j → i ≤ bsR p g i j ∧ bsR p g i j ≤ j
  | 0, i, j, h => ⟨Nat.le_refl _, h⟩
  | g + 1, i, j, h => by
    unfold bsR
    split
    · split
      · have := bsR_bd p g ((i + j) / 2 + 1) j (by omega)
        omega
      · have := bsR_bd p g i ((i + j) / 2) (by omega)
        omega
    · omega
/-- Below the place p holds, from it on it does not. -/
theorem bsR_ok {p : Nat → Bool} : ∀ {g i j : Nat}, i ≤ j → j - i ≤ g → (∀ a b, i ≤ a → a ≤ b → b < j → p b = true → p a = true) →
    (∀ h, i ≤ h → h < bsR p g i j → p h = true) ∧ (∀ h, bsR p g i j ≤ h → h < j → p h = false)
  | 0, i, j, h, hg, _ => ⟨fun k h1 h2 => by simp [bsR] at h2; omega, fun k h1 h2 => by simp [bsR] at h1; omega⟩
  | g + 1, i, j, h, hg, hm => by
    unfold bsR
    by_cases hij : i < j
    · rw [if_pos hij]
      by_cases hp : p ((i + j) / 2) = true
      · rw [if_pos hp]
        have hb := bsR_bd p g ((i + j) / 2 + 1) j (by omega)
        obtain ⟨h1, h2⟩ := bsR_ok (p := p) (g := g) (i := (i + j) / 2 + 1) (j := j) (by omega) (by omega) (fun a b ha hab hb hpb => hm a b (by omega) hab hb hpb)
        refine ⟨fun k hk1 hk2 => ?_, h2⟩
        by_cases hk : (i + j) / 2 + 1 ≤ k
        · exact h1 k hk hk2
        · exact hm k ((i + j) / 2) hk1 (by omega) (by omega) hp
      · rw [if_neg hp]
        have hb := bsR_bd p g i ((i + j) / 2) (by omega)
        obtain ⟨h1, h2⟩ := bsR_ok (p := p) (g := g) (i := i) (j := (i + j) / 2) (by omega) (by omega) (fun a b ha hab hb hpb => hm a b ha hab (by omega) hpb)
        refine ⟨h1, fun k hk1 hk2 => ?_⟩
        by_cases hk : k < (i + j) / 2
        · exact h2 k hk1 hk
        · cases hpk : p k
          · rfl
          · exact absurd (hm ((i + j) / 2) k (by omega) (by omega) hk2 hpk) hp
    · rw [if_neg hij]
      exact ⟨fun k h1 h2 => by omega, fun k h1 h2 => by omega⟩

theorem at_app (P : List α) (x : α) (Z : List α) : at_ (P ++ x :: Z) P.length = x := by
  unfold at_
  rw [List.getD_eq_getElem?_getD, List.getElem?_append_right (Nat.le_refl _), Nat.sub_self]
  rfl
theorem at_app' {P : List α} {x : α} {Z : List α} {n : Nat} (h : n = P.length) : at_ (P ++ x :: Z) n = x := by rw [h]; exact at_app P x Z
theorem swL_app (X : List α) (x : α) (Y : List α) (y : α) (Z : List α) : swL (X ++ x :: (Y ++ y :: Z)) X.length (X.length + 1 + Y.length) = X ++ y :: (Y ++ x :: Z) := by
  have h1 : (X ++ x :: (Y ++ y :: Z)).getD X.length default = x := at_app X x _
  have h2 : (X ++ x :: (Y ++ y :: Z)).getD (X.length + 1 + Y.length) default = y := by
    have := at_app (X ++ x :: Y) y Z
    unfold at_ at this
    rw [show X ++ x :: (Y ++ y :: Z) = (X ++ x :: Y) ++ y :: Z by simp, show X.length + 1 + Y.length = (X ++ x :: Y).length by simp; omega]
    exact this
  unfold swL
  rw [h1, h2, List.set_append_right _ _ (Nat.le_refl _), Nat.sub_self, List.set_cons_zero, show X ++ y :: (Y ++ y :: Z) = (X ++ y :: Y) ++ y :: Z by simp, List.set_append_right _ _ (by simp; omega)]
  rw [show X.length + 1 + Y.length - (X ++ y :: Y).length = 0 by simp; omega, List.set_cons_zero]
  simp
theorem swL_app' {X Y Z : List α} {x y : α} {i j : Nat} (hi : i = X.length) (hj : j = X.length + 1 + Y.length) : swL (X ++ x :: (Y ++ y :: Z)) i j = X ++ y :: (Y ++ x :: Z) := by rw [hi, hj]; exact swL_app X x Y y Z
theorem swL_down' {X Y Z : List α} {x y : α} {i j : Nat} (hj : j = X.length) (hi : i = X.length + 1 + Y.length) : swL (X ++ x :: (Y ++ y :: Z)) i j = X ++ y :: (Y ++ x :: Z) := by
  have h1 : (X ++ x :: (Y ++ y :: Z)).getD X.length default = x := at_app X x _
  have h2 : (X ++ x :: (Y ++ y :: Z)).getD (X.length + 1 + Y.length) default = y := by
    have := at_app (X ++ x :: Y) y Z
    unfold at_ at this
    rw [show X ++ x :: (Y ++ y :: Z) = (X ++ x :: Y) ++ y :: Z by simp, show X.length + 1 + Y.length = (X ++ x :: Y).length by simp; omega]
    exact this
  rw [← swL_app X x Y y Z]
  unfold swL
  rw [hi, hj, h1, h2, List.set_comm _ _ (by omega)]
theorem swL_len (l : List α) (i j : Nat) : (swL l i j).length = l.length := by simp [swL]
theorem swR_len (l : List α) (a b : Nat) : ∀ n, (swR l a b n).length = l.length
  | 0 => rfl
  | n + 1 => by
    show (swL _ _ _).length = _
    rw [swL_len, swR_len l a b n]
theorem snoc_of {n : Nat} {A : List α} (h : A.length = n + 1) : ∃ A' x, A = A' ++ [x] ∧ A'.length = n := by
  have hne : A ≠ [] := fun e => by rw [e] at h; simp at h
  exact ⟨A.dropLast, A.getLast hne, (List.dropLast_concat_getLast hne).symm, by rw [List.length_dropLast]; omega⟩
theorem swR_app (P : List α) : ∀ (n : Nat) (A B S : List α) (M : List α), A.length = n → B.length = n → swR (P ++ (A ++ (M ++ (B ++ S)))) P.length (P.length + n + M.length) n = P ++ (B ++ (M ++ (A ++ S)))
  | 0, A, B, S, M, hA, hB => by
    obtain rfl := List.length_eq_zero_iff.1 hA
    obtain rfl := List.length_eq_zero_iff.1 hB
    rfl
  | n + 1, A, B, S, M, hA, hB => by
    obtain ⟨A', x, rfl, hA'⟩ := snoc_of hA
    obtain ⟨B', y, rfl, hB'⟩ := snoc_of hB
    have ih := swR_app P n A' B' (y :: S) (x :: M) hA' hB'
    show swL (swR _ _ _ n) _ _ = _
    rw [show P ++ (A' ++ [x] ++ (M ++ (B' ++ [y] ++ S))) = P ++ (A' ++ (x :: M ++ (B' ++ y :: S))) by simp, show P.length + (n + 1) + M.length = P.length + n + (x :: M).length by simp; omega, ih,
      show P ++ (B' ++ (x :: M ++ (A' ++ y :: S))) = (P ++ B') ++ x :: ((M ++ A') ++ y :: S) by simp]
    rw [swL_app' (by simp; omega) (by simp; omega)]
    simp
theorem swR_at {P A M B S : List α} {a b n : Nat} (ha : a = P.length) (hb : b = P.length + n + M.length) (hA : A.length = n) (hB : B.length = n) : swR (P ++ (A ++ (M ++ (B ++ S)))) a b n = P ++ (B ++ (M ++ (A ++ S))) := by
  rw [ha, hb]; exact swR_app P n A B S M hA hB
theorem split_at (A : List α) (n : Nat) (h : n ≤ A.length) : ∃ A1 A2, A = A1 ++ A2 ∧ A1.length = n := ⟨A.take n, A.drop n, (List.take_append_drop n A).symm, by rw [List.length_take]; omega⟩
theorem rotR_app : ∀ (g : Nat) (P A B S : List α) (m i j : Nat), i + j ≤ g → i = A.length → j = B.length → 0 < i → 0 < j → m = P.length + i → rotR m g i j (P ++ (A ++ (B ++ S))) = P ++ (B ++ (A ++ S))
  | 0, P, A, B, S, m, i, j, hg, hi, hj, hi0, hj0, hm => by omega
  | g + 1, P, A, B, S, m, i, j, hg, hi, hj, hi0, hj0, hm => by
    unfold rotR
    by_cases hij : i = j
    · rw [if_pos hij]
      have := swR_at (P := P) (A := A) (M := []) (B := B) (S := S) (a := m - i) (b := m) (n := i) (by omega) (by simp; omega) hi.symm (by omega)
      simpa using this
    rw [if_neg hij]
    by_cases hlt : j < i
    · rw [if_pos hlt]
      obtain ⟨A1, A2, rfl, hA1⟩ := split_at A j (by omega)
      rw [List.length_append] at hi
      have h1 := swR_at (P := P) (A := A1) (M := A2) (B := B) (S := S) (a := m - i) (b := m) (n := j) (by omega) (by omega) hA1 hj.symm
      rw [show P ++ (A1 ++ A2 ++ (B ++ S)) = P ++ (A1 ++ (A2 ++ (B ++ S))) by simp, h1]
      have h2 := rotR_app g (P ++ B) A2 A1 S m (i - j) j (by omega) (by omega) hA1.symm (by omega) hj0 (by rw [List.length_append]; omega)
      rw [show P ++ (B ++ (A2 ++ (A1 ++ S))) = (P ++ B) ++ (A2 ++ (A1 ++ S)) by simp, h2]
      simp
    · rw [if_neg hlt]
      obtain ⟨B1, B2, rfl, hB1⟩ := split_at B (j - i) (by omega)
      rw [List.length_append] at hj
      have h1 := swR_at (P := P) (A := A) (M := B1) (B := B2) (S := S) (a := m - i) (b := m + j - i) (n := i) (by omega) (by omega) hi.symm (by omega)
      rw [show P ++ (A ++ (B1 ++ B2 ++ S)) = P ++ (A ++ (B1 ++ (B2 ++ S))) by simp, h1]
      have h2 := rotR_app g P B2 B1 (A ++ S) m i (j - i) (by omega) (by omega) (by omega) hi0 (by omega) hm
      rw [h2]
      simp
theorem rotR_len (m : Nat) : ∀ g i j (d : List α), (rotR m g i j d).length = d.length
  | 0, _, _, _ => rfl
  | g + 1, i, j, d => by
    unfold rotR
    split
    · rw [swR_len]
    · split
      · rw [rotR_len m g, swR_len]
      · rw [rotR_len m g, swR_len]
theorem upR_app (P : List α) (x : α) : ∀ (n : Nat) (R Z : List α), R.length = n → upR (P ++ x :: (R ++ Z)) P.length n = P ++ (R ++ x :: Z)
  | 0, R, Z, h => by
    obtain rfl := List.length_eq_zero_iff.1 h
    rfl
  | n + 1, R, Z, h => by
    obtain ⟨R', y, rfl, hR⟩ := snoc_of h
    have ih := upR_app P x n R' (y :: Z) hR
    show swL (upR _ _ n) _ _ = _
    rw [show P ++ x :: (R' ++ [y] ++ Z) = P ++ x :: (R' ++ y :: Z) by simp, ih, show P ++ (R' ++ x :: y :: Z) = (P ++ R') ++ x :: ([] ++ y :: Z) by simp, swL_app' (by simp; omega) (by simp; omega)]
    simp
theorem dnR_app (P : List α) (y : α) : ∀ (n : Nat) (L Z : List α) (m : Nat), L.length = n → m = P.length + n → dnR (P ++ (L ++ y :: Z)) m n = P ++ y :: (L ++ Z)
  | 0, L, Z, m, h, hm => by
    obtain rfl := List.length_eq_zero_iff.1 h
    rfl
  | n + 1, L, Z, m, h, hm => by
    cases L with
    | nil => simp at h
    | cons x L' =>
      simp only [List.length_cons] at h
      have ih := dnR_app (P ++ [x]) y n L' Z m (by omega) (by simp; omega)
      show swL (dnR _ _ n) _ _ = _
      rw [show P ++ (x :: L' ++ y :: Z) = P ++ [x] ++ (L' ++ y :: Z) by simp, ih, show P ++ [x] ++ y :: (L' ++ Z) = P ++ x :: ([] ++ y :: (L' ++ Z)) by simp, swL_down' (by omega) (by simp; omega)]
      simp
theorem upR_len (d : List α) (a : Nat) : ∀ n, (upR d a n).length = d.length
  | 0 => rfl
  | n + 1 => by
    show (swL _ _ _).length = _
    rw [swL_len, upR_len d a n]
theorem dnR_len (d : List α) (m : Nat) : ∀ n, (dnR d m n).length = d.length
  | 0 => rfl
  | n + 1 => by
    show (swL _ _ _).length = _
    rw [swL_len, dnR_len d m n]
theorem symR_len (lt : α → α → Bool) : ∀ g a m b (d : List α), (symR lt g a m b d).length = d.length
  | 0, _, _, _, _ => rfl
  | g + 1, a, m, b, d => by
    unfold symR
    split
    · rw [upR_len]
    · split
      · rw [dnR_len]
      · have ih := symR_len lt g
        simp only
        split <;> split <;> split <;> simp only [ih, rotR_len]
end
end Go.Proofs.YtmgbmoiefgfemaaDoor

/- Choices of renditions: which is better, and the best one; plain. -/
import Derived.Test.YtfkmdojnkdoffaaBoth
namespace Go.Proofs.Ytfkmdojnkdoffaa
open Go.RowKit

/-- The renditions with some numbers. -/
def selR (l : List Rng) (L : List Int) : List Rng := L.map fun k => l.getD k.toNat default
/-- Does a choice come before another one? f: what a choice is worth. -/
def btW (f : List Int → Int) (A B : List Int) : Bool := decide (f B < f A) || ((f A == f B) && (decide (A.length < B.length) || ((A.length == B.length) && decide (A < B))))
theorem btW_iff (f : List Int → Int) (A B : List Int) : btW f A B = true ↔ f B < f A ∨ (f A = f B ∧ (A.length < B.length ∨ (A.length = B.length ∧ A < B))) := by
  unfold btW
  simp only [Bool.or_eq_true, Bool.and_eq_true, decide_eq_true_eq, beq_iff_eq]
theorem btW_irr (f : List Int → Int) (A : List Int) : btW f A A = false := by
  rw [Bool.eq_false_iff]
  intro h
  rw [btW_iff] at h
  rcases h with h | ⟨_, h | ⟨_, h⟩⟩
  · omega
  · omega
  · exact List.lt_irrefl _ h
theorem btW_trans {f : List Int → Int} {A B C : List Int} (h : btW f A B = true) (k : btW f B C = true) : btW f A C = true := by
  rw [btW_iff] at *
  rcases h with h | ⟨h0, h | ⟨h1, h⟩⟩ <;> rcases k with k | ⟨k0, k | ⟨k1, k⟩⟩
  case inr.inr.inr.inr => exact .inr ⟨by omega, .inr ⟨by omega, List.lt_trans h k⟩⟩
  all_goals first | (left; omega) | (right; refine ⟨by omega, ?_⟩; left; omega)
theorem btW_total {f : List Int → Int} {A B : List Int} (h : btW f A B = false) (k : btW f B A = false) : A = B := by
  rw [Bool.eq_false_iff] at h k
  have h' := fun x => h ((btW_iff f A B).2 x)
  have k' := fun x => k ((btW_iff f B A).2 x)
  have e1 : f A = f B := by
    apply Int.le_antisymm
    · exact Int.not_lt.1 fun x => h' (.inl x)
    · exact Int.not_lt.1 fun x => k' (.inl x)
  have e3 : A.length = B.length := by
    apply Nat.le_antisymm
    · exact Nat.not_lt.1 fun x => k' (.inr ⟨e1.symm, .inl x⟩)
    · exact Nat.not_lt.1 fun x => h' (.inr ⟨e1, .inl x⟩)
  have e4 : ¬ A < B := fun x => h' (.inr ⟨e1, .inr ⟨e3, x⟩⟩)
  have e5 : ¬ B < A := fun x => k' (.inr ⟨e1.symm, .inr ⟨e3.symm, x⟩⟩)
  exact Std.le_antisymm (List.not_lt.1 e5) (List.not_lt.1 e4)

/-- The better of a choice and another one. -/
def upW (f : List Int → Int) (B B' : List Int) : Prop := B' = B ∨ btW f B' B = true
theorem upW.refl (f : List Int → Int) (B : List Int) : upW f B B := .inl rfl
theorem upW.trans {f : List Int → Int} {A B C : List Int} (h : upW f A B) (k : upW f B C) : upW f A C := by
  rcases k with rfl | k
  · exact h
  · rcases h with rfl | h
    · exact .inr k
    · exact .inr (btW_trans k h)
theorem upW.no {f : List Int → Int} {X B B' : List Int} (h : upW f B B') (hx : btW f X B = false) : btW f X B' = false := by
  rcases h with rfl | h
  · exact hx
  · rw [Bool.eq_false_iff] at hx ⊢
    exact fun k => hx (btW_trans k h)

/-- At most m numbers below n that rise. -/
structure okW (n m : Nat) (L : List Int) : Prop where
  rng : ∀ k, k ∈ L → 0 ≤ k ∧ k < n
  inc : L.Pairwise (· < ·)
  len : L.length ≤ m
theorem okW.pre {n m : Nat} {L R : List Int} (h : okW n m (L ++ R)) : okW n m L := by
  obtain ⟨h1, h2, h3⟩ := h
  exact ⟨fun k hk => h1 k (List.mem_append_left _ hk), (List.pairwise_append.1 h2).1, by simp at h3; omega⟩
/-- A choice that is the best of all. -/
def bestW (f : List Int → Int) (n m : Nat) (B : List Int) : Prop := okW n m B ∧ ∀ X, okW n m X → btW f X B = false
theorem bestW.one {f : List Int → Int} {n m : Nat} {A B : List Int} (h : bestW f n m A) (k : bestW f n m B) : A = B := btW_total (k.2 A h.1) (h.2 B k.1)

def covW (f : List Int → Int) (n m : Nat) (P : List Int) (i : Int) (B : List Int) : Prop := ∀ R, okW n m (P ++ R) → (∀ r, r ∈ R → i ≤ r) → btW f (P ++ R) B = false
theorem covW.up {f : List Int → Int} {n m : Nat} {P : List Int} {i : Int} {B B' : List Int} (h : covW f n m P i B) (k : upW f B B') : covW f n m P i B' := fun R h1 h2 => k.no (h R h1 h2)
def covTo (f : List Int → Int) (n m : Nat) (P : List Int) (i k : Int) (B : List Int) : Prop := ∀ R, okW n m (P ++ R) → (∀ r, r ∈ R → i ≤ r) → (∀ r, R.head? = some r → r < k) → btW f (P ++ R) B = false
theorem covTo.up {f : List Int → Int} {n m : Nat} {P : List Int} {i k : Int} {B B' : List Int} (h : covTo f n m P i k B) (u : upW f B B') : covTo f n m P i k B' := fun R h1 h2 h3 => u.no (h R h1 h2 h3)
theorem covTo.start {f : List Int → Int} {n m : Nat} {P : List Int} {i : Int} {B : List Int} (h : btW f P B = false) : covTo f n m P i i B := fun R _ h2 h3 => by
  cases R with
  | nil => simpa using h
  | cons r R => have := h2 r (by simp); have := h3 r (by simp); omega
theorem covTo.take {f : List Int → Int} {n m : Nat} {P : List Int} {i k : Int} {B B' : List Int} (h : covTo f n m P i k B) (u : upW f B B') (hc : covW f n m (P ++ [k]) (k + 1) B') : covTo f n m P i (k + 1) B' := fun R h1 h2 h3 => by
  cases R with
  | nil => exact (h.up u) [] h1 h2 (by simp)
  | cons r R =>
    by_cases e : r = k
    · subst e
      have := hc R (by simpa using h1) fun r' hr => by
        have h4 := (List.pairwise_append.1 h1.inc).2.1
        have := (List.pairwise_cons.1 h4).1 r' hr
        omega
      simpa using this
    · exact (h.up u) _ h1 h2 fun r' hr => by
        have := h3 r (by simp)
        simp at hr; omega
theorem covTo.done {f : List Int → Int} {n m : Nat} {P : List Int} {i k : Int} {B : List Int} (h : covTo f n m P i k B) (hk : (n : Int) ≤ k) : covW f n m P i B := fun R h1 h2 => h R h1 h2 fun r hr => by
  have := (h1.rng r (List.mem_append_right _ (List.mem_of_head? hr))).2
  omega
theorem covW.full {f : List Int → Int} {n m : Nat} {P : List Int} {i : Int} {B : List Int} (h : btW f P B = false) (hm : P.length = m) : covW f n m P i B := fun R h1 _ => by
  have h3 := h1.len
  rw [List.length_append] at h3
  obtain rfl : R = [] := List.length_eq_zero_iff.1 (by omega)
  simpa using h
theorem covW.best {f : List Int → Int} {n m : Nat} {B : List Int} (h : covW f n m [] 0 B) (hB : okW n m B) : bestW f n m B := ⟨hB, fun X hX => by
  have := h X (by simpa using hX) fun r hr => (hX.rng r hr).1
  simpa using this⟩
theorem okW_nil (n m : Nat) : okW n m [] := ⟨by simp, .nil, by simp⟩
theorem okW_snoc {n m : Nat} {P : List Int} {k : Int} (h : okW n m P) (hk : 0 ≤ k) (hk2 : k < n) (hlt : ∀ j, j ∈ P → j < k) (hl : P.length + 1 ≤ m) : okW n m (P ++ [k]) := by
  obtain ⟨h1, h2, h3⟩ := h
  refine ⟨fun j hj => ?_, ?_, by simpa using hl⟩
  · rcases List.mem_append.1 hj with h | h
    · exact h1 j h
    · simp at h; subst h; exact ⟨hk, hk2⟩
  · rw [List.pairwise_append]
    exact ⟨h2, by simp, fun a ha b hb => by simp at hb; subst hb; exact hlt a ha⟩
/-- Numbers that rise are no more than there are. -/
theorem inc_len : ∀ (L : List Int) (a n : Int), L.Pairwise (· < ·) → (∀ k, k ∈ L → a ≤ k ∧ k < n) → a ≤ n → (L.length : Int) ≤ n - a
  | [], a, n, _, _, h => by simp; omega
  | x :: r, a, n, hp, hr, _ => by
    have hx := hr x (by simp)
    have h1 := (List.pairwise_cons.1 hp).1
    have := inc_len r (x + 1) n (List.pairwise_cons.1 hp).2 (fun k hk => ⟨by have := h1 k hk; omega, (hr k (by simp [hk])).2⟩) (by omega)
    simp only [List.length_cons, Int.natCast_add, Int.natCast_one]
    omega
theorem okW.cnt {n m : Nat} {L : List Int} (h : okW n m L) : L.length ≤ n := by
  have := inc_len L 0 n h.inc (fun k hk => h.rng k hk) (by omega)
  omega
end Go.Proofs.Ytfkmdojnkdoffaa

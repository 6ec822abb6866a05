/- Choices looked at in their order; plain. -/
import Derived.Test.YtibnbhjiohighaaBstEK
namespace Go.Proofs.Ytibnbhjiohighaa
open Go.RowKit

theorem lt_tri (A B : List Int) : A < B ∨ A = B ∨ B < A := by
  by_cases h1 : A < B
  · exact .inl h1
  by_cases h2 : B < A
  · exact .inr (.inr h2)
  · exact .inr (.inl (Std.le_antisymm (List.not_lt.1 h2) (List.not_lt.1 h1)))
/-- All choices of fewer numbers, and those before C, have been looked at, and B is the best of them. -/
def VisW (f : List Int → Int) (n N : Nat) (C B : List Int) : Prop := okW n N B ∧ (∀ X, okW n N X → (X.length < N ∨ X < C) → btW f X B = false) ∧ (B.length < N ∨ (B.length = N ∧ B < C))
def VisE (f : List Int → Int) (n N : Nat) (C B : List Int) : Prop := okW n N B ∧ (∀ X, okW n N X → (X.length < N ∨ X < C ∨ X = C) → btW f X B = false) ∧ (B.length < N ∨ (B.length = N ∧ (B < C ∨ B = C)))
theorem btW_no {f : List Int → Int} {A B : List Int} (h : btW f A B = false) : f A ≤ f B := by
  rw [Bool.eq_false_iff] at h
  exact Int.not_lt.1 fun x => h ((btW_iff f A B).2 (.inl x))
theorem VisW.up {f : List Int → Int} {n N : Nat} {C B : List Int} (h : VisW f n N C B) (hC : okW n N C) (hl : C.length = N) (hf : f B < f C) : VisE f n N C C := by
  obtain ⟨h1, h2, h3⟩ := h
  refine ⟨hC, fun X hX hc => ?_, .inr ⟨hl, .inr rfl⟩⟩
  rcases hc with hc | hc | hc
  · have := btW_no (h2 X hX (.inl hc))
    rw [Bool.eq_false_iff]
    intro hb
    rcases (btW_iff f X C).1 hb with h | ⟨h, _⟩ <;> omega
  · have := btW_no (h2 X hX (.inr hc))
    rw [Bool.eq_false_iff]
    intro hb
    rcases (btW_iff f X C).1 hb with h | ⟨h, _⟩ <;> omega
  · rw [hc]
    exact btW_irr f C
theorem VisW.stay {f : List Int → Int} {n N : Nat} {C B : List Int} (h : VisW f n N C B) (hl : C.length = N) (hf : ¬ f B < f C) : VisE f n N C B := by
  obtain ⟨h1, h2, h3⟩ := h
  refine ⟨h1, fun X hX hc => ?_, by rcases h3 with h | ⟨h, k⟩; exact .inl h; exact .inr ⟨h, .inl k⟩⟩
  rcases hc with hc | hc | rfl
  · exact h2 X hX (.inl hc)
  · exact h2 X hX (.inr hc)
  · rw [Bool.eq_false_iff]
    intro hb
    rcases (btW_iff f X B).1 hb with h | ⟨h, k⟩
    · exact hf h
    · rcases h3 with h3 | ⟨h3, h4⟩
      · rcases k with k | ⟨k, _⟩ <;> omega
      · rcases k with k | ⟨_, k⟩
        · omega
        · exact List.lt_irrefl _ (List.lt_trans h4 k)
theorem VisE.next {f : List Int → Int} {n N : Nat} {C C' B : List Int} (h : VisE f n N C B) (hl : C.length = N) (hn : Nxt n C C') : VisW f n N C' B := by
  obtain ⟨h1, h2, h3⟩ := h
  refine ⟨h1, fun X hX hc => ?_, ?_⟩
  · by_cases hXl : X.length < N
    · exact h2 X hX (.inl hXl)
    · have hXN : X.length = N := by have := hX.len; omega
      rcases hc with hc | hc
      · exact absurd hc hXl
      · rcases lt_tri X C with h | h | h
        · exact h2 X hX (.inr (.inl h))
        · exact h2 X hX (.inr (.inr h))
        · exact absurd hc (hn.gap hX.inc (fun k hk => (hX.rng k hk).2) (by omega) h)
  · rcases h3 with h | ⟨h, k | k⟩
    · exact .inl h
    · exact .inr ⟨h, List.lt_trans k hn.lt⟩
    · exact .inr ⟨h, by rw [k]; exact hn.lt⟩
theorem VisE.last {f : List Int → Int} {n N : Nat} {C B : List Int} (h : VisE f n N C B) (hl : C.length = N) (hn : ∀ (j : Nat) (c : Int), C[j]? = some c → c = (n : Int) - C.length + j) : bestW f n N B := by
  obtain ⟨h1, h2, _⟩ := h
  refine ⟨h1, fun X hX => ?_⟩
  by_cases hXl : X.length < N
  · exact h2 X hX (.inl hXl)
  · have hXN : X.length = N := by have := hX.len; omega
    rcases lt_tri X C with h | h | h
    · exact h2 X hX (.inr (.inl h))
    · exact h2 X hX (.inr (.inr h))
    · exact absurd h (last_no hn hX.inc (fun k hk => (hX.rng k hk).2) (by omega))
theorem VisW.start {f : List Int → Int} {n N : Nat} {B : List Int} (h : bestW f n N B) : VisW f n (N + 1) (firstL (N + 1)) B := by
  obtain ⟨h1, h2⟩ := h
  refine ⟨⟨h1.rng, h1.inc, by have := h1.len; omega⟩, fun X hX hc => ?_, .inl (by have := h1.len; omega)⟩
  by_cases hXl : X.length < N + 1
  · exact h2 X ⟨hX.rng, hX.inc, by omega⟩
  · have hXN : X.length = N + 1 := by have := hX.len; omega
    rcases hc with hc | hc
    · exact absurd hc hXl
    · exact absurd hc (firstL_le hX.inc (fun k hk => (hX.rng k hk).1) hXN)
theorem bestW_zero (f : List Int → Int) (n : Nat) : bestW f n 0 [] := ⟨okW_nil n 0, fun X hX => by
  obtain rfl : X = [] := List.length_eq_zero_iff.1 (by have := hX.len; omega)
  exact btW_irr f []⟩
theorem bestW_min {f : List Int → Int} {n m : Nat} {B : List Int} (h : bestW f n (min m n) B) : bestW f n m B :=
  ⟨⟨h.1.rng, h.1.inc, by have := h.1.len; omega⟩, fun X hX => h.2 X ⟨hX.rng, hX.inc, by have := hX.len; have := hX.cnt; omega⟩⟩
end Go.Proofs.Ytibnbhjiohighaa

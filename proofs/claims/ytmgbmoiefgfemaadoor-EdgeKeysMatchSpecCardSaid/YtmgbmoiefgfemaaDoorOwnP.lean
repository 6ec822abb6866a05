/- A slice that the call has built: its form, its block. -/
import Derived.Test.YtmgbmoiefgfemaaDoorLib
namespace Go.Proofs.YtmgbmoiefgfemaaDoor
open Go.RowKit

theorem Own.rebase {α : Type} {w : World} {base b2 : Nat} {E : TypeId} {k : Nat} {enc : α → List Value} {v : Value} {l : List α} (h : Own w base E k enc v l) (hb : b2 ≤ base) : Own w b2 E k enc v l := by
  obtain ⟨q1, q2⟩ := h
  refine ⟨q1, ?_⟩
  rcases q2 with q2 | ⟨g, cap, cur, e1, e2, r⟩
  · exact Or.inl q2
  · exact Or.inr ⟨g, cap, cur, e1, Nat.le_trans hb e2, r⟩
theorem Own.slw {α : Type} {w : World} {base : Nat} {E : TypeId} {k : Nat} {enc : α → List Value} {v : Value} {l : List α} (h : Own w base E k enc v l) : (v = .slice none 0 0 ∧ l = []) ∨ ∃ g cap, v = .slice (some ⟨g, 0, none⟩) l.length cap := by
  obtain ⟨q1, q2⟩ := h
  rcases q2 with ⟨q2, q3⟩ | ⟨g, cap, cur, e1, r⟩
  · exact Or.inl ⟨q2, List.length_eq_zero_iff.1 q3⟩
  · exact Or.inr ⟨g, cap, e1⟩
/-- The elements of a slice that the call has built, in one block. -/
theorem own_parts {α : Type} {w : World} {base : Nat} {E : TypeId} {k : Nat} {enc : α → List Value} {v : Value} {l : List α} (hk : ∀ x, (enc x).length = k) (h : Own w base E k enc v l) :
    ∃ ao cap P, v = .slice ao l.length cap ∧ l.length ≤ cap ∧ cap ≤ maxLen ∧ base ≤ P ∧ ∀ i x, l[i]? = some x → ao = some ⟨P, 0, none⟩ ∧ P < w.heap.size ∧ ∀ j u, (enc x)[j]? = some u → w.cell? ⟨P, i * k + j, none⟩ = some u := by
  by_cases hne : l = []
  · subst hne
    rcases Own.slw h with ⟨rfl, _⟩ | ⟨g, cap, rfl⟩
    · exact ⟨none, 0, base, rfl, by simp, by simp [maxLen], Nat.le_refl _, fun i x hx => by simp at hx⟩
    · obtain ⟨h1, h2⟩ := h
      rcases h2 with ⟨h2, _⟩ | ⟨g', cap', cur, hv, hg, hh, hn, hm, _⟩
      · cases h2
      · simp only [Value.slice.injEq, Option.some.injEq, Addr.mk.injEq, and_true, true_and] at hv
        obtain ⟨rfl, rfl⟩ := hv
        exact ⟨_, cap, g, rfl, hn, hm, hg, fun i x hx => by simp at hx⟩
  · obtain ⟨g, cap, rfl, h1, h2, h3, h4, h5, _⟩ := Own.getk hk h hne
    exact ⟨_, cap, g, rfl, h3, h4, h1, fun i x hx => ⟨rfl, h2, fun j u hu => h5 i x j u hx hu⟩⟩
end Go.Proofs.YtmgbmoiefgfemaaDoor

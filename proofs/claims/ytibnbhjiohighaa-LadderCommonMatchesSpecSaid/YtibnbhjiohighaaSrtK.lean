/- slices.Sort and slices.Compact of ints that the call owns. -/
import Derived.Test.YtibnbhjiohighaaBstFK
import Derived.Test.YtibnbhjiohighaaCmpcK
import Derived.Ground.NamesProg
import Derived.Ground.Names2Prog
import Derived.Shelf.Lay
import Derived.Shelf.Slices.In.SortNone
namespace Go.Proofs
open Go.Shelf
shelf_lay Lays.n189 Nm 189 at Try as Try.laysSort
shelf_lay Lays2.n20 Nm2 20 at Try as Try.laysCompact
end Go.Proofs

namespace Go.Proofs.Ytibnbhjiohighaa
open Go.RowKit Go.Shelf Go.Sort

theorem flatI (L : List Int) : L.flatMap encI = L.map (Value.int .i64) := by
  induction L with
  | nil => rfl
  | cons x r ih => rw [List.flatMap_cons, ih]; rfl
theorem holdsI {w : World} {base g cap : Nat} {L : List Int} (h : Own w base 3 1 encI (.slice (some ⟨g, 0, none⟩) L.length cap) L) : Holds (Value.int .i64) w g 0 L.toArray := by
  obtain ⟨_, h2⟩ := h
  rcases h2 with ⟨h2, _⟩ | ⟨g', cap', cur, hv, hg, hh, hn, hm, hs, ht⟩
  · cases h2
  · simp only [Value.slice.injEq, Option.some.injEq, Addr.mk.injEq, and_true] at hv
    obtain ⟨rfl, _, rfl⟩ := hv
    rw [Nat.mul_one, flatI] at ht
    exact holds_of_blockI hh ht

/-- slices.Sort of what the call owns. -/
theorem sort_own (w : World) (base g cap : Nat) (L : List Int) (h : Own w base 3 1 encI (.slice (some ⟨g, 0, none⟩) L.length cap) L) (hb : base ≤ w.heap.size) (hn : L.length ≤ 10000) :
    Calls Try.prog 16 #[.slice (some ⟨g, 0, none⟩) L.length cap] w fun e w' => e = .returned (.tuple #[]) ∧ Own w' base 3 1 encI (.slice (some ⟨g, 0, none⟩) L.length cap) (sortI L) ∧ Below base w w' := by
  have hlt := World.ownsRow.lt h g rfl
  have hlen := sortI_len L
  refine (Any.slices_Sort_int Try.laysSort g 0 cap L w (holdsI h) hlt.2 (by omega)).mono ?_
  rintro e w' ⟨rfl, nn, os, rfl⟩
  refine ⟨rfl, ?_, Below.grown (Below.refl base w) (grownBy_sortedI _) hb (fun k hk => by cases hk; exact hlt.1)⟩
  obtain ⟨_, h2⟩ := h
  rcases h2 with ⟨h2, _⟩ | ⟨g', cap', cur, hv, hg, hh, hn', hm, hs, ht⟩
  · cases h2
  · simp only [Value.slice.injEq, Option.some.injEq, Addr.mk.injEq, and_true] at hv
    obtain ⟨rfl, _, rfl⟩ := hv
    have := ownsRow_sortedI (n := nn) (os := os) (ts := sortI L) hlen hg hh hn' hm hs
    unfold Own
    rw [flatI, hlen]
    exact this
/-- slices.Compact of what the call owns. -/
theorem compact_own (w : World) (base g cap : Nat) (L : List Int) (h : Own w base 3 1 encI (.slice (some ⟨g, 0, none⟩) L.length cap) L) (hc : L.length ≤ cap) (hn : L.length ≤ 10000) :
    Calls Try.prog 17 #[.slice (some ⟨g, 0, none⟩) L.length cap] w fun e w' => e = .returned (.slice (some ⟨g, 0, none⟩) (Lib.compact L).length cap) ∧ Own w' base 3 1 encI (.slice (some ⟨g, 0, none⟩) (Lib.compact L).length cap) (Lib.compact L) ∧ Below base w w' := by
  have hlt := World.ownsRow.lt h g rfl
  have hle := cpt_len L
  refine (Any.slices_Compact_int Try.laysCompact g 0 cap L w (holdsI h) (by omega) hc).mono ?_
  rintro e w' ⟨rfl, q, rfl⟩
  have h' : w.ownsRow base 3 1 (.slice (some ⟨g, 0, none⟩) L.length cap) L.length (L.map (Value.int .i64)) := by
    have := h
    unfold Own at this
    rw [flatI] at this
    exact this
  have hr := Lib.ownsRow_putRow (q := q) (k := (Lib.compact L).length) (ys := Lib.compact L ++ List.replicate (L.length - (Lib.compact L).length) 0) h' (by simp; omega) hle
  rw [List.take_left] at hr
  refine ⟨rfl, ?_, Lib.below_putRow (Below.refl base w) hlt.1⟩
  unfold Own
  rw [flatI]
  exact hr

theorem compact_nil : Lib.compact ([] : List Int) = [] := rfl
theorem sortI_nil : sortI [] = [] := by simp [sortI]
/-- slices.Sort of what the call owns, nil too. -/
theorem sortO (w : World) (base : Nat) (v : Value) (L : List Int) (h : Own w base 3 1 encI v L) (hb : base ≤ w.heap.size) (hn : L.length ≤ 10000) :
    Calls Try.prog 16 #[v] w fun e w' => e = .returned (.tuple #[]) ∧ Own w' base 3 1 encI v (sortI L) ∧ Below base w w' := by
  by_cases hL : L = []
  · subst hL
    obtain ⟨ao, cap, rfl, _⟩ := h.sl encI_len
    exact (Any.slices_Sort_int_none Try.laysSort ao cap w).mono fun e w' ⟨h1, h2⟩ => by
      subst h2
      exact ⟨h1, by rw [sortI_nil]; exact h, Below.refl _ _⟩
  · obtain ⟨g, cap, rfl, _⟩ := Own.getk encI_len h hL
    exact sort_own w base g cap L h hb hn
/-- slices.Compact of what the call owns, nil too. -/
theorem compactO (w : World) (base : Nat) (v : Value) (L : List Int) (h : Own w base 3 1 encI v L) (hn : L.length ≤ 10000) :
    Calls Try.prog 17 #[v] w fun e w' => ∃ v', e = .returned v' ∧ Own w' base 3 1 encI v' (Lib.compact L) ∧ Below base w w' := by
  by_cases hL : L = []
  · subst hL
    obtain ⟨ao, cap, rfl, _⟩ := h.sl encI_len
    exact (Any.slices_Compact_int_empty Try.laysCompact ao cap w).mono fun e w' ⟨h1, h2⟩ => by
      subst h2
      exact ⟨_, h1, by rw [compact_nil]; exact h, Below.refl _ _⟩
  · obtain ⟨g, cap, rfl, _, _, hc, _⟩ := Own.getk encI_len h hL
    exact (compact_own w base g cap L h hc hn).mono fun e w' ⟨h1, h2, h3⟩ => ⟨_, h1, h2, h3⟩
end Go.Proofs.Ytibnbhjiohighaa

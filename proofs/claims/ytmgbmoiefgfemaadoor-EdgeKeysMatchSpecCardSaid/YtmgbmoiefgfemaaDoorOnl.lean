/- One block alone may have changed. -/
import Derived.Test.YtmgbmoiefgfemaaDoorLib
namespace Go.Proofs.YtmgbmoiefgfemaaDoor
open Go.RowKit

/-- Of what was there, block P alone may have changed. -/
def Onl (P : Nat) (w w' : World) : Prop := w.grownBy w' (some P)
theorem Onl.refl (P : Nat) (w : World) : Onl P w w := ⟨rfl, rfl, rfl, Nat.le_refl _, fun _ _ _ => rfl⟩
theorem Onl.size {P : Nat} {a b : World} (h : Onl P a b) : a.heap.size ≤ b.heap.size := World.grownBy.size h
theorem Onl.trans {P : Nat} {a b c : World} (h : Onl P a b) (k : Onl P b c) : Onl P a c :=
  ⟨(World.grownBy.os k).trans (World.grownBy.os h), (World.grownBy.tape k).trans (World.grownBy.tape h), (World.grownBy.output k).trans (World.grownBy.output h), Nat.le_trans h.size k.size, fun i hi hP =>
    (World.grownBy.block k i (Nat.lt_of_lt_of_le hi h.size) hP).trans (World.grownBy.block h i hi hP)⟩
theorem Onl.of_below {P : Nat} {a b : World} (h : Below a.heap.size a b) : Onl P a b := ⟨h.os, h.tape, h.output, h.size, fun i hi _ => h.block i hi⟩
theorem Onl.below {P : Nat} {a b c : World} (h : Onl P a b) (k : Below b.heap.size b c) : Onl P a c := h.trans (.of_below k)
theorem Onl.set (P : Nat) (w : World) (o : Nat) (v : Value) : Onl P w (w.setCell ⟨P, o, none⟩ v) :=
  ⟨rfl, rfl, rfl, by simp, fun i _ hP => Below.heap_setCell w ⟨P, o, none⟩ v i (fun e => hP (by rw [e]))⟩
theorem Onl.block {P : Nat} {a b : World} (h : Onl P a b) {i : Nat} {o : Obj} (hi : a.heap[i]? = some o) (hP : i ≠ P) : b.heap[i]? = some o :=
  (World.grownBy.block h i (Array.getElem?_eq_some_iff.1 hi).1 (fun e => hP (by simpa using e))).trans hi
theorem Onl.toBelow {P B : Nat} {a b : World} (h : Onl P a b) (hB : B ≤ a.heap.size) (hP : B ≤ P) : Below B a b :=
  (Below.refl B a).grown h hB (fun k hk => by simp only [Option.some.injEq] at hk; omega)

/-- A slice that does not lie in block P. -/
def offB (P : Nat) (v : Value) : Prop := ∀ a n c, v = .slice (some a) n c → a.block ≠ P
theorem offB.nil (P : Nat) : offB P (.slice none 0 0) := fun a n c h => by simp at h
theorem offB.mk {P b o n c : Nat} (h : b ≠ P) : offB P (.slice (some ⟨b, o, none⟩) n c) := fun a n c e => by
  simp only [Value.slice.injEq, Option.some.injEq] at e
  obtain ⟨rfl, _⟩ := e
  exact h
theorem Own.offB {α : Type} {w : World} {base P : Nat} {E : TypeId} {k : Nat} {enc : α → List Value} {v : Value} {l : List α} (h : Own w base E k enc v l) (hP : P < base) : offB P v := by
  obtain ⟨_, h2⟩ := h
  rcases h2 with ⟨rfl, _⟩ | ⟨g, cap, cur, rfl, hg, _⟩
  · exact .nil P
  · exact .mk (by omega)
theorem Sl.onl {α : Type} {w w' : World} {P k : Nat} {enc : α → List Value} {v : Value} {l : List α} (h : Sl w k enc v l) (hv : offB P v) (ho : Onl P w w') : Sl w' k enc v l := by
  obtain ⟨ao, cap, rfl, h2, h3, h4, h5⟩ := h
  refine ⟨ao, cap, rfl, h2, h3, h4, fun i x hx => ?_⟩
  obtain ⟨b, off, rfl, hc⟩ := h5 i x hx
  refine ⟨b, off, rfl, fun j u hu => ?_⟩
  have hcell := hc j u hu
  exact (World.grownBy.cell ho hcell (fun e => hv _ _ _ rfl (by simpa using e)))
theorem Sl.onlE {α : Type} {w w' : World} {P k : Nat} {enc : α → List Value} {v : Value} {l : List α} (h : Sl w k enc v l) (hv : l ≠ [] → offB P v) (ho : Onl P w w') : Sl w' k enc v l := by
  by_cases e : l = []
  · subst e
    obtain ⟨ao, cap, rfl, h2, h3, h4, h5⟩ := h
    exact ⟨ao, cap, rfl, h2, h3, h4, fun i x hx => by simp at hx⟩
  · exact h.onl (hv e) ho
/-- A slice with elements lies in what was there. -/
theorem Sl.offE {α : Type} {w : World} {P k : Nat} {enc : α → List Value} {v : Value} {l : List α} (h : Sl w k enc v l) (hk : ∀ x, 0 < (enc x).length) (hP : w.heap.size ≤ P) (hne : l ≠ []) : offB P v := fun a n c hv hb => by
  obtain ⟨ao, cap, h1, _, _, _, hel⟩ := h
  obtain ⟨x, r, rfl⟩ := List.exists_cons_of_ne_nil hne
  obtain ⟨b, off, hao, hc⟩ := hel 0 x rfl
  rw [hv] at h1
  simp only [Value.slice.injEq] at h1
  obtain ⟨h1, _⟩ := h1
  rw [hao] at h1
  simp only [Option.some.injEq] at h1
  have hlt : b < w.heap.size := World.block_lt_of_cell? w _ (hc 0 _ (List.getElem?_eq_getElem (hk x)))
  rw [h1] at hb
  simp at hb
  omega
theorem lt_of_blk {w : World} {i : Nat} {o : Obj} (h : w.heap[i]? = some o) : i < w.heap.size := (Array.getElem?_eq_some_iff.1 h).1
end Go.Proofs.YtmgbmoiefgfemaaDoor

/- Blocks of four cells. -/
import Derived.Test.YtengfdbaebkgeaaDoorLib
namespace Go.Proofs.YtengfdbaebkgeaaDoor
open Go.RowKit

theorem froz_of_blk {w : World} {b i : Nat} {c : Array Value} {T : TypeId} (h : w.heap[b]? = some (.cells c T (0, 0))) : w.frozen? ⟨b, i, none⟩ = false := by simp [World.frozen?, h]
theorem lt_of_blk {w : World} {b : Nat} {o : Obj} (h : w.heap[b]? = some o) : b < w.heap.size := (Array.getElem?_eq_some_iff.1 h).1
/-- A block of four cells. -/
def Bk4 (w : World) (g : Nat) (t : TypeId) (a b c d : Value) : Prop := w.heap[g]? = some (.cells #[a, b, c, d] t (0, 0))
theorem Bk4.lt {w : World} {g : Nat} {t : TypeId} {a b c d : Value} (h : Bk4 w g t a b c d) : g < w.heap.size := lt_of_blk h
theorem Bk4.below {w w' : World} {g B : Nat} {t : TypeId} {a b c d : Value} (h : Bk4 w g t a b c d) (hb : Below B w w') (hB : g < B) : Bk4 w' g t a b c d := (hb.block g hB).trans h
theorem Bk4.cells {w : World} {g : Nat} {t : TypeId} {a b c d : Value} (h : Bk4 w g t a b c d) : w.cell? ⟨g, 0, none⟩ = some a ∧ w.cell? ⟨g, 1, none⟩ = some b ∧ w.cell? ⟨g, 2, none⟩ = some c ∧ w.cell? ⟨g, 3, none⟩ = some d :=
  ⟨(cell_of_block (i := 0) h).trans rfl, (cell_of_block (i := 1) h).trans rfl, (cell_of_block (i := 2) h).trans rfl, (cell_of_block (i := 3) h).trans rfl⟩
theorem Bk4.frz {w : World} {g : Nat} {t : TypeId} {a b c d : Value} (h : Bk4 w g t a b c d) (i : Nat) : w.frozen? ⟨g, i, none⟩ = false := froz_of_blk h
/-- All four cells written. -/
abbrev set4 (w : World) (g : Nat) (a b c d : Value) : World := (((w.setCell ⟨g, 0, none⟩ a).setCell ⟨g, 1, none⟩ b).setCell ⟨g, 2, none⟩ c).setCell ⟨g, 3, none⟩ d
theorem Bk4.set {w : World} {g : Nat} {t : TypeId} {a b c d : Value} (h : Bk4 w g t a b c d) (a' b' c' d' : Value) : Bk4 (set4 w g a' b' c' d') g t a' b' c' d' := by
  have h1 := heap_setCell_same w g 0 _ _ a' h
  have h2 := heap_setCell_same _ g 1 _ _ b' h1
  have h3 := heap_setCell_same _ g 2 _ _ c' h2
  have h4 := heap_setCell_same _ g 3 _ _ d' h3
  unfold Bk4
  rw [h4]
  rfl
theorem Bk4.other {w : World} {g k : Nat} {t : TypeId} {a b c d a' b' c' d' : Value} (h : Bk4 w k t a b c d) (hne : k ≠ g) : Bk4 (set4 w g a' b' c' d') k t a b c d :=
  (Below.heap_setCell _ ⟨g, 3, none⟩ _ k hne).trans ((Below.heap_setCell _ ⟨g, 2, none⟩ _ k hne).trans ((Below.heap_setCell _ ⟨g, 1, none⟩ _ k hne).trans ((Below.heap_setCell w ⟨g, 0, none⟩ _ k hne).trans h)))
theorem below_set4 {B g : Nat} {w w' : World} (h : Below B w w') (hB : B ≤ g) (a b c d : Value) : Below B w (set4 w' g a b c d) :=
  (((h.setCell (p := ⟨g, 0, none⟩) hB _).setCell (p := ⟨g, 1, none⟩) hB _).setCell (p := ⟨g, 2, none⟩) hB _).setCell (p := ⟨g, 3, none⟩) hB _
end Go.Proofs.YtengfdbaebkgeaaDoor

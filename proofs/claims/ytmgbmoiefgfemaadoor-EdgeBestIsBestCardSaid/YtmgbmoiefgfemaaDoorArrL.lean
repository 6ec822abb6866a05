/- Arrays of ints that a call has made; rows. -/
import Derived.Test.YtmgbmoiefgfemaaDoorLib
import Derived.Laws.OwnMore
namespace Go.Proofs.YtmgbmoiefgfemaaDoor
open Go.RowKit

/-- Block g is an array of ints. -/
def Arr (w : World) (g : Nat) (m : List Int) : Prop := w.heap[g]? = some (.cells (m.map (Value.int .i64)).toArray 3 (0, 0))
theorem Arr.cell {w : World} {g : Nat} {m : List Int} (h : Arr w g m) {i : Nat} {x : Int} (hx : m[i]? = some x) : w.cell? ⟨g, i, none⟩ = some (.int .i64 x) := by
  rw [cell_of_block h]; simp [hx]
theorem Arr.free {w : World} {g : Nat} {m : List Int} (h : Arr w g m) (i : Nat) : w.frozen? ⟨g, i, none⟩ = false := by
  unfold Arr at h; simp [World.frozen?, h]
theorem Arr.lt {w : World} {g : Nat} {m : List Int} (h : Arr w g m) : g < w.heap.size := (Array.getElem?_eq_some_iff.1 h).1
theorem Arr.set {w : World} {g : Nat} {m : List Int} (h : Arr w g m) (i : Nat) (y : Int) : Arr (w.setCell ⟨g, i, none⟩ (.int .i64 y)) g (m.set i y) := by
  have h1 := heap_setCell_same w g i _ _ (.int .i64 y) h
  unfold Arr
  rw [h1, List.map_set]
  simp
theorem Arr.other {w : World} {g g' : Nat} {m : List Int} (h : Arr w g m) (hne : g ≠ g') (i : Nat) (y : Value) : Arr (w.setCell ⟨g', i, none⟩ y) g m := (Below.heap_setCell w ⟨g', i, none⟩ y g hne).trans h
theorem Arr.belowB {w w' : World} {g B : Nat} {m : List Int} (h : Arr w g m) (hb : Below B w w') (hg : g < B) : Arr w' g m := (hb.block g hg).trans h
theorem Arr.below {w w' : World} {g : Nat} {m : List Int} (h : Arr w g m) (hb : Below w.heap.size w w') : Arr w' g m := h.belowB hb h.lt
theorem Arr.made (w : World) (m : List Int) : Arr (w.alloc (.cells (m.map (Value.int .i64)).toArray 3)) w.heap.size m := block_new w _
theorem made_ints (n : Nat) : madeCells #[Value.int .i64 0] (n * 1) = ((List.replicate n (0 : Int)).map (Value.int .i64)).toArray := by
  have h := toList_madeCells_one (Value.int .i64 0) n
  rw [Nat.mul_one]
  apply Array.toList_inj.1
  rw [h]
  simp
theorem make_ints (n : Nat) (hn : n ≤ 1000) (w : World) : (Instr.makeSlice 48 (.int .i64 (n : Int)) (.int .i64 (n : Int))).run Tryd.prog w = .ok (.slice (some ⟨w.heap.size, 0, none⟩) n n) (w.alloc (.cells ((List.replicate n (0 : Int)).map (Value.int .i64)).toArray 3)) := by
  obtain ⟨i, z, ht, hi, hz, hs, hb, _⟩ := slI
  obtain ⟨i0, hi0, hz0, hz1, hz2⟩ := info_parts infoI
  have hr := run_make (P := Tryd.prog) w 48 3 i0 _ ht hi0 hz0 .i64 .i64 n n (by omega) (Int.le_refl _) (by rw [hz2]; omega) (by omega)
  rw [hr, hz1]
  simp only [Int.toNat_natCast]
  rw [show (Value.int IntKind.i64 0).cells = #[Value.int .i64 0] from rfl, made_ints]
/-- A row, in which numbers below k are done, and one is under way. -/
def rowC (f : Nat → Int) (k : Nat) (z : Int) (m : Nat) : List Int := (List.range m).map fun j => if j < k then f j else if j = k then z else 0
def rowF (f : Nat → Int) (m : Nat) : List Int := (List.range m).map f
theorem rowC_len (f : Nat → Int) (k : Nat) (z : Int) (m : Nat) : (rowC f k z m).length = m := by simp [rowC]
theorem rowC_get {f : Nat → Int} {k m : Nat} {z : Int} (h : k < m) : (rowC f k z m)[k]? = some z := by simp [rowC, h]
theorem rowC_set (f : Nat → Int) (k : Nat) (z y : Int) (m : Nat) : (rowC f k z m).set k y = rowC f k y m := by
  apply List.ext_getElem
  · simp [rowC]
  · intro i h1 h2
    rw [List.getElem_set]
    simp only [rowC, List.getElem_map, List.getElem_range]
    by_cases e : k = i
    · subst e; simp
    · have e' : ¬ i = k := fun h => e h.symm
      rw [if_neg e]
      simp [e']
theorem rowC_next (f : Nat → Int) (k m : Nat) : rowC f k (f k) m = rowC f (k + 1) 0 m := by
  unfold rowC
  refine List.map_congr_left fun j _ => ?_
  by_cases h1 : j < k
  · rw [if_pos h1, if_pos (by omega)]
  · by_cases h2 : j = k
    · subst h2; rw [if_neg h1, if_pos rfl, if_pos (by omega)]
    · rw [if_neg h1, if_neg h2, if_neg (by omega)]; split <;> rfl
theorem rowC_zero (f : Nat → Int) (m : Nat) : List.replicate m (0 : Int) = rowC f 0 0 m := by
  apply List.ext_getElem
  · simp [rowC]
  · intro i h1 h2
    simp [rowC]
theorem rowC_all (f : Nat → Int) (z : Int) (m : Nat) : rowC f m z m = rowF f m := by
  unfold rowC rowF
  refine List.map_congr_left fun j hj => ?_
  rw [List.mem_range] at hj
  rw [if_pos hj]
theorem rowF_get {f : Nat → Int} {m k : Nat} (h : k < m) : (rowF f m)[k]? = some (f k) := by simp [rowF, h]

/-- A list of which those below i are done. -/
def mixL {α : Type} (f g : Nat → α) (i n : Nat) : List α := (List.range n).map fun j => if j < i then f j else g j
theorem mixL_len {α : Type} (f g : Nat → α) (i n : Nat) : (mixL f g i n).length = n := by simp [mixL]
theorem mixL_get {α : Type} {f g : Nat → α} {i n j : Nat} (h : j < n) : (mixL f g i n)[j]? = some (if j < i then f j else g j) := by simp [mixL, h]
theorem mixL_zero {α : Type} (f g : Nat → α) (n : Nat) : mixL f g 0 n = (List.range n).map g := by simp [mixL]
theorem mixL_all {α : Type} (f g : Nat → α) (n : Nat) : mixL f g n n = (List.range n).map f := by
  unfold mixL
  refine List.map_congr_left fun j hj => ?_
  rw [List.mem_range] at hj
  rw [if_pos hj]
theorem mixL_set {α : Type} (f g : Nat → α) (i n : Nat) : (mixL f g i n).set i (f i) = mixL f g (i + 1) n := by
  apply List.ext_getElem
  · simp [mixL]
  · intro j h1 h2
    rw [List.getElem_set]
    simp only [mixL, List.getElem_map, List.getElem_range]
    by_cases e : i = j
    · subst e; simp
    · rw [if_neg e]
      by_cases h : j < i
      · rw [if_pos h, if_pos (by omega)]
      · rw [if_neg h, if_neg (by omega)]
theorem mixL_self {α : Type} (f g : Nat → α) (i n : Nat) : (mixL f g i n).set i (g i) = mixL f g i n := by
  apply List.ext_getElem
  · simp [mixL]
  · intro j h1 h2
    rw [List.getElem_set]
    by_cases e : i = j
    · subst e
      simp [mixL]
    · rw [if_neg e]
theorem mixL_cur {α : Type} {f g : Nat → α} {i n : Nat} {z : α} (h : i < n) : ((mixL f g i n).set i z)[i]? = some z := by
  rw [List.getElem?_set_self (by rw [mixL_len]; exact h)]
end Go.Proofs.YtmgbmoiefgfemaaDoor

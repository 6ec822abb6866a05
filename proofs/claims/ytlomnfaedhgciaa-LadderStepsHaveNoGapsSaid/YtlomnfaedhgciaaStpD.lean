/- Arrays of ints that a call has made; steps of a ladder. -/
import Derived.Test.YtlomnfaedhgciaaStpL
import Derived.Test.YtlomnfaedhgciaaFar
import Derived.Laws.OwnMore
namespace Go.Proofs.Ytlomnfaedhgciaa
open Go.RowKit

/-- Block g is an array of ints. -/
def Arr (w : World) (g : Nat) (m : List Int) : Prop := w.heap[g]? = some (.cells (m.map (Value.int .i64)).toArray 3 (0, 0))
theorem Arr.cell {w : World} {g : Nat} {m : List Int} (h : Arr w g m) {i : Nat} {x : Int} (hx : m[i]? = some x) : w.cell? ⟨g, i, none⟩ = some (.int .i64 x) := by
  rw [cell_of_block h]; simp [hx]
theorem Arr.free {w : World} {g : Nat} {m : List Int} (h : Arr w g m) (i : Nat) : w.frozen? ⟨g, i, none⟩ = false := by
  unfold Arr at h; simp [World.frozen?, h]
theorem Arr.lt {w : World} {g : Nat} {m : List Int} (h : Arr w g m) : g < w.heap.size := (Array.getElem?_eq_some_iff.1 h).1
theorem Arr.set {w : World} {g : Nat} {m : List Int} (h : Arr w g m) (i : Nat) (y : Int) : Arr (w.setCell ⟨g, i, none⟩ (.int .i64 y)) g (m.set i y) := by
  have h1 := heap_setCell_same w g i _ _ (.int .i64 y) h
  unfold Arr
  rw [h1, List.map_set]
  simp
theorem Arr.other {w : World} {g g' : Nat} {m : List Int} (h : Arr w g m) (hne : g ≠ g') (i : Nat) (y : Value) : Arr (w.setCell ⟨g', i, none⟩ y) g m := (Below.heap_setCell w ⟨g', i, none⟩ y g hne).trans h
theorem Arr.below {w w' : World} {g : Nat} {m : List Int} (h : Arr w g m) (hb : Below w.heap.size w w') : Arr w' g m := (hb.block g h.lt).trans h
theorem Arr.made (w : World) (m : List Int) : Arr (w.alloc (.cells (m.map (Value.int .i64)).toArray 3)) w.heap.size m := block_new w _

theorem made_ints (n : Nat) : madeCells #[Value.int .i64 0] (n * 1) = ((List.replicate n (0 : Int)).map (Value.int .i64)).toArray := by
  have h := toList_madeCells_one (Value.int .i64 0) n
  rw [Nat.mul_one]
  apply Array.toList_inj.1
  rw [h]
  simp
theorem make_ints (n : Nat) (hn : n ≤ 1000) (w : World) : (Instr.makeSlice 25 (.int .i64 (n : Int)) (.int .i64 (n : Int))).run Try.prog w = .ok (.slice (some ⟨w.heap.size, 0, none⟩) n n) (w.alloc (.cells ((List.replicate n (0 : Int)).map (Value.int .i64)).toArray 3)) := by
  obtain ⟨i, z, ht, hi, hz, hs, hb, _⟩ := slI
  obtain ⟨i0, hi0, hz0, hz1, hz2⟩ := info_parts infoI
  have hr := run_make (P := Try.prog) w 25 3 i0 _ ht hi0 hz0 .i64 .i64 n n (by omega) (Int.le_refl _) (by rw [hz2]; omega) (by omega)
  rw [hr, hz1]
  simp only [Int.toNat_natCast]
  rw [show (Value.int IntKind.i64 0).cells = #[Value.int .i64 0] from rfl, made_ints]

/-- Are two renditions near? -/
def nrB (l : List Rng) (n d : Int) (i k : Nat) : Bool := !farB (l.getD i default).ra (l.getD k default).ra n d
def manyA (a : Nat) : Int := if a < 1000 then (a : Int) + 1 else 0
end Go.Proofs.Ytlomnfaedhgciaa

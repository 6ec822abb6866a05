/- Blocks of four cells; the rule of a key and the release of a key, plain. -/
import Derived.Test.YtmgbmoiefgfemaaDoorEdD
import Derived.Lib.Strings
namespace Go.Proofs.YtmgbmoiefgfemaaDoor
open Go.RowKit

theorem froz_of_blk {w : World} {b i : Nat} {c : Array Value} {T : TypeId} (h : w.heap[b]? = some (.cells c T (0, 0))) : w.frozen? ⟨b, i, none⟩ = false := by simp [World.frozen?, h]
theorem lt_of_blk {w : World} {b : Nat} {o : Obj} (h : w.heap[b]? = some o) : b < w.heap.size := (Array.getElem?_eq_some_iff.1 h).1
/-- A block of four cells. -/
def Bk4 (w : World) (g : Nat) (t : TypeId) (a b c d : Value) : Prop := w.heap[g]? = some (.cells #[a, b, c, d] t (0, 0))
theorem Bk4.lt {w : World} {g : Nat} {t : TypeId} {a b c d : Value} (h : Bk4 w g t a b c d) : g < w.heap.size := lt_of_blk h
theorem Bk4.below {w w' : World} {g B : Nat} {t : TypeId} {a b c d : Value} (h : Bk4 w g t a b c d) (hb : Below B w w') (hB : g < B) : Bk4 w' g t a b c d := (hb.block g hB).trans h
theorem Bk4.cells {w : World} {g : Nat} {t : TypeId} {a b c d : Value} (h : Bk4 w g t a b c d) : w.cell? ⟨g, 0, none⟩ = some a ∧ w.cell? ⟨g, 1, none⟩ = some b ∧ w.cell? ⟨g, 2, none⟩ = some c ∧ w.cell? ⟨g, 3, none⟩ = some d :=
  ⟨(cell_of_block (i := 0) h).trans rfl, (cell_of_block (i := 1) h).trans rfl, (cell_of_block (i := 2) h).trans rfl, (cell_of_block (i := 3) h).trans rfl⟩
theorem Bk4.frz {w : World} {g : Nat} {t : TypeId} {a b c d : Value} (h : Bk4 w g t a b c d) (i : Nat) : w.frozen? ⟨g, i, none⟩ = false := froz_of_blk h
/-- All four cells written. -/
abbrev set4 (w : World) (g : Nat) (a b c d : Value) : World := (((w.setCell ⟨g, 0, none⟩ a).setCell ⟨g, 1, none⟩ b).setCell ⟨g, 2, none⟩ c).setCell ⟨g, 3, none⟩ d
theorem Bk4.set {w : World} {g : Nat} {t : TypeId} {a b c d : Value} (h : Bk4 w g t a b c d) (a' b' c' d' : Value) : Bk4 (set4 w g a' b' c' d') g t a' b' c' d' := by
  have h1 := heap_setCell_same w g 0 _ _ a' h
  have h2 := heap_setCell_same _ g 1 _ _ b' h1
  have h3 := heap_setCell_same _ g 2 _ _ c' h2
  have h4 := heap_setCell_same _ g 3 _ _ d' h3
  unfold Bk4
  rw [h4]
  rfl
theorem Bk4.other {w : World} {g k : Nat} {t : TypeId} {a b c d a' b' c' d' : Value} (h : Bk4 w k t a b c d) (hne : k ≠ g) : Bk4 (set4 w g a' b' c' d') k t a b c d :=
  (Below.heap_setCell _ ⟨g, 3, none⟩ _ k hne).trans ((Below.heap_setCell _ ⟨g, 2, none⟩ _ k hne).trans ((Below.heap_setCell _ ⟨g, 1, none⟩ _ k hne).trans ((Below.heap_setCell w ⟨g, 0, none⟩ _ k hne).trans h)))
theorem below_set4 {B g : Nat} {w w' : World} (h : Below B w w') (hB : B ≤ g) (a b c d : Value) : Below B w (set4 w' g a b c d) :=
  (((h.setCell (p := ⟨g, 0, none⟩) hB _).setCell (p := ⟨g, 1, none⟩) hB _).setCell (p := ⟨g, 2, none⟩) hB _).setCell (p := ⟨g, 3, none⟩) hB _

def hpB (k p : ByteArray) : Bool := Lib.hasPrefix k.data.toList p.data.toList
/-- The number of the rule of a key among the first n. -/
def ruI (l : List Crl) (k : ByteArray) : Nat → Option Nat
  | 0 => none
  | n + 1 => if hpB k (l.getD n default).pr && (match ruI l k n with | none => true | some j => decide ((l.getD j default).pr.size < (l.getD n default).pr.size)) then some n else ruI l k n
def outU (l : List Crl) : Option Nat → Crl
  | none => default
  | some j => l.getD j default
/-- Its test. -/
def ruT (l : List Crl) (k : ByteArray) (n : Nat) (x : Crl) : Bool := hpB k x.pr && (match ruI l k n with | none => true | some j => decide ((l.getD j default).pr.size < x.pr.size))
theorem ruI_lt {l : List Crl} {k : ByteArray} {j : Nat} : ∀ {n : Nat}, ruI l k n = some j → j < n
  | 0, h => by simp [ruI] at h
  | n + 1, h => by
    have e : ruI l k (n + 1) = if ruT l k n (l.getD n default) then some n else ruI l k n := rfl
    rw [e] at h
    cases hT : ruT l k n (l.getD n default)
    · rw [hT] at h
      exact Nat.lt_succ_of_lt (ruI_lt h)
    · rw [hT] at h
      simp at h; omega
theorem ruI_next {l : List Crl} {k : ByteArray} {n : Nat} {x : Crl} (hx : l[n]? = some x) : ruI l k (n + 1) = if ruT l k n x then some n else ruI l k n := by
  rw [ruI, getD_of hx]; rfl
theorem ruT_hp {l : List Crl} {k : ByteArray} {n : Nat} {x : Crl} (h : hpB k x.pr = false) : ruT l k n x = false := by simp [ruT, h]
theorem ruT_none {l : List Crl} {k : ByteArray} {n : Nat} {x : Crl} (h : hpB k x.pr = true) (ho : ruI l k n = none) : ruT l k n x = true := by simp [ruT, h, ho]
theorem ruT_some {l : List Crl} {k : ByteArray} {n j : Nat} {x : Crl} (h : hpB k x.pr = true) (ho : ruI l k n = some j) : ruT l k n x = decide ((outU l (ruI l k n)).pr.size < x.pr.size) := by simp [ruT, h, ho, outU]

/-- The number of the release of a key at a time, among the first n. -/
def veI (l : List Rel) (k : ByteArray) (t : Int) : Nat → Option Nat
  | 0 => none
  | n + 1 => if ((l.getD n default).ke.toList == k.toList) && decide ((l.getD n default).ti ≤ t) then some n else veI l k t n
def outL (l : List Rel) : Option Nat → Rel
  | none => default
  | some j => l.getD j default
/-- What is there: nothing if it is gone. -/
def veO (l : List Rel) (k : ByteArray) (t : Int) : Option Nat := if (outL l (veI l k t l.length)).go = true then none else veI l k t l.length
theorem veI_lt {l : List Rel} {k : ByteArray} {t : Int} {j : Nat} : ∀ {n : Nat}, veI l k t n = some j → j < n
  | 0, h => by simp [veI] at h
  | n + 1, h => by
    unfold veI at h
    split at h
    · simp at h; omega
    · exact Nat.lt_succ_of_lt (veI_lt h)
theorem veI_next {l : List Rel} {k : ByteArray} {t : Int} {n : Nat} {x : Rel} (hx : l[n]? = some x) : veI l k t (n + 1) = if (x.ke.toList == k.toList) && decide (x.ti ≤ t) then some n else veI l k t n := by
  rw [veI, getD_of hx]
end Go.Proofs.YtmgbmoiefgfemaaDoor

/- Counts of nought, and names in order: plain. -/
import Derived.Shelf.SlSortCmp.Insertion
import Derived.Test.YthpjgongplffnaaNamL
namespace Go.Proofs.Ythpjgongplffnaa
open Go.RowKit Go.Lib Go.Sort Go.Shelf

/-- A count of nought. -/
abbrev zeroK (a : ByteArray) : Cnt := ⟨a, 0, 0, 0, 0, 0⟩
abbrev encZ (a : ByteArray) : List Value := encK (zeroK a)
theorem encZ_len (a : ByteArray) : (encZ a).length = 6 := rfl
def cmpZ (a b : ByteArray) : Int := if ltB a b = true then -1 else 1
theorem ltOf_cmpZ (a b : ByteArray) : ltOf cmpZ a b = ltB a b := by
  unfold ltOf cmpZ
  cases ltB a b <;> simp
theorem swoZ : SWO (ltOf cmpZ) where
  irrefl x := by rw [ltOf_cmpZ, ltB_eq]; exact decide_eq_false (List.lt_irrefl _)
  trans x y z h1 h2 := by
    rw [ltOf_cmpZ, ltB_eq, decide_eq_true_eq] at *
    exact List.lt_trans h1 h2
  ntrans x y z h1 h2 := by
    rw [ltOf_cmpZ, ltB_eq, decide_eq_false_iff_not] at *
    exact fun h => h1 (Decidable.byContradiction fun h3 => absurd (List.le_trans (show z.data.toList ≤ y.data.toList from h2) (show y.data.toList ≤ x.data.toList from h3)) (fun h4 => h4 h))
theorem totZ (x y : ByteArray) (h1 : ltOf cmpZ x y = false) (h2 : ltOf cmpZ y x = false) : x = y := by
  rw [ltOf_cmpZ, ltB_eq, decide_eq_false_iff_not] at h1 h2
  have := List.le_antisymm h2 h1
  obtain ⟨⟨a⟩⟩ := x
  obtain ⟨⟨b⟩⟩ := y
  simp only at this
  rw [this]
/-- Names in order. -/
def sortN (L : List ByteArray) : List ByteArray := L.mergeSort fun x y => !(ltOf cmpZ) y x
theorem sortN_len (L : List ByteArray) : (sortN L).length = L.length := by simp [sortN]

end Go.Proofs.Ythpjgongplffnaa

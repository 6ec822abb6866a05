/- Cells written into a block of elements: blocks of other types are kept. -/
import Derived.Test.YtaknkldbdijkeaaDel
import Derived.Test.YtaknkldbdijkeaaKeep
namespace Go.Proofs.Ytaknkldbdijkeaa
open Go.RowKit

theorem KeepT.setG {E : TypeId} {a w : World} {g j : Nat} {c : Array Value} {fr : Nat × Nat} (h : KeepT E a w) (hg : w.heap[g]? = some (Obj.cells c E fr)) (u : Value) : KeepT E a (w.setCell ⟨g, j, none⟩ u) := fun i d T fr h1 h2 => by
  have h4 := h i d T fr h1 h2
  rw [Below.heap_setCell w ⟨g, j, none⟩ u i (fun e => by
    have e : i = g := e
    subst e
    rw [hg] at h4
    simp only [Option.some.injEq, Obj.cells.injEq] at h4
    exact h2 h4.2.1.symm)]
  exact h4
theorem keepT_setCells {E : TypeId} {g : Nat} {a : World} : ∀ (vs : List Value) (o : Nat) (w : World), KeepT E a w → (∃ cur, w.heap[g]? = some (.cells cur E (0, 0))) → KeepT E a (w.setCells g o vs)
  | [], _, _, h, _ => h
  | v :: r, o, w, h, ⟨cur, hc⟩ => keepT_setCells (a := a) r (o + 1) _ (h.setG hc v) ⟨_, heap_setCell_same w g o cur E v hc⟩
theorem type_setCells {E : TypeId} {g : Nat} : ∀ (vs : List Value) (o : Nat) (w : World), (∃ cur, w.heap[g]? = some (.cells cur E (0, 0))) → ∃ cur, (w.setCells g o vs).heap[g]? = some (.cells cur E (0, 0))
  | [], _, _, h => h
  | v :: r, o, w, ⟨cur, hc⟩ => type_setCells r (o + 1) _ ⟨_, heap_setCell_same w g o cur E v hc⟩
end Go.Proofs.Ytaknkldbdijkeaa

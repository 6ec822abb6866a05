/- append, and what it keeps: blocks of other element types. -/
import Derived.Test.YtmgbmoiefgfemaaDoorStep
namespace Go.Proofs.YtmgbmoiefgfemaaDoor
open Go.RowKit

/-- Blocks of cells of another type than E are as they were. -/
def KeepT (E : TypeId) (w w' : World) : Prop := ∀ (b : Nat) (c : Array Value) (T : TypeId) (fr : Nat × Nat), w.heap[b]? = some (Obj.cells c T fr) → T ≠ E → w'.heap[b]? = some (Obj.cells c T fr)
theorem KeepT.refl (E : TypeId) (w : World) : KeepT E w w := fun _ _ _ _ h _ => h
theorem KeepT.trans {E : TypeId} {a b c : World} (h : KeepT E a b) (k : KeepT E b c) : KeepT E a c := fun i d T fr h1 h2 => k i d T fr (h i d T fr h1 h2) h2
theorem KeepT.alloc {E : TypeId} {a w : World} (h : KeepT E a w) (o : Obj) : KeepT E a (w.alloc o) := fun i d T fr h1 h2 => by
  have h3 := h i d T fr h1 h2
  have hlt : i < w.heap.size := (Array.getElem?_eq_some_iff.1 h3).1
  rw [Below.heap_alloc w o i hlt]
  exact h3
theorem KeepT.of_below {E : TypeId} {w w' : World} (h : Below w.heap.size w w') : KeepT E w w' := fun i d T fr h1 _ => by
  have hlt : i < w.heap.size := (Array.getElem?_eq_some_iff.1 h1).1
  rw [h.block i hlt]
  exact h1
theorem cell_of_block {w : World} {b i : Nat} {c : Array Value} {T : TypeId} {fr : Nat × Nat} (h : w.heap[b]? = some (.cells c T fr)) : w.cell? ⟨b, i, none⟩ = c[i]? := by
  simp [World.cell?, h]
theorem block_new (w : World) (o : Obj) : (w.alloc o).heap[w.heap.size]? = some o := by
  show (w.heap.push o)[w.heap.size]? = _
  simp

theorem el_below {α : Type} {w w' : World} {k B : Nat} {enc : α → List Value} {l : List α} {ao : Option Addr} (hel : ∀ i x, l[i]? = some x → ∃ b off, ao = some ⟨b, off, none⟩ ∧ ∀ j u, (enc x)[j]? = some u → w.cell? ⟨b, off + i * k + j, none⟩ = some u)
    (hb : Below B w w') (hB : w.heap.size ≤ B) : ∀ i x, l[i]? = some x → ∃ b off, ao = some ⟨b, off, none⟩ ∧ ∀ j u, (enc x)[j]? = some u → w'.cell? ⟨b, off + i * k + j, none⟩ = some u := fun i x hx => by
  obtain ⟨b, off, ha, hc⟩ := hel i x hx
  exact ⟨b, off, ha, fun j u hu => (hb.cell (p := ⟨b, off + i * k + j, none⟩) (Nat.lt_of_lt_of_le (World.block_lt_of_cell? w _ (hc j u hu)) hB)).trans (hc j u hu)⟩

/-- 's = append(s, y)', s a slice that the call has built; what it keeps is told. -/
theorem wpList_pushK {α : Type} {P : Program} {ops : Array Oper} {rest : List Oper} {o : Oper} {a : Act} {Q : Exit → Act → World → Prop} (hgd : o.guard = none) (s x : Operand) (t : TypeId)
    (ho : o.op = .call { callee := .builtin .append, args := #[s, x], argTypes := #[t, t] })
    {E : TypeId} {k bytes : Nat} (hT : SlT P t E k bytes) {enc : α → List Value} {base : Nat} {v : Value} {l : List α} {W : World} {C : List Value} (hs : a.eval s = v)
    {A : Nat} (hx : a.eval x = .slice (some ⟨A, 0, none⟩) 1 1)
    (y : α) (hC : enc y = C) (hk : C.length = k) (h1 : C.all Value.oneCell' = true)
    (hown : Own W base E k enc v l) (hA : A = W.heap.size) (hn : (l.length + 1) * bytes ≤ 140737488355328) (hbase : base ≤ W.heap.size)
    (h : ∀ v' w', Own w' base E k enc v' (l ++ [y]) → Below base W w' → KeepT E W w' → wpList P ops Q rest (a.put o.dst v') w') : wpList P ops Q (o :: rest) a (W.alloc (.cells C.toArray E)) := by
  obtain ⟨i, z, ht, hi, hz, hsize, hby, hzs, hsz, hb0⟩ := hT
  subst hA
  have hlen : l.length + 1 ≤ 140737488355328 := Nat.le_trans (Nat.le_mul_of_pos_right _ hb0) hn
  refine wpList_append_own _ hgd s x t ho base E i z k bytes ht hi hz hsize hby hzs hsz v l.length (l.flatMap enc) hs (World.ownsRow.alloc hown _) ⟨W.heap.size, 0, none⟩ 1 1 C hx (by omega)
    (cell_new_list W C E (0, 0)) (fun u hu => List.all_eq_true.1 h1 u hu) (by unfold maxLen; omega) hn (by simp; omega) (fun v' w' h2 h3 _ => h v' w' ?_ ?_ ?_)
  · unfold Own
    rw [List.flatMap_append, List.length_append, List.flatMap_singleton, hC]
    exact h2
  · exact ((Below.refl _ _).alloc hbase _).grown h3 (by simp; omega) (fun k hk => (World.ownsRow.lt hown k hk).1)
  · intro b c T fr hb hT
    have hlt : b < W.heap.size := (Array.getElem?_eq_some_iff.1 hb).1
    have hb' : (W.alloc (.cells C.toArray E)).heap[b]? = some (.cells c T fr) := by rw [Below.heap_alloc W _ b hlt]; exact hb
    rw [h3.block b (by simp; omega) ?_]
    · exact hb'
    · intro e
      obtain ⟨_, h4⟩ := hown
      rcases h4 with ⟨rfl, _⟩ | ⟨g, cap, cur, rfl, _, hh, _⟩
      · simp [Value.ownBlock] at e
      · simp only [Value.ownBlock, Option.some.injEq] at e
        subst e
        rw [hh] at hb
        simp only [Option.some.injEq, Obj.cells.injEq] at hb
        exact hT hb.2.1.symm
end Go.Proofs.YtmgbmoiefgfemaaDoor

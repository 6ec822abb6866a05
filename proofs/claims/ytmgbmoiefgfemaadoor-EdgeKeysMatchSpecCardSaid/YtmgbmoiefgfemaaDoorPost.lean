/- What calls leave, behind names. -/
import Derived.Test.YtmgbmoiefgfemaaDoorBase
namespace Go.Proofs.YtmgbmoiefgfemaaDoor
open Go.RowKit

/-- A slice that reads as l, and a fault. -/
def SlPost {α : Type} (w : World) (k : Nat) (enc : α → List Value) (l : List α) (f : Int) : Ending → World → Prop :=
  fun e w' => ∃ v', e = .returned (.tuple #[v', .int .i64 f]) ∧ Sl w' k enc v' l ∧ Below w.heap.size w w'

theorem SlPost.mk {α : Type} {w w' : World} {k : Nat} {enc : α → List Value} {l : List α} {f f' : Int} {v' : Value} (hf : f' = f) (hs : Sl w' k enc v' l) (hb : Below w.heap.size w w') :
    SlPost w k enc l f (.returned (.tuple #[v', .int .i64 f'])) w' := ⟨v', by rw [hf], hs, hb⟩

/-- A slice that reads as l. -/
def SlRet {α : Type} (w : World) (k : Nat) (enc : α → List Value) (l : List α) : Ending → World → Prop :=
  fun e w' => ∃ v', e = .returned v' ∧ Sl w' k enc v' l ∧ Below w.heap.size w w'

theorem SlRet.mk {α : Type} {w w' : World} {k : Nat} {enc : α → List Value} {l : List α} {v' : Value} (hs : Sl w' k enc v' l) (hb : Below w.heap.size w w') :
    SlRet w k enc l (.returned v') w' := ⟨v', rfl, hs, hb⟩

/-- What the call owns: a slice that it has built, which reads as l. -/
def Own {α : Type} (w : World) (base : Nat) (E : TypeId) (k : Nat) (enc : α → List Value) (v : Value) (l : List α) : Prop := w.ownsRow base E k v l.length (l.flatMap enc)

theorem Own.nil {α : Type} {w : World} {base : Nat} {E : TypeId} {k : Nat} {enc : α → List Value} : Own w base E k enc (.slice none 0 0) ([] : List α) := World.ownsRow_nil _ _ _ _
theorem Own.al {α : Type} {w : World} {base : Nat} {E : TypeId} {k : Nat} {enc : α → List Value} {v : Value} {l : List α} (h : Own w base E k enc v l) (o : Obj) : Own (w.alloc o) base E k enc v l := World.ownsRow.alloc h o
theorem Own.sl {α : Type} {w : World} {base : Nat} {E : TypeId} {k : Nat} {enc : α → List Value} {v : Value} {l : List α} (h : Own w base E k enc v l) (hk : ∀ x, (enc x).length = k) : Sl w k enc v l := Sl.own hk h
theorem Own.drewN {α : Type} {w : World} {base : Nat} {E : TypeId} {k : Nat} {enc : α → List Value} {v : Value} {l : List α} (h : Own w base E k enc v l) (n : Nat) : Own (w.drewN n) base E k enc v l := h

/-- The slice type t has elements of type E, of k cells. -/
def SlT (P : Program) (t E : TypeId) (k bytes : Nat) : Prop :=
  ∃ i z, P.underlying t = some (.slice E) ∧ P.info? E = some i ∧ i.zero = some z ∧ i.size = k ∧ i.bytes = bytes ∧ z.cells.size = k ∧ 0 < k ∧ 0 < bytes

/-- 's = append(s, y)', s a slice that the call has built. -/
theorem wpList_push {α : Type} {P : Program} {ops : Array Oper} {rest : List Oper} {o : Oper} {a : Act} {Q : Exit → Act → World → Prop} (hgd : o.guard = none) (s x : Operand) (t : TypeId)
    (ho : o.op = .call { callee := .builtin .append, args := #[s, x], argTypes := #[t, t] })
    {E : TypeId} {k bytes : Nat} (hT : SlT P t E k bytes) {enc : α → List Value} {base : Nat} {v : Value} {l : List α} {W : World} {C : List Value} (hs : a.eval s = v)
    {A : Nat} (hx : a.eval x = .slice (some ⟨A, 0, none⟩) 1 1)
    (y : α) (hC : enc y = C) (hk : C.length = k) (h1 : C.all Value.oneCell' = true)
    (hown : Own W base E k enc v l) (hA : A = W.heap.size) (hn : (l.length + 1) * bytes ≤ 140737488355328) (hbase : base ≤ W.heap.size)
    (h : ∀ v' w', Own w' base E k enc v' (l ++ [y]) → Below base W w' → wpList P ops Q rest (a.put o.dst v') w') : wpList P ops Q (o :: rest) a (W.alloc (.cells C.toArray E)) := by
  obtain ⟨i, z, ht, hi, hz, hsize, hby, hzs, hsz, hb0⟩ := hT
  subst hA
  have hlen : l.length + 1 ≤ 140737488355328 := Nat.le_trans (Nat.le_mul_of_pos_right _ hb0) hn
  refine wpList_append_own _ hgd s x t ho base E i z k bytes ht hi hz hsize hby hzs hsz v l.length (l.flatMap enc) hs (World.ownsRow.alloc hown _) ⟨W.heap.size, 0, none⟩ 1 1 C hx (by omega)
    (cell_new_list W C E (0, 0)) (fun u hu => List.all_eq_true.1 h1 u hu) (by unfold maxLen; omega) hn (by simp; omega) (fun v' w' h2 h3 _ => h v' w' ?_ ?_)
  · unfold Own
    rw [List.flatMap_append, List.length_append, List.flatMap_singleton, hC]
    exact h2
  · exact ((Below.refl _ _).alloc hbase _).grown h3 (by simp; omega) (fun k hk => (World.ownsRow.lt hown k hk).1)
end Go.Proofs.YtmgbmoiefgfemaaDoor

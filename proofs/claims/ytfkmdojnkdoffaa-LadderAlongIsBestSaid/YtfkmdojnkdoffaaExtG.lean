/- append of a slice in a guarded place. -/
import Derived.Test.YtfkmdojnkdoffaaApp
namespace Go.Proofs.Ytfkmdojnkdoffaa
open Go.RowKit

/-- append in a guarded place. -/
theorem wpList_extendG {α : Type} {P : Program} {ops : Array Oper} {rest : List Oper} {o : Oper} {a : Act} {Q : Exit → Act → World → Prop} (hgd : Region.wanted o (yielded ops a.tmps) = true) (s x : Operand) (t : TypeId)
    (ho : o.op = .call { callee := .builtin .append, args := #[s, x], argTypes := #[t, t] })
    {E : TypeId} {k bytes : Nat} (hT : SlT P t E k bytes) {enc : α → List Value} (hk : ∀ x, (enc x).length = k) (h1 : ∀ y, (enc y).all Value.oneCell' = true) {base : Nat} {v u : Value} {l m : List α} {W : World} (hs : a.eval s = v)
    (hx : a.eval x = u) (hown : Own W base E k enc v l) (hm : Sl W k enc u m) (hn : (l.length + m.length) * bytes ≤ 140737488355328) (hbase : base ≤ W.heap.size)
    (h : ∀ v' w', Own w' base E k enc v' (l ++ m) → Below base W w' → wpList P ops Q rest (a.put o.dst v') w') : wpList P ops Q (o :: rest) a W := by
  have key := wpList_extend (P := P) (ops := ops) (rest := rest) (o := { o with guard := none }) (a := a) (Q := Q) rfl s x t ho hT hk h1 hs hx hown hm hn hbase h
  unfold wpList at key ⊢
  rw [if_pos hgd]
  rw [if_pos (by simp [Region.wanted])] at key
  exact key
end Go.Proofs.Ytfkmdojnkdoffaa

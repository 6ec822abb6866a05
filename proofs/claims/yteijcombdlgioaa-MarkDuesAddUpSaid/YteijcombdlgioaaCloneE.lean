/- slices.Clone at events. -/
import Derived.Test.YteijcombdlgioaaDueDef
import Derived.Laws.AppendOwnNone
namespace Go.Proofs.Yteijcombdlgioaa
open Go.RowKit

/-- append in a guarded place. -/
theorem wpList_extendG {α : Type} {P : Program} {ops : Array Oper} {rest : List Oper} {o : Oper} {a : Act} {Q : Exit → Act → World → Prop} (hgd : Region.wanted o (yielded ops a.tmps) = true) (s x : Operand) (t : TypeId)
    (ho : o.op = .call { callee := .builtin .append, args := #[s, x], argTypes := #[t, t] })
    {E : TypeId} {k bytes : Nat} (hT : SlT P t E k bytes) {enc : α → List Value} (hk : ∀ x, (enc x).length = k) (h1 : ∀ y, (enc y).all Value.oneCell' = true) {base : Nat} {v u : Value} {l m : List α} {W : World} (hs : a.eval s = v)
    (hx : a.eval x = u) (hown : Own W base E k enc v l) (hm : Sl W k enc u m) (hn : (l.length + m.length) * bytes ≤ 140737488355328) (hbase : base ≤ W.heap.size)
    (h : ∀ v' w', Own w' base E k enc v' (l ++ m) → Below base W w' → wpList P ops Q rest (a.put o.dst v') w') : wpList P ops Q (o :: rest) a W := by
  have key := wpList_extend (P := P) (ops := ops) (rest := rest) (o := { o with guard := none }) (a := a) (Q := Q) rfl s x t ho hT hk h1 hs hx hown hm hn hbase h
  unfold wpList at key ⊢
  rw [if_pos hgd]
  rw [if_pos (by simp [Region.wanted])] at key
  exact key

theorem cloneE_any (w : World) (l : List Ev) (v : Value) (hl : Sl w 4 encE v l) (hb : l.length * 48 ≤ 140737488355328) :
    Calls Try.prog 14 #[v] w (OwnRet w 29 4 encE l) := by
  have hl0 := Lib.hid hl
  obtain ⟨ao, cap, rfl, hcap, hmax, hnil, hel⟩ := hl
  unfold maxLen at hmax
  have hn := fun w => Lib.run_eql_slice_nil (P := Try.prog) w 23 29 ao l.length cap 0 0 Try.underlying23
  cases ao with
  | none =>
    obtain rfl : cap = 0 := hnil rfl
    obtain rfl : l = [] := List.length_eq_zero_iff.1 (by omega)
    clear hel hnil hn
    have hn := fun w => Lib.run_eql_slice_nil (P := Try.prog) w 23 29 none 0 0 0 0 Try.underlying23
    go_enter Try.func14, Try.ntmps14
    go_wp2
    go_ret
    exact OwnRet.mk Own.nil (Below.refl _ _)
  | some ad =>
    clear hel hnil
    have ho := Lib.hid (show Own (w.alloc (.cells #[] 29)) w.heap.size 29 4 encE (.slice (some ⟨w.heap.size, 0, none⟩) 0 0) [] from World.ownsRow_lit w #[] 0 (Nat.le_refl _) (by simp [maxLen]) rfl)
    go_enter Try.func14, Try.ntmps14
    go_wp2_with (at_builtin; refine wpList_extend rfl _ _ 23 rfl slE encE_len (fun _ => rfl) rfl rfl ho.out (hl0.out.below ((Below.refl _ _).alloc (Nat.le_refl _) _) (Nat.le_refl _)) (by simpa using hb) (by simp) ?_; intro v' w1 ho1 hb1; have HO := Lib.hid ho1; have HB := Lib.hid hb1; clear ho1 hb1)
    go_ret
    exact OwnRet.mk (by simpa using HO.out) (((Below.refl _ _).alloc (Nat.le_refl _) _).trans HB.out)
end Go.Proofs.Yteijcombdlgioaa

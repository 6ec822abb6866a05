/- Appends of whole slices to what the call owns. -/
import Derived.Test.YtmgbmoiefgfemaaDoorPost
import Derived.Laws.AppendOwnNone
namespace Go.Proofs.YtmgbmoiefgfemaaDoor
open Go.RowKit

/-- A slice of the call's own that reads as l. -/
def OwnRet {α : Type} (w : World) (E : TypeId) (k : Nat) (enc : α → List Value) (l : List α) : Ending → World → Prop :=
  fun e w' => ∃ v', e = .returned v' ∧ Own w' w.heap.size E k enc v' l ∧ Below w.heap.size w w'

theorem OwnRet.mk {α : Type} {w w' : World} {E : TypeId} {k : Nat} {enc : α → List Value} {l : List α} {v' : Value} (hs : Own w' w.heap.size E k enc v' l) (hb : Below w.heap.size w w') :
    OwnRet w E k enc l (.returned v') w' := ⟨v', rfl, hs, hb⟩

theorem flatMap_at {α : Type} {enc : α → List Value} {k : Nat} (hk : ∀ x, (enc x).length = k) (hk0 : 0 < k) {m : List α} {j : Nat} {u : Value} (h : (m.flatMap enc)[j]? = some u) :
    ∃ y, m[j / k]? = some y ∧ (enc y)[j % k]? = some u := by
  have hj : j < (m.flatMap enc).length := (List.getElem?_eq_some_iff.1 h).1
  have hlen : (m.flatMap enc).length = m.length * k := by
    clear h hj
    induction m with
    | nil => simp
    | cons a r ih => rw [List.flatMap_cons, List.length_append, hk, ih, List.length_cons, Nat.succ_mul]; omega
  rw [hlen] at hj
  have hi : j / k < m.length := Nat.div_lt_of_lt_mul (by rw [Nat.mul_comm]; exact hj)
  refine ⟨m[j / k], by simp [hi], ?_⟩
  have e : j / k * k + j % k = j := by rw [Nat.mul_comm]; exact Nat.div_add_mod j k
  rw [← flatMap_get hk m (j / k) (j % k) m[j / k] (by simp [hi]) (Nat.mod_lt _ hk0), e]
  exact h

theorem flatMap_len {α : Type} {enc : α → List Value} {k : Nat} (hk : ∀ x, (enc x).length = k) (m : List α) : (m.flatMap enc).length = m.length * k := by
  induction m with
  | nil => simp
  | cons a r ih => rw [List.flatMap_cons, List.length_append, hk, ih, List.length_cons, Nat.succ_mul]; omega

/-- 's = append(s, m...)', s a slice that the call has built, m a slice that reads as a list. -/
theorem wpList_extend {α : Type} {P : Program} {ops : Array Oper} {rest : List Oper} {o : Oper} {a : Act} {Q : Exit → Act → World → Prop} (hgd : o.guard = none) (s x : Operand) (t : TypeId)
    (ho : o.op = .call { callee := .builtin .append, args := #[s, x], argTypes := #[t, t] })
    {E : TypeId} {k bytes : Nat} (hT : SlT P t E k bytes) {enc : α → List Value} (hk : ∀ x, (enc x).length = k) (h1 : ∀ y, (enc y).all Value.oneCell' = true) {base : Nat} {v u : Value} {l m : List α} {W : World} (hs : a.eval s = v)
    (hx : a.eval x = u) (hown : Own W base E k enc v l) (hm : Sl W k enc u m) (hn : (l.length + m.length) * bytes ≤ 140737488355328) (hbase : base ≤ W.heap.size)
    (h : ∀ v' w', Own w' base E k enc v' (l ++ m) → Below base W w' → wpList P ops Q rest (a.put o.dst v') w') : wpList P ops Q (o :: rest) a W := by
  obtain ⟨i, z, ht, hi, hz, hsize, hby, hzs, hsz, hb0⟩ := hT
  obtain ⟨ao, cap, rfl, hcap, hmax, hnil, hel⟩ := hm
  have hlen : l.length + m.length ≤ 140737488355328 := Nat.le_trans (Nat.le_mul_of_pos_right _ hb0) hn
  cases ao with
  | none =>
    have hc := hnil rfl
    subst hc
    obtain rfl : m = [] := List.length_eq_zero_iff.1 (by omega)
    refine wpList_append_own_none hgd s x t ho base E i k ht hi v l.length (l.flatMap enc) hs hown hx ?_
    have := h v W (by rw [List.append_nil]; exact hown) (Below.refl _ _)
    exact this
  | some ad =>
    refine wpList_append_own _ hgd s x t ho base E i z k bytes ht hi hz hsize hby hzs hsz v l.length (l.flatMap enc) hs hown ad m.length cap (m.flatMap enc) hx (flatMap_len hk m)
      (fun j u hj => ?_) (fun u hu => ?_) (by unfold maxLen; omega) hn hbase (fun v' w' h2 h3 _ => h v' w' ?_ ?_)
    · obtain ⟨y, hy, hu⟩ := flatMap_at hk hsz hj
      obtain ⟨b, off, hb, hc⟩ := hel _ y hy
      simp only [Option.some.injEq] at hb
      subst hb
      have := hc _ u hu
      rw [← this]
      have e : j / k * k + j % k = j := by rw [Nat.mul_comm]; exact Nat.div_add_mod j k
      rw [Nat.add_assoc, e]
      congr 1
      unfold Addr.add
      split <;> simp [*]
    · rw [List.mem_flatMap] at hu
      obtain ⟨y, _, hu⟩ := hu
      exact List.all_eq_true.1 (h1 y) u hu
    · unfold Own
      rw [List.flatMap_append, List.length_append]
      exact h2
    · exact (Below.refl _ _).grown h3 hbase (fun k hk => (World.ownsRow.lt hown k hk).1)

/-- 's = append(s, a, b, ..)': several at once. -/
theorem wpList_pushes {α : Type} {P : Program} {ops : Array Oper} {rest : List Oper} {o : Oper} {a : Act} {Q : Exit → Act → World → Prop} (hgd : o.guard = none) (s x : Operand) (t : TypeId)
    (ho : o.op = .call { callee := .builtin .append, args := #[s, x], argTypes := #[t, t] })
    {E : TypeId} {k bytes : Nat} (hT : SlT P t E k bytes) {enc : α → List Value} (hk : ∀ x, (enc x).length = k) (h1 : ∀ y, (enc y).all Value.oneCell' = true) {base : Nat} {v : Value} {l : List α} {W : World} {C : List Value} (hs : a.eval s = v)
    {A m : Nat} (hx : a.eval x = .slice (some ⟨A, 0, none⟩) m m) (ys : List α) (hC : ys.flatMap enc = C) (hm : ys.length = m)
    (hown : Own W base E k enc v l) (hA : A = W.heap.size) (hn : (l.length + m) * bytes ≤ 140737488355328) (hbase : base ≤ W.heap.size)
    (h : ∀ v' w', Own w' base E k enc v' (l ++ ys) → Below base W w' → wpList P ops Q rest (a.put o.dst v') w') : wpList P ops Q (o :: rest) a (W.alloc (.cells C.toArray E)) := by
  subst hA
  subst hC
  subst hm
  have hb0 : 0 < bytes := by
    obtain ⟨i, z, ht, hi, hz, hsize, hby, hzs, hsz, hb0⟩ := hT
    exact hb0
  have hlen : l.length + ys.length ≤ 140737488355328 := Nat.le_trans (Nat.le_mul_of_pos_right _ hb0) hn
  refine wpList_extend hgd s x t ho hT hk h1 hs hx (hown.al _) (Sl.fresh hk W E (0, 0) ys (by unfold maxLen; omega)) hn (by simp; omega) (fun v' w' h2 h3 => h v' w' h2 ?_)
  exact ((Below.refl _ _).alloc hbase _).trans h3
end Go.Proofs.YtmgbmoiefgfemaaDoor

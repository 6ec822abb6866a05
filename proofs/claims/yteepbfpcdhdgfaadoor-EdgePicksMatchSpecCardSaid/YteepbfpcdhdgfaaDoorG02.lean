/- Appends of whole slices to what the call owns. -/
import Derived.Test.YteepbfpcdhdgfaaDoorG01
import Derived.Laws.AppendOwnNone
import Derived.Deep.RegionLaw
namespace Go.Proofs.YteepbfpcdhdgfaaDoor
open Go.RowKit

/-- A slice of the call's own that reads as l. -/
def OwnRet {α : Type} (w : World) (E : TypeId) (k : Nat) (enc : α → List Value) (l : List α) : Ending → World → Prop :=
  fun e w' => ∃ v', e = .returned v' ∧ Own w' w.heap.size E k enc v' l ∧ Below w.heap.size w w'

theorem OwnRet.mk {α : Type} {w w' : World} {E : TypeId} {k : Nat} {enc : α → List Value} {l : List α} {v' : Value} (hs : Own w' w.heap.size E k enc v' l) (hb : Below w.heap.size w w') :
    OwnRet w E k enc l (.returned v') w' := ⟨v', rfl, hs, hb⟩

theorem flatMap_at {α : Type} {enc : α → List Value} {k : Nat} (hk : ∀ x, (enc x).length = k) (hk0 : 0 < k) {m : List α} {j : Nat} {u : Value} (h : (m.flatMap enc)[j]? = some u) :
    ∃ y, m[j / k]? = some y ∧ (enc y)[j % k]? = some u := by
  have hj : j < (m.flatMap enc).length := (List.getElem?_eq_some_iff.1 h).1
  have hlen : (m.flatMap enc).length = m.length * k := by
    clear h hj
    induction m with
    | nil => simp
    | cons a r ih => rw [List.flatMap_cons, List.length_append, hk, ih, List.length_cons, Nat.succ_mul]; omega
  rw [hlen] at hj
  have hi : j / k < m.length := Nat.div_lt_of_lt_mul (by rw [Nat.mul_comm]; exact hj)
  refine ⟨m[j / k], by simp [hi], ?_⟩
  have e : j / k * k + j % k = j := by rw [Nat.mul_comm]; exact Nat.div_add_mod j k
  rw [← flatMap_get hk m (j / k) (j % k) m[j / k] (by simp [hi]) (Nat.mod_lt _ hk0), e]
  exact h

theorem flatMap_len {α : Type} {enc : α → List Value} {k : Nat} (hk : ∀ x, (enc x).length = k) (m : List α) : (m.flatMap enc).length = m.length * k := by
  induction m with
  | nil => simp
  | cons a r ih => rw [List.flatMap_cons, List.length_append, hk, ih, List.length_cons, Nat.succ_mul]; omega

/-- 's = append(s, m...)', s a slice that the call has built, m a slice that reads as a list. -/
theorem wpList_extend {α : Type} {P : Program} {ops : Array Oper} {rest : List Oper} {o : Oper} {a : Act} {Q : Exit → Act → World → Prop} (hgd : o.guard = none) (s x : Operand) (t : TypeId)
    (ho : o.op = .call { callee := .builtin .append, args := #[s, x], argTypes := #[t, t] })
    {E : TypeId} {k bytes : Nat} (hT : SlT P t E k bytes) {enc : α → List Value} (hk : ∀ x, (enc x).length = k) (h1 : ∀ y, (enc y).all Value.oneCell' = true) {base : Nat} {v u : Value} {l m : List α} {W : World} (hs : a.eval s = v)
    (hx : a.eval x = u) (hown : Own W base E k enc v l) (hm : Sl W k enc u m) (hn : (l.length + m.length) * bytes ≤ 140737488355328) (hbase : base ≤ W.heap.size)
    (h : ∀ v' w', Own w' base E k enc v' (l ++ m) → Below base W w' → wpList P ops Q rest (a.put o.dst v') w') : wpList P ops Q (o :: rest) a W := by
  obtain ⟨i, z, ht, hi, hz, hsize, hby, hzs, hsz, hb0⟩ := hT
  obtain ⟨ao, cap, rfl, hcap, hmax, hnil, hel⟩ := hm
  have hlen : l.length + m.length ≤ 140737488355328 := Nat.le_trans (Nat.le_mul_of_pos_right _ hb0) hn
  cases ao with
  | none =>
    have hc := hnil rfl
    subst hc
    obtain rfl : m = [] := List.length_eq_zero_iff.1 (by omega)
    refine wpList_append_own_none hgd s x t ho base E i k ht hi v l.length (l.flatMap enc) hs hown hx ?_
    have := h v W (by rw [List.append_nil]; exact hown) (Below.refl _ _)
    exact this
  | some ad =>
    refine wpList_append_own _ hgd s x t ho base E i z k bytes ht hi hz hsize hby hzs hsz v l.length (l.flatMap enc) hs hown ad m.length cap (m.flatMap enc) hx (flatMap_len hk m)
      (fun j u hj => ?_) (fun u hu => ?_) (by unfold maxLen; omega) hn hbase (fun v' w' h2 h3 _ => h v' w' ?_ ?_)
    · obtain ⟨y, hy, hu⟩ := flatMap_at hk hsz hj
      obtain ⟨b, off, hb, hc⟩ := hel _ y hy
      simp only [Option.some.injEq] at hb
      subst hb
      have := hc _ u hu
      rw [← this]
      have e : j / k * k + j % k = j := by rw [Nat.mul_comm]; exact Nat.div_add_mod j k
      rw [Nat.add_assoc, e]
      congr 1
      unfold Addr.add
      split <;> simp [*]
    · rw [List.mem_flatMap] at hu
      obtain ⟨y, _, hu⟩ := hu
      exact List.all_eq_true.1 (h1 y) u hu
    · unfold Own
      rw [List.flatMap_append, List.length_append]
      exact h2
    · exact (Below.refl _ _).grown h3 hbase (fun k hk => (World.ownsRow.lt hown k hk).1)

/-- 's = append(s, a, b, ..)': several at once. -/
theorem wpList_pushes {α : Type} {P : Program} {ops : Array Oper} {rest : List Oper} {o : Oper} {a : Act} {Q : Exit → Act → World → Prop} (hgd : o.guard = none) (s x : Operand) (t : TypeId)
    (ho : o.op = .call { callee := .builtin .append, args := #[s, x], argTypes := #[t, t] })
    {E : TypeId} {k bytes : Nat} (hT : SlT P t E k bytes) {enc : α → List Value} (hk : ∀ x, (enc x).length = k) (h1 : ∀ y, (enc y).all Value.oneCell' = true) {base : Nat} {v : Value} {l : List α} {W : World} {C : List Value} (hs : a.eval s = v)
    {A m : Nat} (hx : a.eval x = .slice (some ⟨A, 0, none⟩) m m) (ys : List α) (hC : ys.flatMap enc = C) (hm : ys.length = m)
    (hown : Own W base E k enc v l) (hA : A = W.heap.size) (hn : (l.length + m) * bytes ≤ 140737488355328) (hbase : base ≤ W.heap.size)
    (h : ∀ v' w', Own w' base E k enc v' (l ++ ys) → Below base W w' → wpList P ops Q rest (a.put o.dst v') w') : wpList P ops Q (o :: rest) a (W.alloc (.cells C.toArray E)) := by
  subst hA
  subst hC
  subst hm
  have hb0 : 0 < bytes := by
    obtain ⟨i, z, ht, hi, hz, hsize, hby, hzs, hsz, hb0⟩ := hT
    exact hb0
  have hlen : l.length + ys.length ≤ 140737488355328 := Nat.le_trans (Nat.le_mul_of_pos_right _ hb0) hn
  refine wpList_extend hgd s x t ho hT hk h1 hs hx (hown.al _) (Sl.fresh hk W E (0, 0) ys (by unfold maxLen; omega)) hn (by simp; omega) (fun v' w' h2 h3 => h v' w' h2 ?_)
  exact ((Below.refl _ _).alloc hbase _).trans h3
end Go.Proofs.YteepbfpcdhdgfaaDoor

/- append as one step of a region that draws its order. -/
namespace Go.Proofs.YteepbfpcdhdgfaaDoor
open Go.RowKit

theorem Own.drew1 {α : Type} {w : World} {base : Nat} {E : TypeId} {k : Nat} {enc : α → List Value} {v : Value} {l : List α} (h : Own w base E k enc v l) : Own w.drew base E k enc v l := h

theorem step_push {α : Type} {P : Program} {ops : Array Oper} {o : Oper} {a : Act} {Q : Exit → Act → World → Prop} {K : Act → World → Prop} {X : Prop} (hgd : o.guard = none) (s x : Operand) (t : TypeId)
    (ho : o.op = .call { callee := .builtin .append, args := #[s, x], argTypes := #[t, t] })
    {E : TypeId} {k bytes : Nat} (hT : SlT P t E k bytes) {enc : α → List Value} {base : Nat} {v : Value} {l : List α} {W : World} {C : List Value} (hs : a.eval s = v)
    {A : Nat} (hx : a.eval x = .slice (some ⟨A, 0, none⟩) 1 1)
    (y : α) (hC : enc y = C) (hk : C.length = k) (h1 : C.all Value.oneCell' = true)
    (hown : Own W base E k enc v l) (hA : A = W.heap.size) (hn : (l.length + 1) * bytes ≤ 140737488355328) (hbase : base ≤ W.heap.size)
    (h : ∀ v' w', Own w' base E k enc v' (l ++ [y]) → Below base W w' → K (a.put o.dst v') w') :
    if Region.wanted o (yielded ops a.tmps) = true then Oper.wp P o a (W.alloc (.cells C.toArray E)).drew K Q else X := by
  have hw : Region.wanted o (yielded ops a.tmps) = true := by simp [Region.wanted, hgd]
  rw [if_pos hw]
  obtain ⟨i, z, ht, hi, hz, hsize, hby, hzs, hsz, hb0⟩ := hT
  subst hA
  have hlen : l.length + 1 ≤ 140737488355328 := Nat.le_trans (Nat.le_mul_of_pos_right _ hb0) hn
  refine wp_append_own _ s x t ho base E i z k bytes ht hi hz hsize hby hzs hsz v l.length (l.flatMap enc) hs (World.ownsRow.alloc hown _) ⟨W.heap.size, 0, none⟩ 1 1 C hx (by omega)
    (cell_new_list W C E (0, 0)) (fun u hu => List.all_eq_true.1 h1 u hu) (by unfold maxLen; omega) hn (by show base ≤ (W.alloc _).heap.size; simp; omega) (fun v' w' h2 h3 _ => h v' w' ?_ ?_)
  · unfold Own
    rw [List.flatMap_append, List.length_append, List.flatMap_singleton, hC]
    exact h2
  · have h3' : (W.alloc (.cells C.toArray E)).grownBy w' v.ownBlock := ⟨h3.os, h3.tape, h3.output, h3.size, h3.block⟩
    exact ((Below.refl _ _).alloc hbase _).grown h3' (by simp; omega) (fun k hk => (World.ownsRow.lt hown k hk).1)
end Go.Proofs.YteepbfpcdhdgfaaDoor

/- append, and what it keeps: blocks of other element types. -/
namespace Go.Proofs.YteepbfpcdhdgfaaDoor
open Go.RowKit

/-- Blocks of cells of another type than E are as they were. -/
def KeepT (E : TypeId) (w w' : World) : Prop := ∀ (b : Nat) (c : Array Value) (T : TypeId) (fr : Nat × Nat), w.heap[b]? = some (Obj.cells c T fr) → T ≠ E → w'.heap[b]? = some (Obj.cells c T fr)
theorem KeepT.refl (E : TypeId) (w : World) : KeepT E w w := fun _ _ _ _ h _ => h
theorem KeepT.trans {E : TypeId} {a b c : World} (h : KeepT E a b) (k : KeepT E b c) : KeepT E a c := fun i d T fr h1 h2 => k i d T fr (h i d T fr h1 h2) h2
theorem KeepT.alloc {E : TypeId} {a w : World} (h : KeepT E a w) (o : Obj) : KeepT E a (w.alloc o) := fun i d T fr h1 h2 => by
  have h3 := h i d T fr h1 h2
  have hlt : i < w.heap.size := (Array.getElem?_eq_some_iff.1 h3).1
  rw [Below.heap_alloc w o i hlt]
  exact h3
theorem KeepT.of_below {E : TypeId} {w w' : World} (h : Below w.heap.size w w') : KeepT E w w' := fun i d T fr h1 _ => by
  have hlt : i < w.heap.size := (Array.getElem?_eq_some_iff.1 h1).1
  rw [h.block i hlt]
  exact h1
theorem cell_of_block {w : World} {b i : Nat} {c : Array Value} {T : TypeId} {fr : Nat × Nat} (h : w.heap[b]? = some (.cells c T fr)) : w.cell? ⟨b, i, none⟩ = c[i]? := by
  simp [World.cell?, h]
theorem block_new (w : World) (o : Obj) : (w.alloc o).heap[w.heap.size]? = some o := by
  show (w.heap.push o)[w.heap.size]? = _
  simp

theorem el_below {α : Type} {w w' : World} {k B : Nat} {enc : α → List Value} {l : List α} {ao : Option Addr} (hel : ∀ i x, l[i]? = some x → ∃ b off, ao = some ⟨b, off, none⟩ ∧ ∀ j u, (enc x)[j]? = some u → w.cell? ⟨b, off + i * k + j, none⟩ = some u)
    (hb : Below B w w') (hB : w.heap.size ≤ B) : ∀ i x, l[i]? = some x → ∃ b off, ao = some ⟨b, off, none⟩ ∧ ∀ j u, (enc x)[j]? = some u → w'.cell? ⟨b, off + i * k + j, none⟩ = some u := fun i x hx => by
  obtain ⟨b, off, ha, hc⟩ := hel i x hx
  exact ⟨b, off, ha, fun j u hu => (hb.cell (p := ⟨b, off + i * k + j, none⟩) (Nat.lt_of_lt_of_le (World.block_lt_of_cell? w _ (hc j u hu)) hB)).trans (hc j u hu)⟩

/-- 's = append(s, y)', s a slice that the call has built; what it keeps is told. -/
theorem wpList_pushK {α : Type} {P : Program} {ops : Array Oper} {rest : List Oper} {o : Oper} {a : Act} {Q : Exit → Act → World → Prop} (hgd : o.guard = none) (s x : Operand) (t : TypeId)
    (ho : o.op = .call { callee := .builtin .append, args := #[s, x], argTypes := #[t, t] })
    {E : TypeId} {k bytes : Nat} (hT : SlT P t E k bytes) {enc : α → List Value} {base : Nat} {v : Value} {l : List α} {W : World} {C : List Value} (hs : a.eval s = v)
    {A : Nat} (hx : a.eval x = .slice (some ⟨A, 0, none⟩) 1 1)
    (y : α) (hC : enc y = C) (hk : C.length = k) (h1 : C.all Value.oneCell' = true)
    (hown : Own W base E k enc v l) (hA : A = W.heap.size) (hn : (l.length + 1) * bytes ≤ 140737488355328) (hbase : base ≤ W.heap.size)
    (h : ∀ v' w', Own w' base E k enc v' (l ++ [y]) → Below base W w' → KeepT E W w' → wpList P ops Q rest (a.put o.dst v') w') : wpList P ops Q (o :: rest) a (W.alloc (.cells C.toArray E)) := by
  obtain ⟨i, z, ht, hi, hz, hsize, hby, hzs, hsz, hb0⟩ := hT
  subst hA
  have hlen : l.length + 1 ≤ 140737488355328 := Nat.le_trans (Nat.le_mul_of_pos_right _ hb0) hn
  refine wpList_append_own _ hgd s x t ho base E i z k bytes ht hi hz hsize hby hzs hsz v l.length (l.flatMap enc) hs (World.ownsRow.alloc hown _) ⟨W.heap.size, 0, none⟩ 1 1 C hx (by omega)
    (cell_new_list W C E (0, 0)) (fun u hu => List.all_eq_true.1 h1 u hu) (by unfold maxLen; omega) hn (by simp; omega) (fun v' w' h2 h3 _ => h v' w' ?_ ?_ ?_)
  · unfold Own
    rw [List.flatMap_append, List.length_append, List.flatMap_singleton, hC]
    exact h2
  · exact ((Below.refl _ _).alloc hbase _).grown h3 (by simp; omega) (fun k hk => (World.ownsRow.lt hown k hk).1)
  · intro b c T fr hb hT
    have hlt : b < W.heap.size := (Array.getElem?_eq_some_iff.1 hb).1
    have hb' : (W.alloc (.cells C.toArray E)).heap[b]? = some (.cells c T fr) := by rw [Below.heap_alloc W _ b hlt]; exact hb
    rw [h3.block b (by simp; omega) ?_]
    · exact hb'
    · intro e
      obtain ⟨_, h4⟩ := hown
      rcases h4 with ⟨rfl, _⟩ | ⟨g, cap, cur, rfl, _, hh, _⟩
      · simp [Value.ownBlock] at e
      · simp only [Value.ownBlock, Option.some.injEq] at e
        subst e
        rw [hh] at hb
        simp only [Option.some.injEq, Obj.cells.injEq] at hb
        exact hT hb.2.1.symm
end Go.Proofs.YteepbfpcdhdgfaaDoor

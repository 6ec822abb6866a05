/- Plain helpers: the first fault of some, and slices that read as lists. Nothing of the program is used. -/
import Derived.WalkKit
import Derived.WalkSpells
import Derived.WalkLawsBesides
import Derived.Handy
import Derived.Lib.Hide
import Derived.BigQuiet
import Derived.Deep.QuietTactic
import Derived.Deep.LoopGhost
import Derived.Deep.Slices
import Derived.Laws.OwnMore
import Derived.Shelf.Abstract
import Derived.Deep.RegionWith
import Derived.Deep.DeepCutAuto
import Derived.Laws.AppendOwnNone
namespace Go.Proofs.YtehbmnkbmgnkfaaGreatDoor
open Go.RowKit

/-- The first number other than 0 among f 0 .. f (n-1), or 0. -/
def FF (f : Nat → Int) : Nat → Int
  | 0 => 0
  | n + 1 => if FF f n = 0 then f n else FF f n

theorem FF_zero {f : Nat → Int} : ∀ {n : Nat}, (∀ j, j < n → f j = 0) → FF f n = 0
  | 0, _ => rfl
  | n + 1, h => by
    have h1 := FF_zero (f := f) (n := n) (fun j hj => h j (by omega))
    simp [FF, h1, h n (by omega)]

theorem FF_hit {f : Nat → Int} {k : Nat} : ∀ {n : Nat}, k < n → (∀ j, j < k → f j = 0) → f k ≠ 0 → FF f n = f k
  | 0, h, _, _ => by omega
  | n + 1, h, hz, hk => by
    by_cases e : k = n
    · subst e
      simp [FF, FF_zero hz]
    · have h1 := FF_hit (f := f) (n := n) (by omega) hz hk
      simp [FF, h1, hk]

theorem FF_congr {f g : Nat → Int} : ∀ {n : Nat}, (∀ j, j < n → f j = g j) → FF f n = FF g n
  | 0, _ => rfl
  | n + 1, h => by
    have h1 := FF_congr (f := f) (g := g) (n := n) (fun j hj => h j (by omega))
    simp [FF, h1, h n (by omega)]

theorem FF_eq_zero {f : Nat → Int} : ∀ {n : Nat}, FF f n = 0 → ∀ j, j < n → f j = 0
  | 0, _, j, hj => by omega
  | n + 1, h, j, hj => by
    unfold FF at h
    split at h
    · rename_i h0
      by_cases e : j = n
      · subst e; exact h
      · exact FF_eq_zero h0 j (by omega)
    · contradiction

/-- The value v is a slice of as many elements as l has; element i's cells are enc l[i]. -/
def Sl {α : Type} (w : World) (k : Nat) (enc : α → List Value) (v : Value) (l : List α) : Prop :=
  ∃ ao cap, v = .slice ao l.length cap ∧ l.length ≤ cap ∧ cap ≤ maxLen ∧ (ao = none → cap = 0) ∧
    ∀ i x, l[i]? = some x → ∃ b off, ao = some ⟨b, off, none⟩ ∧ ∀ j u, (enc x)[j]? = some u → w.cell? ⟨b, off + i * k + j, none⟩ = some u

section
variable {α : Type} {w w' : World} {k : Nat} {enc : α → List Value} {v : Value} {l : List α}

theorem Sl.nil : Sl w k enc (.slice none 0 0) ([] : List α) :=
  ⟨none, 0, rfl, Nat.le_refl _, by simp [maxLen], fun _ => rfl, fun i x h => by simp at h⟩

theorem Sl.below (h : Sl w k enc v l) {B : Nat} (hb : Below B w w') (hB : w.heap.size ≤ B) : Sl w' k enc v l := by
  obtain ⟨ao, cap, h1, h2, h3, h4, h5⟩ := h
  refine ⟨ao, cap, h1, h2, h3, h4, fun i x hx => ?_⟩
  obtain ⟨b, off, ha, hc⟩ := h5 i x hx
  refine ⟨b, off, ha, fun j u hu => ?_⟩
  have hcell := hc j u hu
  have hlt := World.block_lt_of_cell? w _ hcell
  exact (hb.cell (p := ⟨b, off + i * k + j, none⟩) (Nat.lt_of_lt_of_le hlt hB)).trans hcell

theorem Sl.take (h : Sl w k enc v l) {ao : Option Addr} {cap : Nat} (hv : v = .slice ao l.length cap) (n : Nat) (hn : n ≤ l.length) : Sl w k enc (.slice ao n cap) (l.take n) := by
  obtain ⟨ao', cap', h1, h2, h3, h4, h5⟩ := h
  rw [hv] at h1
  simp only [Value.slice.injEq, true_and] at h1
  obtain ⟨rfl, rfl⟩ := h1
  have hlen : (l.take n).length = n := by simp; omega
  refine ⟨ao, cap, by rw [hlen], by rw [hlen]; omega, h3, h4, fun i x hx => ?_⟩
  rw [List.getElem?_take] at hx
  split at hx
  · exact h5 i x hx
  · simp at hx

theorem flatMap_get (hk : ∀ x, (enc x).length = k) : ∀ (l : List α) (i j : Nat) (x : α), l[i]? = some x → j < k → (l.flatMap enc)[i * k + j]? = (enc x)[j]?
  | [], i, j, x, h, _ => by simp at h
  | y :: r, 0, j, x, h, hj => by
    simp at h; subst h
    simp only [List.flatMap_cons, Nat.zero_mul, Nat.zero_add]
    rw [List.getElem?_append_left (by rw [hk]; exact hj)]
  | y :: r, i + 1, j, x, h, hj => by
    simp only [List.flatMap_cons]
    have e : (i + 1) * k + j = k + (i * k + j) := by rw [Nat.succ_mul]; omega
    rw [e, List.getElem?_append_right (by rw [hk]; omega), hk, Nat.add_sub_cancel_left]
    exact flatMap_get hk r i j x (by simpa using h) hj

/-- A literal that has just been laid reads as a list. -/
theorem Sl.fresh (hk : ∀ x, (enc x).length = k) (w : World) (E : TypeId) (fr : Nat × Nat) (l : List α) (hm : l.length ≤ maxLen) :
    Sl (w.alloc (.cells (l.flatMap enc).toArray E fr)) k enc (.slice (some ⟨w.heap.size, 0, none⟩) l.length l.length) l := by
  refine ⟨_, _, rfl, Nat.le_refl _, hm, fun e => by simp at e, fun i x hx => ⟨w.heap.size, 0, rfl, fun j u hu => ?_⟩⟩
  have hj : j < k := by
    have := (List.getElem?_eq_some_iff.1 hu).1
    rwa [hk] at this
  rw [Nat.zero_add, World.cell?_alloc_mark, List.getElem?_toArray, flatMap_get hk l i j x hx hj]
  exact hu

/-- What the call owns reads as a list. -/
theorem Sl.own {base : Nat} {E : TypeId} (hk : ∀ x, (enc x).length = k) (h : w.ownsRow base E k v l.length (l.flatMap enc)) : Sl w k enc v l := by
  have h0 := h
  obtain ⟨h1, h2⟩ := h
  rcases h2 with ⟨rfl, h2⟩ | ⟨g, cap, cur, rfl, hg, hh, hn, hm, hs, ht⟩
  · obtain rfl : l = [] := List.length_eq_zero_iff.1 h2
    exact Sl.nil
  · refine ⟨_, cap, rfl, hn, hm, fun e => by simp at e, fun i x hx => ⟨g, 0, rfl, fun j u hu => ?_⟩⟩
    have hj : j < k := by
      have := (List.getElem?_eq_some_iff.1 hu).1
      rwa [hk] at this
    have hi : i < l.length := (List.getElem?_eq_some_iff.1 hx).1
    have hle : i * k + k ≤ l.length * k := by
      have := Nat.mul_le_mul_right k (Nat.succ_le_of_lt hi)
      rwa [Nat.succ_mul] at this
    rw [Nat.zero_add, h0.cellAt (i * k + j) (by omega), flatMap_get hk l i j x hx hj]
    exact hu
end

theorem _root_.Go.RowKit.Below.thru {w a b : World} (h : Below w.heap.size w a) (h2 : Below a.heap.size a b) : Below w.heap.size w b := h.trans (h2.mono h.size)

theorem cell_new_list (w : World) (C : List Value) (E : TypeId) (fr : Nat × Nat) : ∀ j u, C[j]? = some u → (w.alloc (.cells C.toArray E fr)).cell? ((⟨w.heap.size, 0, none⟩ : Addr).add j) = some u := by
  intro j u hu
  have e : (⟨w.heap.size, 0, none⟩ : Addr).add j = ⟨w.heap.size, j, none⟩ := by
    unfold Addr.add
    split
    · simp [*]
    · simp
  rw [e, World.cell?_alloc_mark, List.getElem?_toArray]
  exact hu

theorem ret_int {k : IntKind} {a b : Int} (h : a = b) : Ending.returned (.int k a) = .returned (.int k b) := by rw [h]
theorem ret_bool {a b : Bool} (h : a = b) : Ending.returned (.bool a) = .returned (.bool b) := by rw [h]
end Go.Proofs.YtehbmnkbmgnkfaaGreatDoor

/- What calls leave, behind names. -/
namespace Go.Proofs.YtehbmnkbmgnkfaaGreatDoor
open Go.RowKit

/-- A slice that reads as l, and a fault. -/
def SlPost {α : Type} (w : World) (k : Nat) (enc : α → List Value) (l : List α) (f : Int) : Ending → World → Prop :=
  fun e w' => ∃ v', e = .returned (.tuple #[v', .int .i64 f]) ∧ Sl w' k enc v' l ∧ Below w.heap.size w w'

theorem SlPost.mk {α : Type} {w w' : World} {k : Nat} {enc : α → List Value} {l : List α} {f f' : Int} {v' : Value} (hf : f' = f) (hs : Sl w' k enc v' l) (hb : Below w.heap.size w w') :
    SlPost w k enc l f (.returned (.tuple #[v', .int .i64 f'])) w' := ⟨v', by rw [hf], hs, hb⟩

/-- A slice that reads as l. -/
def SlRet {α : Type} (w : World) (k : Nat) (enc : α → List Value) (l : List α) : Ending → World → Prop :=
  fun e w' => ∃ v', e = .returned v' ∧ Sl w' k enc v' l ∧ Below w.heap.size w w'

theorem SlRet.mk {α : Type} {w w' : World} {k : Nat} {enc : α → List Value} {l : List α} {v' : Value} (hs : Sl w' k enc v' l) (hb : Below w.heap.size w w') :
    SlRet w k enc l (.returned v') w' := ⟨v', rfl, hs, hb⟩

/-- What the call owns: a slice that it has built, which reads as l. -/
def Own {α : Type} (w : World) (base : Nat) (E : TypeId) (k : Nat) (enc : α → List Value) (v : Value) (l : List α) : Prop := w.ownsRow base E k v l.length (l.flatMap enc)

theorem Own.nil {α : Type} {w : World} {base : Nat} {E : TypeId} {k : Nat} {enc : α → List Value} : Own w base E k enc (.slice none 0 0) ([] : List α) := World.ownsRow_nil _ _ _ _
theorem Own.al {α : Type} {w : World} {base : Nat} {E : TypeId} {k : Nat} {enc : α → List Value} {v : Value} {l : List α} (h : Own w base E k enc v l) (o : Obj) : Own (w.alloc o) base E k enc v l := World.ownsRow.alloc h o
theorem Own.sl {α : Type} {w : World} {base : Nat} {E : TypeId} {k : Nat} {enc : α → List Value} {v : Value} {l : List α} (h : Own w base E k enc v l) (hk : ∀ x, (enc x).length = k) : Sl w k enc v l := Sl.own hk h
theorem Own.drewN {α : Type} {w : World} {base : Nat} {E : TypeId} {k : Nat} {enc : α → List Value} {v : Value} {l : List α} (h : Own w base E k enc v l) (n : Nat) : Own (w.drewN n) base E k enc v l := h

/-- The slice type t has elements of type E, of k cells. -/
def SlT (P : Program) (t E : TypeId) (k bytes : Nat) : Prop :=
  ∃ i z, P.underlying t = some (.slice E) ∧ P.info? E = some i ∧ i.zero = some z ∧ i.size = k ∧ i.bytes = bytes ∧ z.cells.size = k ∧ 0 < k ∧ 0 < bytes

/-- 's = append(s, y)', s a slice that the call has built. -/
theorem wpList_push {α : Type} {P : Program} {ops : Array Oper} {rest : List Oper} {o : Oper} {a : Act} {Q : Exit → Act → World → Prop} (hgd : o.guard = none) (s x : Operand) (t : TypeId)
    (ho : o.op = .call { callee := .builtin .append, args := #[s, x], argTypes := #[t, t] })
    {E : TypeId} {k bytes : Nat} (hT : SlT P t E k bytes) {enc : α → List Value} {base : Nat} {v : Value} {l : List α} {W : World} {C : List Value} (hs : a.eval s = v)
    {A : Nat} (hx : a.eval x = .slice (some ⟨A, 0, none⟩) 1 1)
    (y : α) (hC : enc y = C) (hk : C.length = k) (h1 : C.all Value.oneCell' = true)
    (hown : Own W base E k enc v l) (hA : A = W.heap.size) (hn : (l.length + 1) * bytes ≤ 140737488355328) (hbase : base ≤ W.heap.size)
    (h : ∀ v' w', Own w' base E k enc v' (l ++ [y]) → Below base W w' → wpList P ops Q rest (a.put o.dst v') w') : wpList P ops Q (o :: rest) a (W.alloc (.cells C.toArray E)) := by
  obtain ⟨i, z, ht, hi, hz, hsize, hby, hzs, hsz, hb0⟩ := hT
  subst hA
  have hlen : l.length + 1 ≤ 140737488355328 := Nat.le_trans (Nat.le_mul_of_pos_right _ hb0) hn
  refine wpList_append_own _ hgd s x t ho base E i z k bytes ht hi hz hsize hby hzs hsz v l.length (l.flatMap enc) hs (World.ownsRow.alloc hown _) ⟨W.heap.size, 0, none⟩ 1 1 C hx (by omega)
    (cell_new_list W C E (0, 0)) (fun u hu => List.all_eq_true.1 h1 u hu) (by unfold maxLen; omega) hn (by simp; omega) (fun v' w' h2 h3 _ => h v' w' ?_ ?_)
  · unfold Own
    rw [List.flatMap_append, List.length_append, List.flatMap_singleton, hC]
    exact h2
  · exact ((Below.refl _ _).alloc hbase _).grown h3 (by simp; omega) (fun k hk => (World.ownsRow.lt hown k hk).1)
end Go.Proofs.YtehbmnkbmgnkfaaGreatDoor

/- Appends of whole slices to what the call owns. -/
namespace Go.Proofs.YtehbmnkbmgnkfaaGreatDoor
open Go.RowKit

/-- A slice of the call's own that reads as l. -/
def OwnRet {α : Type} (w : World) (E : TypeId) (k : Nat) (enc : α → List Value) (l : List α) : Ending → World → Prop :=
  fun e w' => ∃ v', e = .returned v' ∧ Own w' w.heap.size E k enc v' l ∧ Below w.heap.size w w'

theorem OwnRet.mk {α : Type} {w w' : World} {E : TypeId} {k : Nat} {enc : α → List Value} {l : List α} {v' : Value} (hs : Own w' w.heap.size E k enc v' l) (hb : Below w.heap.size w w') :
    OwnRet w E k enc l (.returned v') w' := ⟨v', rfl, hs, hb⟩

theorem flatMap_at {α : Type} {enc : α → List Value} {k : Nat} (hk : ∀ x, (enc x).length = k) (hk0 : 0 < k) {m : List α} {j : Nat} {u : Value} (h : (m.flatMap enc)[j]? = some u) :
    ∃ y, m[j / k]? = some y ∧ (enc y)[j % k]? = some u := by
  have hj : j < (m.flatMap enc).length := (List.getElem?_eq_some_iff.1 h).1
  have hlen : (m.flatMap enc).length = m.length * k := by
    clear h hj
    induction m with
    | nil => simp
    | cons a r ih => rw [List.flatMap_cons, List.length_append, hk, ih, List.length_cons, Nat.succ_mul]; omega
  rw [hlen] at hj
  have hi : j / k < m.length := Nat.div_lt_of_lt_mul (by rw [Nat.mul_comm]; exact hj)
  refine ⟨m[j / k], by simp [hi], ?_⟩
  have e : j / k * k + j % k = j := by rw [Nat.mul_comm]; exact Nat.div_add_mod j k
  rw [← flatMap_get hk m (j / k) (j % k) m[j / k] (by simp [hi]) (Nat.mod_lt _ hk0), e]
  exact h

theorem flatMap_len {α : Type} {enc : α → List Value} {k : Nat} (hk : ∀ x, (enc x).length = k) (m : List α) : (m.flatMap enc).length = m.length * k := by
  induction m with
  | nil => simp
  | cons a r ih => rw [List.flatMap_cons, List.length_append, hk, ih, List.length_cons, Nat.succ_mul]; omega

/-- 's = append(s, m...)', s a slice that the call has built, m a slice that reads as a list. -/
theorem wpList_extend {α : Type} {P : Program} {ops : Array Oper} {rest : List Oper} {o : Oper} {a : Act} {Q : Exit → Act → World → Prop} (hgd : o.guard = none) (s x : Operand) (t : TypeId)
    (ho : o.op = .call { callee := .builtin .append, args := #[s, x], argTypes := #[t, t] })
    {E : TypeId} {k bytes : Nat} (hT : SlT P t E k bytes) {enc : α → List Value} (hk : ∀ x, (enc x).length = k) (h1 : ∀ y, (enc y).all Value.oneCell' = true) {base : Nat} {v u : Value} {l m : List α} {W : World} (hs : a.eval s = v)
    (hx : a.eval x = u) (hown : Own W base E k enc v l) (hm : Sl W k enc u m) (hn : (l.length + m.length) * bytes ≤ 140737488355328) (hbase : base ≤ W.heap.size)
    (h : ∀ v' w', Own w' base E k enc v' (l ++ m) → Below base W w' → wpList P ops Q rest (a.put o.dst v') w') : wpList P ops Q (o :: rest) a W := by
  obtain ⟨i, z, ht, hi, hz, hsize, hby, hzs, hsz, hb0⟩ := hT
  obtain ⟨ao, cap, rfl, hcap, hmax, hnil, hel⟩ := hm
  have hlen : l.length + m.length ≤ 140737488355328 := Nat.le_trans (Nat.le_mul_of_pos_right _ hb0) hn
  cases ao with
  | none =>
    have hc := hnil rfl
    subst hc
    obtain rfl : m = [] := List.length_eq_zero_iff.1 (by omega)
    refine wpList_append_own_none hgd s x t ho base E i k ht hi v l.length (l.flatMap enc) hs hown hx ?_
    have := h v W (by rw [List.append_nil]; exact hown) (Below.refl _ _)
    exact this
  | some ad =>
    refine wpList_append_own _ hgd s x t ho base E i z k bytes ht hi hz hsize hby hzs hsz v l.length (l.flatMap enc) hs hown ad m.length cap (m.flatMap enc) hx (flatMap_len hk m)
      (fun j u hj => ?_) (fun u hu => ?_) (by unfold maxLen; omega) hn hbase (fun v' w' h2 h3 _ => h v' w' ?_ ?_)
    · obtain ⟨y, hy, hu⟩ := flatMap_at hk hsz hj
      obtain ⟨b, off, hb, hc⟩ := hel _ y hy
      simp only [Option.some.injEq] at hb
      subst hb
      have := hc _ u hu
      rw [← this]
      have e : j / k * k + j % k = j := by rw [Nat.mul_comm]; exact Nat.div_add_mod j k
      rw [Nat.add_assoc, e]
      congr 1
      unfold Addr.add
      split <;> simp [*]
    · rw [List.mem_flatMap] at hu
      obtain ⟨y, _, hu⟩ := hu
      exact List.all_eq_true.1 (h1 y) u hu
    · unfold Own
      rw [List.flatMap_append, List.length_append]
      exact h2
    · exact (Below.refl _ _).grown h3 hbase (fun k hk => (World.ownsRow.lt hown k hk).1)

/-- 's = append(s, a, b, ..)': several at once. -/
theorem wpList_pushes {α : Type} {P : Program} {ops : Array Oper} {rest : List Oper} {o : Oper} {a : Act} {Q : Exit → Act → World → Prop} (hgd : o.guard = none) (s x : Operand) (t : TypeId)
    (ho : o.op = .call { callee := .builtin .append, args := #[s, x], argTypes := #[t, t] })
    {E : TypeId} {k bytes : Nat} (hT : SlT P t E k bytes) {enc : α → List Value} (hk : ∀ x, (enc x).length = k) (h1 : ∀ y, (enc y).all Value.oneCell' = true) {base : Nat} {v : Value} {l : List α} {W : World} {C : List Value} (hs : a.eval s = v)
    {A m : Nat} (hx : a.eval x = .slice (some ⟨A, 0, none⟩) m m) (ys : List α) (hC : ys.flatMap enc = C) (hm : ys.length = m)
    (hown : Own W base E k enc v l) (hA : A = W.heap.size) (hn : (l.length + m) * bytes ≤ 140737488355328) (hbase : base ≤ W.heap.size)
    (h : ∀ v' w', Own w' base E k enc v' (l ++ ys) → Below base W w' → wpList P ops Q rest (a.put o.dst v') w') : wpList P ops Q (o :: rest) a (W.alloc (.cells C.toArray E)) := by
  subst hA
  subst hC
  subst hm
  have hb0 : 0 < bytes := by
    obtain ⟨i, z, ht, hi, hz, hsize, hby, hzs, hsz, hb0⟩ := hT
    exact hb0
  have hlen : l.length + ys.length ≤ 140737488355328 := Nat.le_trans (Nat.le_mul_of_pos_right _ hb0) hn
  refine wpList_extend hgd s x t ho hT hk h1 hs hx (hown.al _) (Sl.fresh hk W E (0, 0) ys (by unfold maxLen; omega)) hn (by simp; omega) (fun v' w' h2 h3 => h v' w' h2 ?_)
  exact ((Below.refl _ _).alloc hbase _).trans h3
end Go.Proofs.YtehbmnkbmgnkfaaGreatDoor

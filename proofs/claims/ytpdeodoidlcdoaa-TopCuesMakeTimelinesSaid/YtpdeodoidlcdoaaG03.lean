/- One cue: what the reference's events do, and what the program's breaks do; plain. -/
import Derived.Test.YtpdeodoidlcdoaaG02
import Derived.Test.YtpdeodoidlcdoaaG01
namespace Go.Proofs.Ytpdeodoidlcdoaa
open Go.RowKit

def findE (l : List Evn) (ev : Int) : Option Evn := l.find? fun e => e.id == ev
def freeE (l : List Evn) (tm : Int) : Bool := !(l.any fun e => !e.ca && (decide (tm < e.be) || e.op || decide (tm < e.en)))
/-- A cue, by the reference: its events, and whether it did something. -/
def hearE (l : List Evn) (k ev tm at_ ln : Int) (au : Bool) : List Evn × Bool :=
  if k = 1 then (if l.any (fun e => e.id == ev) || !freeE l tm then (l, false) else (l ++ [⟨ev, tm, tm + ln, !au, false⟩], true))
  else if k = 2 then (match findE l ev with
    | none => (l, false)
    | some e => if e.ca || (!e.op && decide (e.en ≤ tm)) then (l, false) else (mapId l ev (fun e => { e with en := tm, op := false, ca := decide (tm ≤ e.be) }), true))
  else if k = 3 then (match findE l ev with
    | none => (l ++ [⟨ev, 0, 0, false, true⟩], true)
    | some e => if e.ca || decide (e.be ≤ at_) then (l, false) else (mapId l ev (fun e => { e with ca := true }), true))
  else (l, false)

theorem findE_gap {l : List Evn} (hd : idsE l) {ev : Int} {e : Evn} (h : findE l ev = some e) : findE (gapsE l) ev = if e.ca = true then none else some e := by
  have he : e ∈ l := List.mem_of_find?_eq_some h
  have hi : e.id = ev := by have := List.find?_some h; simpa using this
  by_cases hc : e.ca = true
  · rw [if_pos hc]
    unfold findE
    rw [List.find?_eq_none]
    intro a ha hb
    unfold gapsE at ha
    obtain ⟨ha1, ha2⟩ := List.mem_filter.1 ha
    have : a = e := hd.one ha1 he (by rw [hi]; simpa using hb)
    rw [this, hc] at ha2
    simp at ha2
  · rw [if_neg hc]
    have hm : e ∈ gapsE l := List.mem_filter.2 ⟨he, by simpa using hc⟩
    have hs : (findE (gapsE l) ev).isSome := by
      unfold findE
      rw [List.find?_isSome]
      exact ⟨e, hm, by simpa using hi⟩
    obtain ⟨a, ha⟩ := Option.isSome_iff_exists.1 hs
    have ha1 : a ∈ gapsE l := List.mem_of_find?_eq_some ha
    have ha2 : a.id = ev := by have := List.find?_some ha; simpa using this
    rw [ha, hd.gaps.one ha1 hm (by rw [ha2, hi])]
theorem findE_none {l : List Evn} {ev : Int} (h : findE l ev = none) : findE (gapsE l) ev = none ∧ canE l ev = false ∧ l.any (fun e => e.id == ev) = false := by
  unfold findE at h
  rw [List.find?_eq_none] at h
  refine ⟨?_, ?_, ?_⟩
  · unfold findE
    rw [List.find?_eq_none]
    exact fun a ha => h a (List.mem_filter.1 ha).1
  · unfold canE
    rw [List.any_eq_false]
    intro a ha hb
    rw [Bool.and_eq_true] at hb
    exact h a ha hb.1
  · rw [List.any_eq_false]
    exact fun a ha => h a ha
theorem canE_find {l : List Evn} (hd : idsE l) {ev : Int} {e : Evn} (h : findE l ev = some e) : canE l ev = e.ca := by
  have he : e ∈ l := List.mem_of_find?_eq_some h
  have hi : e.id = ev := by have := List.find?_some h; simpa using this
  unfold canE
  rw [Bool.eq_iff_iff, List.any_eq_true]
  constructor
  · rintro ⟨a, ha, hb⟩
    rw [Bool.and_eq_true, beq_iff_eq] at hb
    rw [← hd.one ha he (by rw [hb.1, hi])]
    exact hb.2
  · exact fun hc => ⟨e, he, by rw [Bool.and_eq_true, beq_iff_eq]; exact ⟨hi, hc⟩⟩
/-- Whether a break can begin: the program's test. -/
theorem out_same {l : List Evn} (ev tm : Int) : (canE l ev || (gapsE l).any fun g => (g.id == ev) || (g.op && decide (g.be ≤ tm)) || decide (tm < g.be) || (!g.op && decide (tm < g.en))) = (l.any (fun e => e.id == ev) || !freeE l tm) := by
  unfold canE gapsE freeE
  rw [Bool.not_not, Bool.eq_iff_iff]
  simp only [Bool.or_eq_true, List.any_eq_true, List.mem_filter, Bool.and_eq_true, beq_iff_eq, decide_eq_true_eq, Bool.not_eq_true']
  constructor
  · rintro (⟨a, ha, h1, h2⟩ | ⟨a, ⟨ha, hc⟩, ((h | ⟨h1, h2⟩) | h) | ⟨h1, h2⟩⟩)
    · exact .inl ⟨a, ha, h1⟩
    · exact .inl ⟨a, ha, h⟩
    · exact .inr ⟨a, ha, hc, .inl (.inr h1)⟩
    · exact .inr ⟨a, ha, hc, .inl (.inl h)⟩
    · exact .inr ⟨a, ha, hc, .inr h2⟩
  · rintro (⟨a, ha, h1⟩ | ⟨a, ha, hc, (h | h) | h⟩)
    · by_cases hc : a.ca = true
      · exact .inl ⟨a, ha, h1, hc⟩
      · exact .inr ⟨a, ⟨ha, by simpa using hc⟩, .inl (.inl (.inl h1))⟩
    · exact .inr ⟨a, ⟨ha, hc⟩, .inl (.inr h)⟩
    · by_cases hb : a.be ≤ tm
      · exact .inr ⟨a, ⟨ha, hc⟩, .inl (.inl (.inr ⟨h, hb⟩))⟩
      · exact .inr ⟨a, ⟨ha, hc⟩, .inl (.inr (by omega))⟩
    · by_cases ho : a.op = true
      · by_cases hb : a.be ≤ tm
        · exact .inr ⟨a, ⟨ha, hc⟩, .inl (.inl (.inr ⟨ho, hb⟩))⟩
        · exact .inr ⟨a, ⟨ha, hc⟩, .inl (.inr (by omega))⟩
      · exact .inr ⟨a, ⟨ha, hc⟩, .inr ⟨by simpa using ho, h⟩⟩
end Go.Proofs.Ytpdeodoidlcdoaa

/- What a cue that does something leaves; plain. -/
namespace Go.Proofs.Ytpdeodoidlcdoaa
open Go.RowKit

theorem gaps_new (l : List Evn) (e : Evn) (h : e.ca = false) : gapsE (l ++ [e]) = gapsE l ++ [e] := by
  unfold gapsE
  rw [List.filter_append, List.filter_cons, if_pos (by simp [h])]
  rfl
theorem gaps_can (l : List Evn) (e : Evn) (h : e.ca = true) : gapsE (l ++ [e]) = gapsE l := by
  unfold gapsE
  rw [List.filter_append, List.filter_cons, if_neg (by simp [h])]
  simp
theorem can_new (l : List Evn) (e : Evn) (d : Int) : canE (l ++ [e]) d = (canE l d || ((e.id == d) && e.ca)) := by
  unfold canE
  rw [List.any_append]
  simp
theorem ids_new {l : List Evn} {e : Evn} (h : idsE l) (hn : l.any (fun a => a.id == e.id) = false) : idsE (l ++ [e]) := by
  rw [List.any_eq_false] at hn
  unfold idsE
  rw [List.pairwise_append]
  refine ⟨h, by simp, fun a ha b hb => ?_⟩
  simp at hb
  subst hb
  simpa using hn a ha
/-- A break gets its end. -/
theorem gaps_end {l : List Evn} (ev tm : Int) : gapsE (mapId l ev fun e => { e with en := tm, op := false, ca := e.ca }) = mapId (gapsE l) ev fun e => { e with en := tm, op := false, ca := e.ca } := by
  unfold gapsE mapId
  induction l with
  | nil => rfl
  | cons x r ih =>
    rw [List.map_cons, List.filter_cons, List.filter_cons, ih]
    by_cases hx : x.id = ev
    · simp only [if_pos hx]
      by_cases hc : x.ca = true
      · simp [hc]
      · simp [hc, hx]
    · simp only [if_neg hx]
      by_cases hc : x.ca = true
      · simp [hc]
      · simp [hc, hx]
/-- A break that ends before it begins goes. -/
theorem gaps_drop {l : List Evn} (ev : Int) {f : Evn → Evn} (hf : ∀ e, (f e).ca = true) : gapsE (mapId l ev f) = (gapsE l).filter fun a => !(a.id == ev) := by
  unfold gapsE mapId
  induction l with
  | nil => rfl
  | cons x r ih =>
    rw [List.map_cons, List.filter_cons, List.filter_cons, ih]
    by_cases hx : x.id = ev
    · simp only [if_pos hx, hf, Bool.not_true, Bool.false_eq_true, if_false]
      by_cases hc : x.ca = true
      · simp [hc]
      · simp [hc, hx]
    · simp only [if_neg hx]
      by_cases hc : x.ca = true
      · simp [hc]
      · simp [hc, hx]
theorem can_drop {l : List Evn} (ev d : Int) {f : Evn → Evn} (hf : ∀ e, (f e).ca = true ∧ (f e).id = e.id) (h : l.any (fun e => e.id == ev) = true) : canE (mapId l ev f) d = ((d == ev) || canE l d) := by
  unfold canE mapId
  rw [Bool.eq_iff_iff]
  simp only [List.any_eq_true, List.mem_map, Bool.and_eq_true, beq_iff_eq, Bool.or_eq_true]
  constructor
  · rintro ⟨e, ⟨a, ha, rfl⟩, h1, h2⟩
    by_cases hx : a.id = ev
    · rw [if_pos hx, (hf a).2] at h1
      exact .inl (by rw [← h1]; exact hx)
    · rw [if_neg hx] at h1 h2
      exact .inr ⟨a, ha, h1, h2⟩
  · rintro (rfl | ⟨a, ha, h1, h2⟩)
    · obtain ⟨a, ha, hx⟩ := List.any_eq_true.1 h
      have hx' : a.id = d := by simpa using hx
      exact ⟨_, ⟨a, ha, rfl⟩, by rw [if_pos hx', (hf a).2]; exact hx', by rw [if_pos hx']; exact (hf a).1⟩
    · refine ⟨_, ⟨a, ha, rfl⟩, ?_, ?_⟩
      · split
        · rw [(hf a).2]; exact h1
        · exact h1
      · split
        · exact (hf a).1
        · exact h2
theorem can_keep {l : List Evn} (ev d : Int) {f : Evn → Evn} (hf : ∀ e, (f e).ca = e.ca ∧ (f e).id = e.id) : canE (mapId l ev f) d = canE l d := by
  unfold canE mapId
  rw [List.any_map]
  congr 1
  funext a
  simp only [Function.comp]
  split
  · rw [(hf a).1, (hf a).2]
  · rfl
/-- In place of the whole list, one element. -/
theorem mapId_same {l : List Evn} (hd : idsE l) {ev : Int} {e : Evn} (h : findE l ev = some e) {f g : Evn → Evn} (hfg : f e = g e) : mapId l ev f = mapId l ev g := by
  have he : e ∈ l := List.mem_of_find?_eq_some h
  have hi : e.id = ev := by have := List.find?_some h; simpa using this
  unfold mapId
  apply List.map_congr_left
  intro a ha
  by_cases hx : a.id = ev
  · rw [if_pos hx, if_pos hx, hd.one ha he (by rw [hx, hi]), hfg]
  · rw [if_neg hx, if_neg hx]
end Go.Proofs.Ytpdeodoidlcdoaa

/- What calls leave, behind names. -/
namespace Go.Proofs.Ytpdeodoidlcdoaa
open Go.RowKit

/-- A slice that reads as l, and a fault. -/
def SlPost {α : Type} (w : World) (k : Nat) (enc : α → List Value) (l : List α) (f : Int) : Ending → World → Prop :=
  fun e w' => ∃ v', e = .returned (.tuple #[v', .int .i64 f]) ∧ Sl w' k enc v' l ∧ Below w.heap.size w w'

theorem SlPost.mk {α : Type} {w w' : World} {k : Nat} {enc : α → List Value} {l : List α} {f f' : Int} {v' : Value} (hf : f' = f) (hs : Sl w' k enc v' l) (hb : Below w.heap.size w w') :
    SlPost w k enc l f (.returned (.tuple #[v', .int .i64 f'])) w' := ⟨v', by rw [hf], hs, hb⟩

/-- A slice that reads as l. -/
def SlRet {α : Type} (w : World) (k : Nat) (enc : α → List Value) (l : List α) : Ending → World → Prop :=
  fun e w' => ∃ v', e = .returned v' ∧ Sl w' k enc v' l ∧ Below w.heap.size w w'

theorem SlRet.mk {α : Type} {w w' : World} {k : Nat} {enc : α → List Value} {l : List α} {v' : Value} (hs : Sl w' k enc v' l) (hb : Below w.heap.size w w') :
    SlRet w k enc l (.returned v') w' := ⟨v', rfl, hs, hb⟩

/-- What the call owns: a slice that it has built, which reads as l. -/
def Own {α : Type} (w : World) (base : Nat) (E : TypeId) (k : Nat) (enc : α → List Value) (v : Value) (l : List α) : Prop := w.ownsRow base E k v l.length (l.flatMap enc)

theorem Own.nil {α : Type} {w : World} {base : Nat} {E : TypeId} {k : Nat} {enc : α → List Value} : Own w base E k enc (.slice none 0 0) ([] : List α) := World.ownsRow_nil _ _ _ _
theorem Own.al {α : Type} {w : World} {base : Nat} {E : TypeId} {k : Nat} {enc : α → List Value} {v : Value} {l : List α} (h : Own w base E k enc v l) (o : Obj) : Own (w.alloc o) base E k enc v l := World.ownsRow.alloc h o
theorem Own.sl {α : Type} {w : World} {base : Nat} {E : TypeId} {k : Nat} {enc : α → List Value} {v : Value} {l : List α} (h : Own w base E k enc v l) (hk : ∀ x, (enc x).length = k) : Sl w k enc v l := Sl.own hk h
theorem Own.drewN {α : Type} {w : World} {base : Nat} {E : TypeId} {k : Nat} {enc : α → List Value} {v : Value} {l : List α} (h : Own w base E k enc v l) (n : Nat) : Own (w.drewN n) base E k enc v l := h

/-- The slice type t has elements of type E, of k cells. -/
def SlT (P : Program) (t E : TypeId) (k bytes : Nat) : Prop :=
  ∃ i z, P.underlying t = some (.slice E) ∧ P.info? E = some i ∧ i.zero = some z ∧ i.size = k ∧ i.bytes = bytes ∧ z.cells.size = k ∧ 0 < k ∧ 0 < bytes

/-- 's = append(s, y)', s a slice that the call has built. -/
theorem wpList_push {α : Type} {P : Program} {ops : Array Oper} {rest : List Oper} {o : Oper} {a : Act} {Q : Exit → Act → World → Prop} (hgd : o.guard = none) (s x : Operand) (t : TypeId)
    (ho : o.op = .call { callee := .builtin .append, args := #[s, x], argTypes := #[t, t] })
    {E : TypeId} {k bytes : Nat} (hT : SlT P t E k bytes) {enc : α → List Value} {base : Nat} {v : Value} {l : List α} {W : World} {C : List Value} (hs : a.eval s = v)
    {A : Nat} (hx : a.eval x = .slice (some ⟨A, 0, none⟩) 1 1)
    (y : α) (hC : enc y = C) (hk : C.length = k) (h1 : C.all Value.oneCell' = true)
    (hown : Own W base E k enc v l) (hA : A = W.heap.size) (hn : (l.length + 1) * bytes ≤ 140737488355328) (hbase : base ≤ W.heap.size)
    (h : ∀ v' w', Own w' base E k enc v' (l ++ [y]) → Below base W w' → wpList P ops Q rest (a.put o.dst v') w') : wpList P ops Q (o :: rest) a (W.alloc (.cells C.toArray E)) := by
  obtain ⟨i, z, ht, hi, hz, hsize, hby, hzs, hsz, hb0⟩ := hT
  subst hA
  have hlen : l.length + 1 ≤ 140737488355328 := Nat.le_trans (Nat.le_mul_of_pos_right _ hb0) hn
  refine wpList_append_own _ hgd s x t ho base E i z k bytes ht hi hz hsize hby hzs hsz v l.length (l.flatMap enc) hs (World.ownsRow.alloc hown _) ⟨W.heap.size, 0, none⟩ 1 1 C hx (by omega)
    (cell_new_list W C E (0, 0)) (fun u hu => List.all_eq_true.1 h1 u hu) (by unfold maxLen; omega) hn (by simp; omega) (fun v' w' h2 h3 _ => h v' w' ?_ ?_)
  · unfold Own
    rw [List.flatMap_append, List.length_append, List.flatMap_singleton, hC]
    exact h2
  · exact ((Below.refl _ _).alloc hbase _).grown h3 (by simp; omega) (fun k hk => (World.ownsRow.lt hown k hk).1)
end Go.Proofs.Ytpdeodoidlcdoaa

/- The follower of cues in memory: its breaks, and a map of what is cancelled. -/
import Derived.Maps.Views
import Derived.Test.YtpdeodoidlcdoaaG02
import Derived.Test.YtpdeodoidlcdoaaG03
import Derived.Test.YtpdeodoidlcdoaaG05
import Derived.Deep.RegionLaw
import Derived.Deep.Upon
namespace Go.Proofs.Ytpdeodoidlcdoaa
open Go.RowKit
open Go.Maps (Keyed IsMap)

theorem keyedI : Keyed Try.prog 3 := Go.Maps.int_keyed Try.underlying3
theorem zeroB (w : World) : (zeroValue 4).run Try.prog w = .ok (.bool false) w := by kernel_rfl

/-- Block b is a map of at most n entries, which says of a number what f does. -/
def MapR (w : World) (b n : Nat) (f : Int → Bool) : Prop :=
  ∃ D : DataW Unit, w.ownsMap Try.prog 3 (plainElem Try.prog 4) b n D ∧ IsMap D ∧ ∀ x : Int, D.atKey (.int .i64 x) (.lit (.bool false)) = .lit (.bool (f x))
section
variable {w w' : World} {b n : Nat} {f : Int → Bool}
theorem MapR.made (w : World) : MapR (w.alloc (.map #[] 0)) w.heap.size 0 (fun _ => false) :=
  ⟨.map [], World.ownsMap_made _ _ _ _, Go.Maps.isMap_empty, fun _ => rfl⟩
theorem MapR.mono (h : MapR w b n f) {m : Nat} (hm : n ≤ m) : MapR w b m f := by
  obtain ⟨D, h1, h2, h3⟩ := h
  exact ⟨D, h1.mono hm, h2, h3⟩
theorem MapR.congr (h : MapR w b n f) {g : Int → Bool} (hg : ∀ x, f x = g x) : MapR w b n g := by
  obtain ⟨D, h1, h2, h3⟩ := h
  exact ⟨D, h1, h2, fun x => by rw [← hg]; exact h3 x⟩
theorem MapR.lt (h : MapR w b n f) : b < w.heap.size := by
  obtain ⟨D, h1, _⟩ := h
  exact h1.lt
theorem MapR.blk (h : MapR w b n f) : ∃ es cl, w.heap[b]? = some (.map es cl) := by
  obtain ⟨D, ⟨es, cl, h1, _⟩, _⟩ := h
  exact ⟨es, cl, h1⟩
theorem MapR.same (h : MapR w b n f) (hb : w'.heap[b]? = w.heap[b]?) : MapR w' b n f := by
  obtain ⟨D, ⟨es, cl, h1, h2⟩, h3⟩ := h
  exact ⟨D, ⟨es, cl, hb.trans h1, h2⟩, h3⟩
theorem MapR.look (h : MapR w b n f) (x : Int) (hx : (Lit.int .i64 x).wf = true) : (Instr.lookup 72 (.map (some b)) (.int .i64 x) false).run Try.prog w = .ok (.bool (f x)) w := by
  obtain ⟨D, h1, h2, h3⟩ := h
  obtain ⟨c, hr, hc⟩ := lookup_bool h1 keyedI Try.underlying72 Try.underlying4 (zeroB w) (key := .int .i64 x) (Go.Maps.keyOf_int_mk Try.underlying3 hx)
  rw [h3 x] at hc
  have : f x = c := by simpa using hc
  rw [this]
  exact hr
theorem MapR.put (h : MapR w b n f) (hn : n < maxLen) (x : Int) (hx : (Lit.int .i64 x).wf = true) :
    ∃ w', (Instr.mapUpdate 72 (.map (some b)) (.int .i64 x) (.bool true)).run Try.prog w = .ok () w' ∧ MapR w' b (n + 1) (fun d => (d == x) || f d) ∧ w.grownBy w' (some b) := by
  obtain ⟨D, h1, h2, h3⟩ := h
  obtain ⟨w', hr, ho, hg⟩ := h1.update keyedI Try.underlying72 hn (key := .int .i64 x) (val := .bool true) (Go.Maps.keyOf_int_mk Try.underlying3 hx) (plainElem_bool Try.underlying4 true)
  refine ⟨w', hr, ⟨_, ho, h2.put _ _, fun d => ?_⟩, hg⟩
  by_cases e : d = x
  · subst e
    rw [Go.Maps.atKey_put_same h2 (by trivial)]
    simp
  · rw [Go.Maps.atKey_put_other (by intro h; cases h; exact e rfl), h3 d]
    simp [e]
end

abbrev encG (e : Evn) : List Value := [.int .i64 e.id, .int .i64 e.be, .int .i64 e.en, .bool e.op]
theorem encG_len (e : Evn) : (encG e).length = 4 := rfl

/-- Block P is a follower, its map in block M; its breaks are G. -/
def Fol (w : World) (B P M base n : Nat) (G : List Evn) (can : Int → Bool) : Prop :=
  B ≤ P ∧ B ≤ M ∧ P < base ∧ M < base ∧ base ≤ w.heap.size ∧ ∃ v, w.heap[P]? = some (.cells #[v, .map (some M)] 75 (0, 0)) ∧ Own w base 78 4 encG v G ∧ MapR w M n can
/-- Cells that are no follower's and no breaks are kept. -/
def KeepF (P : Nat) (w w' : World) : Prop := ∀ (b : Nat) (c : Array Value) (T : TypeId) (fr : Nat × Nat), w.heap[b]? = some (Obj.cells c T fr) → T ≠ 78 → b ≠ P → w'.heap[b]? = some (Obj.cells c T fr)
theorem KeepF.refl (P : Nat) (w : World) : KeepF P w w := fun _ _ _ _ h _ _ => h
theorem KeepF.trans {P : Nat} {a b c : World} (h : KeepF P a b) (k : KeepF P b c) : KeepF P a c := fun i d T fr h1 h2 h3 => k i d T fr (h i d T fr h1 h2 h3) h2 h3
theorem KeepF.of_keepT {P : Nat} {w w' : World} (h : KeepT 78 w w') : KeepF P w w' := fun i d T fr h1 h2 _ => h i d T fr h1 h2
theorem KeepF.alloc {P : Nat} {a w : World} (h : KeepF P a w) (o : Obj) : KeepF P a (w.alloc o) := h.trans (KeepF.of_keepT ((KeepT.refl _ _).alloc o))
theorem KeepF.below {P : Nat} {a b c : World} (h : KeepF P a b) (hb : Below b.heap.size b c) : KeepF P a c := h.trans (KeepF.of_keepT (KeepT.of_below hb))
theorem KeepF.setP {P : Nat} {a w : World} (h : KeepF P a w) (j : Nat) (u : Value) : KeepF P a (w.setCell ⟨P, j, none⟩ u) := fun i d T fr h1 h2 h3 => by
  rw [Below.heap_setCell w ⟨P, j, none⟩ u i h3]
  exact h i d T fr h1 h2 h3
theorem KeepF.setOwn {P : Nat} {a w : World} {g j : Nat} {c : Array Value} {fr : Nat × Nat} (h : KeepF P a w) (hg : w.heap[g]? = some (Obj.cells c 78 fr)) (u : Value) : KeepF P a (w.setCell ⟨g, j, none⟩ u) := fun i d T fr h1 h2 h3 => by
  have h4 := h i d T fr h1 h2 h3
  rw [Below.heap_setCell w ⟨g, j, none⟩ u i (fun e => by
    have e : i = g := e
    subst e
    rw [hg] at h4
    simp only [Option.some.injEq, Obj.cells.injEq] at h4
    exact h2 h4.2.1.symm)]
  exact h4
theorem KeepF.map {P M : Nat} {a b c : World} (h : KeepF P a b) (hM : ∃ es cl, b.heap[M]? = some (.map es cl)) (hg : b.grownBy c (some M)) : KeepF P a c := fun i d T fr h1 h2 h3 => by
  have h4 := h i d T fr h1 h2 h3
  rw [hg.block i (Array.getElem?_eq_some_iff.1 h4).1 (fun e => by
    obtain ⟨es, cl, hM⟩ := hM
    simp only [Option.some.injEq] at e
    subst e
    rw [hM] at h4
    cases h4)]
  exact h4
/-- What a call of the follower leaves. -/
def FolPost (w : World) (B P M base n : Nat) (G : List Evn) (can : Int → Bool) (r : Ending) : Ending → World → Prop := fun e w' => e = r ∧ Fol w' B P M base n G can ∧ Below B w w' ∧ KeepF P w w'
theorem FolPost.mk {w w' : World} {B P M base n : Nat} {G : List Evn} {can : Int → Bool} {r e : Ending} (he : e = r) (h : Fol w' B P M base n G can) (hb : Below B w w') (hk : KeepF P w w') : FolPost w B P M base n G can r e w' := ⟨he, h, hb, hk⟩
theorem Fol.below {w w' : World} {B P M base n : Nat} {G : List Evn} {can : Int → Bool} (h : Fol w B P M base n G can) (hb : Below w.heap.size w w') : Fol w' B P M base n G can := by
  obtain ⟨h1, h2, h3, h4, h5, v, h6, h7, h8⟩ := h
  refine ⟨h1, h2, h3, h4, Nat.le_trans h5 hb.size, v, ?_, h7.below hb (Nat.le_refl _), h8.same (hb.block M h8.lt)⟩
  rw [hb.block P (Array.getElem?_eq_some_iff.1 h6).1]
  exact h6
theorem Fol.ne {w : World} {B P M base n : Nat} {G : List Evn} {can : Int → Bool} (h : Fol w B P M base n G can) : P ≠ M := fun e => by
  obtain ⟨h1, h2, h3, h4, h5, v, h6, h7, h8⟩ := h
  obtain ⟨es, cl, h9⟩ := h8.blk
  rw [e, h9] at h6
  cases h6
/-- The follower's breaks are stored anew. -/
theorem Fol.push {w w5 : World} {B P M base n : Nat} {G OUT : List Evn} {can : Int → Bool} {v5 : Value} (h : Fol w B P M base n G can) (hb : Below base w w5) (hk : KeepT 78 w w5) (ho : Own w5 base 78 4 encG v5 OUT) :
    Fol (w5.setCell ⟨P, 0, none⟩ v5) B P M base n OUT can ∧ Below B w (w5.setCell ⟨P, 0, none⟩ v5) ∧ KeepF P w (w5.setCell ⟨P, 0, none⟩ v5) := by
  have hne := h.ne
  obtain ⟨h1, h2, h3, h4, h5, v, h6, h7, h8⟩ := h
  have hP := hk _ _ _ _ h6 (by decide)
  have hM : (w5.setCell ⟨P, 0, none⟩ v5).heap[M]? = w.heap[M]? := (Below.heap_setCell w5 ⟨P, 0, none⟩ v5 M (fun e => hne e.symm)).trans (hb.block M h4)
  have hPP := heap_setCell_same w5 P 0 _ _ v5 hP
  have hsz := hb.size
  exact ⟨⟨h1, h2, h3, h4, by simp; omega, v5, hPP, ownsRow_setCell_below ho h3 _, h8.same hM⟩, (hb.mono (by omega)).setCell h1 _, (KeepF.of_keepT hk).setP 0 _⟩
theorem infoGap : (Try.prog.info? 78).map (fun i => (i.zero, i.size, i.bytes)) = some (some (.agg #[.int .i64 0, .int .i64 0, .int .i64 0, .bool false]), 4, 32) := by kernel_rfl
theorem slGap : SlT Try.prog 73 78 4 32 := by
  obtain ⟨i0, hi, hz0, hz1, hz2⟩ := info_parts infoGap
  exact ⟨i0, _, Try.underlying73, hi, hz0, hz1, hz2, rfl, by decide, by decide⟩
end Go.Proofs.Ytpdeodoidlcdoaa

/- One block alone may have changed. -/
namespace Go.Proofs.Ytpdeodoidlcdoaa
open Go.RowKit

/-- Of what was there, block P alone may have changed. -/
def Onl (P : Nat) (w w' : World) : Prop := w.grownBy w' (some P)
theorem Onl.refl (P : Nat) (w : World) : Onl P w w := ⟨rfl, rfl, rfl, Nat.le_refl _, fun _ _ _ => rfl⟩
theorem Onl.size {P : Nat} {a b : World} (h : Onl P a b) : a.heap.size ≤ b.heap.size := World.grownBy.size h
theorem Onl.trans {P : Nat} {a b c : World} (h : Onl P a b) (k : Onl P b c) : Onl P a c :=
  ⟨(World.grownBy.os k).trans (World.grownBy.os h), (World.grownBy.tape k).trans (World.grownBy.tape h), (World.grownBy.output k).trans (World.grownBy.output h), Nat.le_trans h.size k.size, fun i hi hP =>
    (World.grownBy.block k i (Nat.lt_of_lt_of_le hi h.size) hP).trans (World.grownBy.block h i hi hP)⟩
theorem Onl.of_below {P : Nat} {a b : World} (h : Below a.heap.size a b) : Onl P a b := ⟨h.os, h.tape, h.output, h.size, fun i hi _ => h.block i hi⟩
theorem Onl.below {P : Nat} {a b c : World} (h : Onl P a b) (k : Below b.heap.size b c) : Onl P a c := h.trans (.of_below k)
theorem Onl.set (P : Nat) (w : World) (o : Nat) (v : Value) : Onl P w (w.setCell ⟨P, o, none⟩ v) :=
  ⟨rfl, rfl, rfl, by simp, fun i _ hP => Below.heap_setCell w ⟨P, o, none⟩ v i (fun e => hP (by rw [e]))⟩
theorem Onl.block {P : Nat} {a b : World} (h : Onl P a b) {i : Nat} {o : Obj} (hi : a.heap[i]? = some o) (hP : i ≠ P) : b.heap[i]? = some o :=
  (World.grownBy.block h i (Array.getElem?_eq_some_iff.1 hi).1 (fun e => hP (by simpa using e))).trans hi
theorem Onl.toBelow {P B : Nat} {a b : World} (h : Onl P a b) (hB : B ≤ a.heap.size) (hP : B ≤ P) : Below B a b :=
  (Below.refl B a).grown h hB (fun k hk => by simp only [Option.some.injEq] at hk; omega)

/-- A slice that does not lie in block P. -/
def offB (P : Nat) (v : Value) : Prop := ∀ a n c, v = .slice (some a) n c → a.block ≠ P
theorem offB.nil (P : Nat) : offB P (.slice none 0 0) := fun a n c h => by simp at h
theorem offB.mk {P b o n c : Nat} (h : b ≠ P) : offB P (.slice (some ⟨b, o, none⟩) n c) := fun a n c e => by
  simp only [Value.slice.injEq, Option.some.injEq] at e
  obtain ⟨rfl, _⟩ := e
  exact h
theorem Own.offB {α : Type} {w : World} {base P : Nat} {E : TypeId} {k : Nat} {enc : α → List Value} {v : Value} {l : List α} (h : Own w base E k enc v l) (hP : P < base) : offB P v := by
  obtain ⟨_, h2⟩ := h
  rcases h2 with ⟨rfl, _⟩ | ⟨g, cap, cur, rfl, hg, _⟩
  · exact .nil P
  · exact .mk (by omega)
theorem Sl.onl {α : Type} {w w' : World} {P k : Nat} {enc : α → List Value} {v : Value} {l : List α} (h : Sl w k enc v l) (hv : offB P v) (ho : Onl P w w') : Sl w' k enc v l := by
  obtain ⟨ao, cap, rfl, h2, h3, h4, h5⟩ := h
  refine ⟨ao, cap, rfl, h2, h3, h4, fun i x hx => ?_⟩
  obtain ⟨b, off, rfl, hc⟩ := h5 i x hx
  refine ⟨b, off, rfl, fun j u hu => ?_⟩
  have hcell := hc j u hu
  exact (World.grownBy.cell ho hcell (fun e => hv _ _ _ rfl (by simpa using e)))
theorem Sl.onlE {α : Type} {w w' : World} {P k : Nat} {enc : α → List Value} {v : Value} {l : List α} (h : Sl w k enc v l) (hv : l ≠ [] → offB P v) (ho : Onl P w w') : Sl w' k enc v l := by
  by_cases e : l = []
  · subst e
    obtain ⟨ao, cap, rfl, h2, h3, h4, h5⟩ := h
    exact ⟨ao, cap, rfl, h2, h3, h4, fun i x hx => by simp at hx⟩
  · exact h.onl (hv e) ho
/-- A slice with elements lies in what was there. -/
theorem Sl.offE {α : Type} {w : World} {P k : Nat} {enc : α → List Value} {v : Value} {l : List α} (h : Sl w k enc v l) (hk : ∀ x, 0 < (enc x).length) (hP : w.heap.size ≤ P) (hne : l ≠ []) : offB P v := fun a n c hv hb => by
  obtain ⟨ao, cap, h1, _, _, _, hel⟩ := h
  obtain ⟨x, r, rfl⟩ := List.exists_cons_of_ne_nil hne
  obtain ⟨b, off, hao, hc⟩ := hel 0 x rfl
  rw [hv] at h1
  simp only [Value.slice.injEq] at h1
  obtain ⟨h1, _⟩ := h1
  rw [hao] at h1
  simp only [Option.some.injEq] at h1
  have hlt : b < w.heap.size := World.block_lt_of_cell? w _ (hc 0 _ (List.getElem?_eq_getElem (hk x)))
  rw [h1] at hb
  simp at hb
  omega
theorem lt_of_blk {w : World} {i : Nat} {o : Obj} (h : w.heap[i]? = some o) : i < w.heap.size := (Array.getElem?_eq_some_iff.1 h).1
end Go.Proofs.Ytpdeodoidlcdoaa

/- A cue that begins a break: the program. -/
namespace Go.Proofs.Ytpdeodoidlcdoaa
open Go.RowKit

theorem step_pushK {α : Type} {P : Program} {ops : Array Oper} {o : Oper} {a : Act} {Q : Exit → Act → World → Prop} {K : Act → World → Prop} {X : Prop} (hgd : o.guard = none) (s x : Operand) (t : TypeId)
    (ho : o.op = .call { callee := .builtin .append, args := #[s, x], argTypes := #[t, t] })
    {E : TypeId} {k bytes : Nat} (hT : SlT P t E k bytes) {enc : α → List Value} {base : Nat} {v : Value} {l : List α} {W : World} {C : List Value} (hs : a.eval s = v)
    {A : Nat} (hx : a.eval x = .slice (some ⟨A, 0, none⟩) 1 1)
    (y : α) (hC : enc y = C) (hk : C.length = k) (h1 : C.all Value.oneCell' = true)
    (hown : Own W base E k enc v l) (hA : A = W.heap.size) (hn : (l.length + 1) * bytes ≤ 140737488355328) (hbase : base ≤ W.heap.size)
    (h : ∀ v' w', Own w' base E k enc v' (l ++ [y]) → Below base W w' → KeepT E W w' → K (a.put o.dst v') w') :
    if Region.wanted o (yielded ops a.tmps) = true then Oper.wp P o a (W.alloc (.cells C.toArray E)).drew K Q else X := by
  have hw : Region.wanted o (yielded ops a.tmps) = true := by simp [Region.wanted, hgd]
  rw [if_pos hw]
  obtain ⟨i, z, ht, hi, hz, hsize, hby, hzs, hsz, hb0⟩ := hT
  subst hA
  have hlen : l.length + 1 ≤ 140737488355328 := Nat.le_trans (Nat.le_mul_of_pos_right _ hb0) hn
  refine wp_append_own _ s x t ho base E i z k bytes ht hi hz hsize hby hzs hsz v l.length (l.flatMap enc) hs (World.ownsRow.alloc hown _) ⟨W.heap.size, 0, none⟩ 1 1 C hx (by omega)
    (cell_new_list W C E (0, 0)) (fun u hu => List.all_eq_true.1 h1 u hu) (by unfold maxLen; omega) hn (by show base ≤ (W.alloc _).heap.size; simp; omega) (fun v' w' h2 h3 _ => h v' w' ?_ ?_ ?_)
  · unfold Own
    rw [List.flatMap_append, List.length_append, List.flatMap_singleton, hC]
    exact h2
  · have h3' : (W.alloc (.cells C.toArray E)).grownBy w' v.ownBlock := ⟨h3.os, h3.tape, h3.output, h3.size, h3.block⟩
    exact ((Below.refl _ _).alloc hbase _).grown h3' (by simp; omega) (fun k hk => (World.ownsRow.lt hown k hk).1)
  · intro b c T fr hb hT
    have hlt : b < W.heap.size := (Array.getElem?_eq_some_iff.1 hb).1
    have hb' : (W.alloc (.cells C.toArray E)).heap[b]? = some (.cells c T fr) := by rw [Below.heap_alloc W _ b hlt]; exact hb
    have hsz2 : (W.alloc (.cells C.toArray E)).heap.size = W.heap.size + 1 := by simp
    rw [h3.block b (by show b < (W.alloc (.cells C.toArray E)).heap.size; omega) ?_]
    · exact hb'
    · intro e
      obtain ⟨_, h4⟩ := hown
      rcases h4 with ⟨rfl, _⟩ | ⟨g, cap, cur, rfl, _, hh, _⟩
      · simp [Value.ownBlock] at e
      · simp only [Value.ownBlock, Option.some.injEq] at e
        subst e
        rw [hh] at hb
        simp only [Option.some.injEq, Obj.cells.injEq] at hb
        exact hT hb.2.1.symm

/-- Does a break stand against one that begins? -/
def blk (G : List Evn) (ev tm : Int) : Bool := G.any fun g => (g.id == ev) || (g.op && decide (g.be ≤ tm)) || decide (tm < g.be) || (!g.op && decide (tm < g.en))
def blk1 (g : Evn) (ev tm : Int) : Bool := (g.id == ev) || (g.op && decide (g.be ≤ tm)) || decide (tm < g.be) || (!g.op && decide (tm < g.en))

theorem free_blk {w : World} {b i : Nat} {c : Array Value} {T : TypeId} (h : w.heap[b]? = some (.cells c T (0, 0))) : w.frozen? ⟨b, i, none⟩ = false := by simp [World.frozen?, h]
/-- What a cue that begins a break leaves. -/
def outG (G : List Evn) (cn : Bool) (c : Cue) (tm : Int) : List Evn := if (cn || blk G c.ev tm) = true then G else G ++ [⟨c.ev, tm, tm + c.le, !c.au, false⟩]
def outD (G : List Evn) (cn : Bool) (c : Cue) (tm : Int) : Bool := !(cn || blk G c.ev tm)

set_option maxRecDepth 100000 in
set_option maxHeartbeats 4000000 in
theorem fout_any (w : World) (B P M base n : Nat) (G : List Evn) (can : Int → Bool) (c : Cue) (tm : Int) (h : Fol w B P M base n G can) (hlen : G.length ≤ 1000000000000) (ht : -2000000000000000 ≤ tm ∧ tm ≤ 2000000000000000) (hle : 0 ≤ c.le ∧ c.le ≤ 8589934591) (hev : 0 ≤ c.ev ∧ c.ev ≤ 4294967295) :
    Calls Try.prog 34 #[.pointer (some ⟨P, 0, none⟩), agC c, .int .i64 tm] w (FolPost w B P M base n (outG G (can c.ev) c tm) can (.returned (.bool (outD G (can c.ev) c tm)))) := by
  have HF := Lib.hid h
  obtain ⟨hBP, hBM, hPb, hMb, hbs, v, hblk, hown, hmap⟩ := h
  have hPlt := lt_of_blk hblk
  have hMlt := hmap.lt
  have HA := Lib.hid ((Below.refl w.heap.size w).alloc (Nat.le_refl _) (boxC c))
  have HF1 := Lib.hid (HF.out.below HA.out)
  have hwf : (Lit.int .i64 c.ev).wf = true := by simp [Lit.wf]; exact ⟨by show (-9223372036854775808 : Int) ≤ _; omega, by omega⟩
  have hlk : ∀ k, (Instr.lookup 72 (.map (some M)) (.int .i64 c.ev) false).run Try.prog ((w.alloc (boxC c)).drewN k) = .ok (.bool (can c.ev)) ((w.alloc (boxC c)).drewN k) := fun k => by
    have hm : MapR ((w.alloc (boxC c)).drewN k) M n can := hmap.same (Below.heap_alloc w _ M hMlt)
    exact hm.look _ hwf
  have hP0 : w.cell? ⟨P, 0, none⟩ = some v := by rw [cell_of_block hblk]; rfl
  have hP1 : w.cell? ⟨P, 1, none⟩ = some (.map (some M)) := by rw [cell_of_block hblk]; rfl
  obtain ⟨ki, ev, no, ti, le, au⟩ := c
  simp only at hle hev hlk HA HF1 ⊢
  have hblkd : blk G ev tm = G.any (fun g => blk1 g ev tm) := rfl
  have HBD := Lib.hid hblkd
  obtain ⟨ao, cap, rfl, hcap, hmax, hnil, hel⟩ := hown.sl encG_len
  unfold maxLen at hmax
  obtain ⟨WB, hWB⟩ : ∃ WB, WB = w.alloc (boxC ⟨ki, ev, no, ti, le, au⟩) := ⟨_, rfl⟩
  have HBX : Hid (WB.heap[w.heap.size]? = some (boxC ⟨ki, ev, no, ti, le, au⟩)) := Lib.hid (by rw [hWB]; exact block_new w _)
  have hWs : Hid (WB.heap.size = w.heap.size + 1) := Lib.hid (by rw [hWB]; simp)
  have HWB := Lib.hid hWB
  have HK1 : Hid (KeepF P w WB) := Lib.hid (by rw [hWB]; exact (KeepF.refl P w).alloc _)
  have HB1 : Hid (Below w.heap.size w WB) := Lib.hid (by rw [hWB]; exact HA.out)
  have HF2 : Hid (Fol WB B P M base n G can) := Lib.hid (by rw [hWB]; exact HF1.out)
  have HEL := Lib.hid hel
  have HBB : Hid (B ≤ w.heap.size) := Lib.hid (by omega)
  clear hel hblk hown hmap hWB HA HF1 hblkd HF
  go_enter Try.func34, Try.ntmps34
  go_upto_region 1 with (fail)
  go_cut [15] (fun s15 w2 => s15 = .bool (can ev) ∧ ∃ k, w2 = (w.alloc (boxC ⟨ki, ev, no, ti, le, au⟩)).drewN k)
  case first =>
    go_quiet (fail)
    go_wp2
    go_meet
    exact ⟨rfl, _, rfl⟩
  obtain ⟨rfl, nq, rfl⟩ := hcut
  rw [← HWB.out]
  have hQ0 : WB.cell? ⟨P, 0, none⟩ = some (.slice ao G.length cap) := (HB1.out.cell (p := ⟨P, 0, none⟩) hPlt).trans hP0
  clear hlk hP0 hP1
  cases hc : can ev
  · go_wp2
    go_loopg [21] G.length (fun gg s21 wr => ∃ kk : Nat, kk ≤ G.length ∧ G.length - kk ≤ gg ∧ s21 = .int .i64 kk ∧ Aside (Below WB.heap.size WB wr) ∧ Aside (∀ j x, G[j]? = some x → j < kk → blk1 x ev tm = false))
    case atStart => exact ⟨0, Nat.zero_le _, by omega, rfl, below_drewN (Below.refl _ WB) _, fun j x _ hj => absurd hj (Nat.not_lt_zero _)⟩
    case round =>
      obtain ⟨kk, hkk, hg, rfl, BW, A⟩ := hrel
      have BW := Lib.hid BW.out
      have A := Lib.hid A.out
      by_cases hlt : kk < G.length
      · have hltz : (kk : Int) < (G.length : Int) := by omega
        obtain ⟨x, hx⟩ : ∃ x, G[kk]? = some x := ⟨G[kk], by simp [hlt]⟩
        obtain ⟨b, off, rfl, hcc⟩ := HEL.out kk x hx
        have hlt0 : b < WB.heap.size := by have := World.block_lt_of_cell? w _ (hcc 0 _ rfl); rw [hWs.out]; exact Nat.lt_succ_of_lt this
        have toW : ∀ o u, w.cell? ⟨b, o, none⟩ = some u → wr.cell? ⟨b, o, none⟩ = some u := fun o u hu => by
          refine (BW.out.cell (p := ⟨b, o, none⟩) hlt0).trans ((HB1.out.cell (p := ⟨b, o, none⟩) (World.block_lt_of_cell? w _ hu)).trans hu)
        have c0 : wr.cell? ⟨b, off + kk * 4, none⟩ = some (.int .i64 x.id) := toW _ _ (by have h := hcc 0 _ rfl; simpa using h)
        have c1 : wr.cell? ⟨b, off + kk * 4 + 1, none⟩ = some (.int .i64 x.be) := toW _ _ (hcc 1 _ rfl)
        have c2 : wr.cell? ⟨b, off + kk * 4 + 2, none⟩ = some (.int .i64 x.en) := toW _ _ (hcc 2 _ rfl)
        have c3 : wr.cell? ⟨b, off + kk * 4 + 3, none⟩ = some (.bool x.op) := toW _ _ (hcc 3 _ rfl)
        have hbx : wr.heap[w.heap.size]? = some (boxC ⟨ki, ev, no, ti, le, au⟩) := by rw [BW.out.block _ (by rw [hWs.out]; omega)]; exact HBX.out
        have hbl := lt_of_blk hbx
        have ce : wr.cell? ⟨w.heap.size, 1, none⟩ = some (.int .i64 ev) := by rw [cell_of_block hbx]; rfl
        have HX : Hid (G[kk]? = some x) := hx
        have hq : Hid (blk1 x ev tm = ((x.id == ev) || (x.op && decide (x.be ≤ tm)) || decide (tm < x.be) || (!x.op && decide (tm < x.en)))) := Lib.hid rfl
        clear hx hcc toW hbx
        obtain ⟨id, be, en, op, ca⟩ := x
        simp only at c0 c1 c2 c3 hq
        obtain ⟨wx, hwx⟩ : ∃ wx, wx = wr.alloc (.cells #[.int .i64 id, .int .i64 be, .int .i64 en, .bool op] 78) := ⟨_, rfl⟩
        have HWX := Lib.hid hwx
        clear hwx
        go_upto_region 6 with (fail)
        go_cut [56] (fun s56 w2 => s56 = .bool (blk1 ⟨id, be, en, op, ca⟩ ev tm) ∧ w2 = wx)
        case first =>
          have HR := hq
          clear hq
          by_cases q1 : id = ev
          · subst q1
            have hr : Hid (blk1 ⟨id, be, en, op, ca⟩ id tm = true) := Lib.hid (by rw [HR.out]; simp)
            clear HR
            go_wp2
            go_meet
            exact ⟨by rw [hr.out], HWX.out.symm⟩
          · by_cases q3 : tm < be
            · have hr : Hid (blk1 ⟨id, be, en, op, ca⟩ ev tm = true) := Lib.hid (by rw [HR.out]; simp [q3])
              have q2 : ¬ be ≤ tm := by omega
              clear HR
              cases op
              · go_wp2
                go_meet
                exact ⟨by rw [hr.out], HWX.out.symm⟩
              · go_wp2
                go_meet
                exact ⟨by rw [hr.out], HWX.out.symm⟩
            · have q2 : be ≤ tm := by omega
              cases op
              · have hr : Hid (blk1 ⟨id, be, en, false, ca⟩ ev tm = decide (tm < en)) := Lib.hid (by rw [HR.out]; simp [q1, q3])
                clear HR
                go_wp2
                go_meet
                exact ⟨by rw [hr.out]; simp [q1], HWX.out.symm⟩
              · have hr : Hid (blk1 ⟨id, be, en, true, ca⟩ ev tm = true) := Lib.hid (by rw [HR.out]; simp [q2])
                clear HR
                go_wp2
                go_meet
                exact ⟨by rw [hr.out], HWX.out.symm⟩
        obtain ⟨rfl, rfl⟩ := hcut
        have HBW2 : Hid (Below WB.heap.size WB wc) := Lib.hid (by rw [HWX.out]; exact BW.out.alloc (BW.out.size) _)
        clear c0 c1 c2 c3 ce hq HWX
        cases hb1 : blk1 ⟨id, be, en, op, ca⟩ ev tm
        · have HB1' := Lib.hid hb1
          clear hb1
          go_wp2
          go_roundg (G.length - (kk + 1))
          case measure => omega
          case rel =>
            refine ⟨kk + 1, by omega, by omega, by go_num, HBW2.out, (show Aside _ from fun j y hy hj => ?_)⟩
            by_cases e : j = kk
            · subst e
              have := HX.out.symm.trans hy
              simp at this; subst this; exact HB1'.out
            · exact A.out j y hy (by omega)
        · have hv : Hid (blk G ev tm = true) := Lib.hid (by rw [HBD.out]; exact List.any_eq_true.2 ⟨_, List.mem_of_getElem? HX.out, hb1⟩)
          clear hb1
          go_wp2
          go_ret
          have hwsz : w.heap.size ≤ WB.heap.size := by rw [hWs.out]; omega
          refine FolPost.mk (ret_bool (by unfold outD; rw [hv.out]; rfl)) ?_ ((HB1.out.mono HBB.out).trans (HBW2.out.mono (by omega))) ?_
          · unfold outG
            rw [hv.out, Bool.or_true, if_pos rfl]
            exact HF2.out.below HBW2.out
          · exact HK1.out.below HBW2.out
      · obtain rfl : kk = G.length := by omega
        have hltz : ¬ (G.length : Int) < (G.length : Int) := by omega
        have hv : Hid (blk G ev tm = false) := Lib.hid (by
          rw [HBD.out, List.any_eq_false]
          intro x hx
          obtain ⟨j, hj, rfl⟩ := List.mem_iff_getElem.1 hx
          rw [A.out j _ (List.getElem?_eq_getElem hj) hj]
          simp)
        have HF3 := Lib.hid (HF2.out.below BW.out)
        obtain ⟨_, _, _, _, hbs3, v3, hblk3, hown3, hmap3⟩ := HF3.out
        obtain ⟨ao3, L3, cap3, rfl⟩ := Own.slv encG_len hown3
        have hbx : wr.heap[w.heap.size]? = some (boxC ⟨ki, ev, no, ti, le, au⟩) := by rw [BW.out.block _ (by rw [hWs.out]; omega)]; exact HBX.out
        have c1 : wr.cell? ⟨w.heap.size, 1, none⟩ = some (.int .i64 ev) := by rw [cell_of_block hbx]; rfl
        have c4 : wr.cell? ⟨w.heap.size, 4, none⟩ = some (.int .i64 le) := by rw [cell_of_block hbx]; rfl
        have c5 : wr.cell? ⟨w.heap.size, 5, none⟩ = some (.bool au) := by rw [cell_of_block hbx]; rfl
        have p0 : wr.cell? ⟨P, 0, none⟩ = some (.slice ao3 L3 cap3) := by rw [cell_of_block hblk3]; rfl
        have f0 : wr.frozen? ⟨P, 0, none⟩ = false := by simp [World.frozen?, hblk3]
        have hwr : IntKind.i64.wrap (tm + le) = tm + le := IntWalk.i64_in _ (by omega)
        have hPr := lt_of_blk hblk3
        have HBK := Lib.hid hblk3
        have HOW := Lib.hid hown3
        have HMP := Lib.hid hmap3
        have hln := Lib.hid hlen
        clear hbx hblk3 hown3 hmap3 hlen hnil hcap hmax
        have HKT : Hid (KeepT 78 WB wr) := Lib.hid (KeepT.of_below BW.out)
        have HKW := Lib.hid (HK1.out.below BW.out)
        have HBW := Lib.hid ((HB1.out.mono HBB.out).trans (BW.out.mono (by rw [hWs.out]; omega)))
        have hbs4 : base ≤ wr.heap.size := hbs3
        obtain ⟨OUT, hOUT⟩ : ∃ l, l = outG G false ⟨ki, ev, no, ti, le, au⟩ tm := ⟨_, rfl⟩
        have HOUT : Hid (OUT = G ++ [⟨ev, tm, tm + le, !au, false⟩]) := Lib.hid (by rw [hOUT]; unfold outG; rw [hv.out]; rfl)
        have HOD : Hid (outD G false ⟨ki, ev, no, ti, le, au⟩ tm = true) := Lib.hid (by unfold outD; rw [hv.out]; rfl)
        have HOE := Lib.hid hOUT
        clear hOUT
        go_upto_region 9 with (fail)
        go_region_law (refine step_pushK rfl _ _ 73 rfl slGap rfl rfl ⟨ev, tm, tm + le, !au, false⟩ rfl rfl rfl HOW.out rfl (by have := hln.out; omega) hbs4 ?_; intro v5 w5 ho5 hb5 hk5; rw [← HOUT.out] at ho5; obtain ⟨ao5, L5, cap5, rfl⟩ := Own.slv encG_len ho5; have HO5 := Lib.hid ho5; have HB5 := Lib.hid hb5; have HK5 := Lib.hid hk5; have hblk5 := hk5 _ _ _ _ HBK.out (by decide); have hc5 : w5.cell? ⟨P, 0, none⟩ = some (.slice ao3 L3 cap3) := (cell_of_block hblk5).trans rfl; have hf5 := free_blk (i := 0) hblk5; have HBLK5 := Lib.hid hblk5; clear ho5 hb5 hk5 hblk5)
        all_goals
          go_wp2
          go_ret
          obtain ⟨r1, r2, r3⟩ := HF3.out.push HB5.out HK5.out HO5.out
          exact FolPost.mk (ret_bool HOD.out.symm) (by rw [← HOE.out]; exact r1) (HBW.out.trans r2) (HKW.out.trans r3)
  · go_wp2
    go_ret
    refine FolPost.mk (ret_bool (by unfold outD; rw [Bool.true_or]; rfl)) ?_ (below_drewN (HB1.out.mono HBB.out) _) ?_
    · unfold outG
      rw [Bool.true_or, if_pos rfl]
      exact HF2.out.below (below_drewN (Below.refl _ WB) nq)
    · exact HK1.out.below (below_drewN (Below.refl _ WB) nq)
end Go.Proofs.Ytpdeodoidlcdoaa

/- The follower of cues in memory: its breaks, and a map of what is cancelled. -/
import Derived.Maps.Views
import Derived.Test.YtaknkldbdijkeaaMapB
import Derived.Test.YtaknkldbdijkeaaBrkT
import Derived.Test.YtaknkldbdijkeaaWhol
import Derived.Test.YtaknkldbdijkeaaLib
namespace Go.Proofs.Ytaknkldbdijkeaa
open Go.RowKit
open Go.Maps (Keyed IsMap)

theorem keyedI : Keyed Try.prog 3 := Go.Maps.int_keyed Try.underlying3
theorem zeroB (w : World) : (zeroValue 4).run Try.prog w = .ok (.bool false) w := by kernel_rfl

/-- Block b is a map of at most n entries, which says of a number what f does. -/
def MapR (w : World) (b n : Nat) (f : Int → Bool) : Prop :=
  ∃ D : DataW Unit, w.ownsMap Try.prog 3 (plainElem Try.prog 4) b n D ∧ IsMap D ∧ ∀ x : Int, D.atKey (.int .i64 x) (.lit (.bool false)) = .lit (.bool (f x))
section
variable {w w' : World} {b n : Nat} {f : Int → Bool}
theorem MapR.made (w : World) : MapR (w.alloc (.map #[] 0)) w.heap.size 0 (fun _ => false) :=
  ⟨.map [], World.ownsMap_made _ _ _ _, Go.Maps.isMap_empty, fun _ => rfl⟩
theorem MapR.mono (h : MapR w b n f) {m : Nat} (hm : n ≤ m) : MapR w b m f := by
  obtain ⟨D, h1, h2, h3⟩ := h
  exact ⟨D, h1.mono hm, h2, h3⟩
theorem MapR.congr (h : MapR w b n f) {g : Int → Bool} (hg : ∀ x, f x = g x) : MapR w b n g := by
  obtain ⟨D, h1, h2, h3⟩ := h
  exact ⟨D, h1, h2, fun x => by rw [← hg]; exact h3 x⟩
theorem MapR.lt (h : MapR w b n f) : b < w.heap.size := by
  obtain ⟨D, h1, _⟩ := h
  exact h1.lt
theorem MapR.blk (h : MapR w b n f) : ∃ es cl, w.heap[b]? = some (.map es cl) := by
  obtain ⟨D, ⟨es, cl, h1, _⟩, _⟩ := h
  exact ⟨es, cl, h1⟩
theorem MapR.same (h : MapR w b n f) (hb : w'.heap[b]? = w.heap[b]?) : MapR w' b n f := by
  obtain ⟨D, ⟨es, cl, h1, h2⟩, h3⟩ := h
  exact ⟨D, ⟨es, cl, hb.trans h1, h2⟩, h3⟩
theorem MapR.look (h : MapR w b n f) (x : Int) (hx : (Lit.int .i64 x).wf = true) : (Instr.lookup 54 (.map (some b)) (.int .i64 x) false).run Try.prog w = .ok (.bool (f x)) w := by
  obtain ⟨D, h1, h2, h3⟩ := h
  obtain ⟨c, hr, hc⟩ := lookup_bool h1 keyedI Try.underlying54 Try.underlying4 (zeroB w) (key := .int .i64 x) (Go.Maps.keyOf_int_mk Try.underlying3 hx)
  rw [h3 x] at hc
  have : f x = c := by simpa using hc
  rw [this]
  exact hr
theorem MapR.put (h : MapR w b n f) (hn : n < maxLen) (x : Int) (hx : (Lit.int .i64 x).wf = true) :
    ∃ w', (Instr.mapUpdate 54 (.map (some b)) (.int .i64 x) (.bool true)).run Try.prog w = .ok () w' ∧ MapR w' b (n + 1) (fun d => (d == x) || f d) ∧ w.grownBy w' (some b) := by
  obtain ⟨D, h1, h2, h3⟩ := h
  obtain ⟨w', hr, ho, hg⟩ := h1.update keyedI Try.underlying54 hn (key := .int .i64 x) (val := .bool true) (Go.Maps.keyOf_int_mk Try.underlying3 hx) (plainElem_bool Try.underlying4 true)
  refine ⟨w', hr, ⟨_, ho, h2.put _ _, fun d => ?_⟩, hg⟩
  by_cases e : d = x
  · subst e
    rw [Go.Maps.atKey_put_same h2 (by trivial)]
    simp
  · rw [Go.Maps.atKey_put_other (by intro h; cases h; exact e rfl), h3 d]
    simp [e]
end

abbrev encG (e : Evn) : List Value := [.int .i64 e.id, .int .i64 e.be, .int .i64 e.en, .bool e.op]
theorem encG_len (e : Evn) : (encG e).length = 4 := rfl

/-- Block P is a follower, its map in block M; its breaks are G. -/
def Fol (w : World) (B P M base n : Nat) (G : List Evn) (can : Int → Bool) : Prop :=
  B ≤ P ∧ B ≤ M ∧ P < base ∧ M < base ∧ base ≤ w.heap.size ∧ ∃ v, w.heap[P]? = some (.cells #[v, .map (some M)] 57 (0, 0)) ∧ Own w base 60 4 encG v G ∧ MapR w M n can
/-- Cells that are no follower's and no breaks are kept. -/
def KeepF (P : Nat) (w w' : World) : Prop := ∀ (b : Nat) (c : Array Value) (T : TypeId) (fr : Nat × Nat), w.heap[b]? = some (Obj.cells c T fr) → T ≠ 60 → b ≠ P → w'.heap[b]? = some (Obj.cells c T fr)
theorem KeepF.refl (P : Nat) (w : World) : KeepF P w w := fun _ _ _ _ h _ _ => h
theorem KeepF.trans {P : Nat} {a b c : World} (h : KeepF P a b) (k : KeepF P b c) : KeepF P a c := fun i d T fr h1 h2 h3 => k i d T fr (h i d T fr h1 h2 h3) h2 h3
theorem KeepF.of_keepT {P : Nat} {w w' : World} (h : KeepT 60 w w') : KeepF P w w' := fun i d T fr h1 h2 _ => h i d T fr h1 h2
theorem KeepF.alloc {P : Nat} {a w : World} (h : KeepF P a w) (o : Obj) : KeepF P a (w.alloc o) := h.trans (KeepF.of_keepT ((KeepT.refl _ _).alloc o))
theorem KeepF.below {P : Nat} {a b c : World} (h : KeepF P a b) (hb : Below b.heap.size b c) : KeepF P a c := h.trans (KeepF.of_keepT (KeepT.of_below hb))
theorem KeepF.setP {P : Nat} {a w : World} (h : KeepF P a w) (j : Nat) (u : Value) : KeepF P a (w.setCell ⟨P, j, none⟩ u) := fun i d T fr h1 h2 h3 => by
  rw [Below.heap_setCell w ⟨P, j, none⟩ u i h3]
  exact h i d T fr h1 h2 h3
theorem KeepF.setOwn {P : Nat} {a w : World} {g j : Nat} {c : Array Value} {fr : Nat × Nat} (h : KeepF P a w) (hg : w.heap[g]? = some (Obj.cells c 60 fr)) (u : Value) : KeepF P a (w.setCell ⟨g, j, none⟩ u) := fun i d T fr h1 h2 h3 => by
  have h4 := h i d T fr h1 h2 h3
  rw [Below.heap_setCell w ⟨g, j, none⟩ u i (fun e => by
    have e : i = g := e
    subst e
    rw [hg] at h4
    simp only [Option.some.injEq, Obj.cells.injEq] at h4
    exact h2 h4.2.1.symm)]
  exact h4
theorem KeepF.map {P M : Nat} {a b c : World} (h : KeepF P a b) (hM : ∃ es cl, b.heap[M]? = some (.map es cl)) (hg : b.grownBy c (some M)) : KeepF P a c := fun i d T fr h1 h2 h3 => by
  have h4 := h i d T fr h1 h2 h3
  rw [hg.block i (Array.getElem?_eq_some_iff.1 h4).1 (fun e => by
    obtain ⟨es, cl, hM⟩ := hM
    simp only [Option.some.injEq] at e
    subst e
    rw [hM] at h4
    cases h4)]
  exact h4
/-- What a call of the follower leaves. -/
def FolPost (w : World) (B P M base n : Nat) (G : List Evn) (can : Int → Bool) (r : Ending) : Ending → World → Prop := fun e w' => e = r ∧ Fol w' B P M base n G can ∧ Below B w w' ∧ KeepF P w w'
theorem FolPost.mk {w w' : World} {B P M base n : Nat} {G : List Evn} {can : Int → Bool} {r e : Ending} (he : e = r) (h : Fol w' B P M base n G can) (hb : Below B w w') (hk : KeepF P w w') : FolPost w B P M base n G can r e w' := ⟨he, h, hb, hk⟩
theorem Fol.below {w w' : World} {B P M base n : Nat} {G : List Evn} {can : Int → Bool} (h : Fol w B P M base n G can) (hb : Below w.heap.size w w') : Fol w' B P M base n G can := by
  obtain ⟨h1, h2, h3, h4, h5, v, h6, h7, h8⟩ := h
  refine ⟨h1, h2, h3, h4, Nat.le_trans h5 hb.size, v, ?_, h7.below hb (Nat.le_refl _), h8.same (hb.block M h8.lt)⟩
  rw [hb.block P (Array.getElem?_eq_some_iff.1 h6).1]
  exact h6
theorem Fol.ne {w : World} {B P M base n : Nat} {G : List Evn} {can : Int → Bool} (h : Fol w B P M base n G can) : P ≠ M := fun e => by
  obtain ⟨h1, h2, h3, h4, h5, v, h6, h7, h8⟩ := h
  obtain ⟨es, cl, h9⟩ := h8.blk
  rw [e, h9] at h6
  cases h6
/-- The follower's breaks are stored anew. -/
theorem Fol.push {w w5 : World} {B P M base n : Nat} {G OUT : List Evn} {can : Int → Bool} {v5 : Value} (h : Fol w B P M base n G can) (hb : Below base w w5) (hk : KeepT 60 w w5) (ho : Own w5 base 60 4 encG v5 OUT) :
    Fol (w5.setCell ⟨P, 0, none⟩ v5) B P M base n OUT can ∧ Below B w (w5.setCell ⟨P, 0, none⟩ v5) ∧ KeepF P w (w5.setCell ⟨P, 0, none⟩ v5) := by
  have hne := h.ne
  obtain ⟨h1, h2, h3, h4, h5, v, h6, h7, h8⟩ := h
  have hP := hk _ _ _ _ h6 (by decide)
  have hM : (w5.setCell ⟨P, 0, none⟩ v5).heap[M]? = w.heap[M]? := (Below.heap_setCell w5 ⟨P, 0, none⟩ v5 M (fun e => hne e.symm)).trans (hb.block M h4)
  have hPP := heap_setCell_same w5 P 0 _ _ v5 hP
  have hsz := hb.size
  exact ⟨⟨h1, h2, h3, h4, by simp; omega, v5, hPP, ownsRow_setCell_below ho h3 _, h8.same hM⟩, (hb.mono (by omega)).setCell h1 _, (KeepF.of_keepT hk).setP 0 _⟩
theorem infoGap : (Try.prog.info? 60).map (fun i => (i.zero, i.size, i.bytes)) = some (some (.agg #[.int .i64 0, .int .i64 0, .int .i64 0, .bool false]), 4, 32) := by kernel_rfl
theorem slGap : SlT Try.prog 55 60 4 32 := by
  obtain ⟨i0, hi, hz0, hz1, hz2⟩ := info_parts infoGap
  exact ⟨i0, _, Try.underlying55, hi, hz0, hz1, hz2, rfl, by decide, by decide⟩
end Go.Proofs.Ytaknkldbdijkeaa

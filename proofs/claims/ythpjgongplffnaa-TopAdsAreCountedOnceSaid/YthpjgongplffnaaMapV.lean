/- A map of a session with a part to bits, in memory. -/
import Derived.Maps.RangeWalk
import Derived.Maps.Ext
import Derived.DeepKeys4
import Derived.WideKeyEntry
import Derived.Test.YthpjgongplffnaaLib
namespace Go.Proofs.Ythpjgongplffnaa
open Go.RowKit Go.ChangeMaps Go.MapKept
open Go.Maps (Keyed IsMap)

structure Vk where
  se : ByteArray
  pl : Int
deriving DecidableEq
abbrev keyV (k : Vk) : Value := .agg #[.string k.se, .int .i64 k.pl]
/-- A key that fits: a string of a length, an int. -/
def FitK (k : Vk) : Prop := k.se.size ≤ maxLen ∧ (Lit.int .i64 k.pl).wf = true
abbrev klit (k : Vk) : Lit := .string (keyBytes [.string k.se.data.toList, .int .i64 k.pl])

theorem laidOut : laidOutB Try.prog = true := by kernel_rfl
theorem rowV : (55 : TypeId) < Try.prog.types.size := of_decide_eq_true (by kernel_rfl)
theorem wideV : (match Try.prog.underlying 55 with | some (.array _ _) | some (.struct _) => true | _ => false) = true := by rw [Try.underlying55]
theorem lawV : WideMaps.KeyLaw Try.prog 55 := deep_law_laid laidOut (m := 2) (by omega) rowV (by kernel_rfl) wideV
theorem keyedV : Keyed Try.prog 55 := Keyed.of_law lawV
theorem zeroI (w : World) : (zeroValue 3).run Try.prog w = .ok (.int .i64 0) w := by kernel_rfl
theorem ktV : Try.prog.keyType 55 = true := by kernel_rfl
theorem cellsV : Try.prog.cellsOf 55 = 2 := by kernel_rfl
theorem cellsS : Try.prog.cellsOf 9 = 1 := by kernel_rfl
theorem cellsI : Try.prog.cellsOf 3 = 1 := by kernel_rfl
theorem keyOf_V {k : Vk} (h : FitK k) : keyOf Try.prog 55 (keyV k) = some (klit k) := by
  have hu := Try.underlying55
  have h1 := Try.underlying9
  have h2 := Try.underlying3
  obtain ⟨m, hm⟩ : ∃ m, Try.prog.types.size = m + 1 := ⟨Try.prog.types.size - 1, (Nat.succ_pred_eq_of_pos (Nat.lt_of_le_of_lt (Nat.zero_le _) rowV)).symm⟩
  unfold keyOf
  simp only [hu]
  rw [if_pos (by simp [ktV, Value.formed, hu, cellsV]), hm]
  simp [Program.keyLits, Value.cells, hu, h1, h2, cellsV, cellsS, cellsI, h.1, h.2]
theorem klit_inj {a b : Vk} (ha : FitK a) (hb : FitK b) (h : klit a = klit b) : a = b := by
  have h1 := keyOf_V ha
  rw [h] at h1
  have := keyedV.inj h1 (keyOf_V hb)
  obtain ⟨s, p⟩ := a
  obtain ⟨s2, p2⟩ := b
  simp at this
  rw [this.1, this.2]

theorem keyOf_V_inv {key : Value} {kl : Lit} (h : keyOf Try.prog 55 key = some kl) : ∃ k, key = keyV k ∧ FitK k ∧ kl = klit k := by
  have hu := Try.underlying55
  have h1 := Try.underlying9
  have h2 := Try.underlying3
  obtain ⟨m, hm⟩ : ∃ m, Try.prog.types.size = m + 1 := ⟨Try.prog.types.size - 1, (Nat.succ_pred_eq_of_pos (Nat.lt_of_le_of_lt (Nat.zero_le _) rowV)).symm⟩
  have hX := h
  unfold keyOf at h
  simp only [hu] at h
  split at h
  · rename_i hf
    simp only [Bool.and_eq_true] at hf
    have hf2 := hf.2
    cases key <;> simp [Value.formed, hu, cellsV] at hf2
    rename_i xs
    obtain ⟨l⟩ := xs
    match l, hf2 with
    | [c0, c1], _ =>
      rw [hm] at h
      simp only [Option.map_eq_some_iff] at h
      obtain ⟨ls, hls, rfl⟩ := h
      have hls2 : ∃ l0 l1, Try.prog.keyLits (m + 1) 9 [c0] = some l0 ∧ Try.prog.keyLits (m + 1) 3 [c1] = some l1 ∧ ls = l0 ++ l1 := by
        unfold Program.keyLits at hls
        simp only [hu, Value.cells] at hls
        split at hls
        · simp [cellsS, cellsI, Option.bind_eq_some_iff] at hls
          obtain ⟨a, ha, _, ⟨c, hc, rfl⟩, rfl⟩ := hls
          exact ⟨a, c, ha, hc, by simp⟩
        · cases hls
      obtain ⟨l0, l1, e0, e1, rfl⟩ := hls2
      cases c0 <;> simp [Program.keyLits, h1] at e0
      cases c1 <;> simp [Program.keyLits, h2] at e1
      obtain ⟨hs, rfl⟩ := e0
      obtain ⟨⟨rfl, hw⟩, rfl⟩ := e1
      exact ⟨⟨_, _⟩, rfl, ⟨hs, hw⟩, rfl⟩
  · cases h

/-- Block b is a map of at most n entries, which says of a key what f does. -/
def MapV (w : World) (b n : Nat) (f : Vk → Int) : Prop :=
  ∃ D : DataW Unit, w.ownsMap Try.prog 55 (plainElem Try.prog 3) b n D ∧ IsMap D ∧ ∀ k, FitK k → D.atKey (klit k) (.lit (.int .i64 0)) = .lit (.int .i64 (f k))
section
variable {w w' : World} {b n : Nat} {f : Vk → Int}
theorem MapV.made (w : World) : MapV (w.alloc (.map #[] 0)) w.heap.size 0 (fun _ => 0) :=
  ⟨.map [], World.ownsMap_made _ _ _ _, Go.Maps.isMap_empty, fun _ _ => rfl⟩
theorem MapV.mono (h : MapV w b n f) {m : Nat} (hm : n ≤ m) : MapV w b m f := by
  obtain ⟨D, h1, h2, h3⟩ := h
  exact ⟨D, h1.mono hm, h2, h3⟩
theorem MapV.lt (h : MapV w b n f) : b < w.heap.size := by
  obtain ⟨D, h1, _⟩ := h
  exact h1.lt
theorem MapV.blk (h : MapV w b n f) : ∃ es cl, w.heap[b]? = some (.map es cl) := by
  obtain ⟨D, ⟨es, cl, h1, _⟩, _⟩ := h
  exact ⟨es, cl, h1⟩
theorem MapV.same (h : MapV w b n f) (hb : w'.heap[b]? = w.heap[b]?) : MapV w' b n f := by
  obtain ⟨D, ⟨es, cl, h1, h2⟩, h3⟩ := h
  exact ⟨D, ⟨es, cl, hb.trans h1, h2⟩, h3⟩
theorem MapV.look (h : MapV w b n f) (k : Vk) (hk : FitK k) : (Instr.lookup 52 (.map (some b)) (keyV k) false).run Try.prog w = .ok (.int .i64 (f k)) w := by
  obtain ⟨D, h1, h2, h3⟩ := h
  obtain ⟨c, hr, hc, _⟩ := h1.lookup_int keyedV Try.underlying52 Try.underlying3 (zeroI w) (keyOf_V hk)
  rw [h3 k hk] at hc
  have : f k = c := by simpa using hc
  rw [this]
  exact hr
theorem grownBy_setBlock (w : World) (b : Nat) (o' : Obj) : w.grownBy (setBlock w b o') (some b) :=
  ⟨rfl, rfl, rfl, by simp [setBlock], fun i _ hi => by
    simp only [setBlock]
    rw [Array.getElem?_setIfInBounds, if_neg (fun e => hi (by rw [e]))]⟩
theorem setBlock_twice (w : World) (b : Nat) (o o' : Obj) : setBlock (setBlock w b o) b o' = setBlock w b o' := by
  simp [setBlock]
/-- An entry is laid at a key, and then filled. -/
theorem MapV.entry (h : MapV w b n f) (hn : n < maxLen) (k : Vk) (hk : FitK k) (x : Int) (hx : (Lit.int .i64 x).wf = true) :
    ∃ v0 st w1 w2, (Instr.mapEntry 52 (.map (some b)) (keyV k)).run Try.prog w = .ok (.tuple #[v0, goInt st]) w1 ∧
      (Instr.entryStore 52 (.map (some b)) (goInt st) (.int .i64 x)).run Try.prog w1 = .ok () w2 ∧ MapV w2 b (n + 1) (fun d => if d = k then x else f d) ∧ w.grownBy w1 (some b) ∧ w.grownBy w2 (some b) := by
  obtain ⟨D, h1, h2, h3⟩ := h
  obtain ⟨es, cl, hb, F, hs, hD⟩ := id h1
  obtain ⟨v0, st, es1, cl1, r1, _, r2⟩ := WideElems.entry_then_store lawV Try.underlying52 zeroI hb F (keyOf_V hk)
  have hw1 : (setBlock w b (.map es1 cl1)).heap[b]? = some (.map es1 cl1) := heap_setBlock_same hb _
  obtain ⟨es2, cl2, r3, r4⟩ := r2 (setBlock w b (.map es1 cl1)) (.int .i64 x) hw1
  obtain ⟨w', hr, ho, hg⟩ := h1.update keyedV Try.underlying52 hn (key := keyV k) (val := .int .i64 x) (keyOf_V hk) (plainElem_int Try.underlying3 hx)
  rw [r4] at hr
  cases hr
  rw [setBlock_twice] at r3
  refine ⟨v0, st, _, _, r1, r3, ⟨_, ho, h2.put _ _, fun d hd => ?_⟩, grownBy_setBlock _ _ _, hg⟩
  by_cases e : d = k
  · subst e
    rw [Go.Maps.atKey_put_same h2 (by trivial)]
    simp
  · rw [Go.Maps.atKey_put_other (fun h => e (klit_inj hd hk (by first | exact h | exact h.symm))), h3 d hd]
    simp [e]

/-- 'for k, v := range m' under way: block r is an iterator over map b; f: what the map says; left: the keys that are still to come, each once. -/
def RngV (w : World) (b r n : Nat) (f : Vk → Int) (left : List Vk) : Prop :=
  left.Nodup ∧ (∀ k ∈ left, FitK k) ∧ ∃ (D : DataW Unit) (lf : Lit → Bool) (cnt : Nat), w.ranges Try.prog 55 (plainElem Try.prog 3) b r n D lf cnt ∧ IsMap D ∧ (∀ k, FitK k → D.atKey (klit k) (.lit (.int .i64 0)) = .lit (.int .i64 (f k))) ∧ (∀ k, FitK k → (lf (klit k) = true ↔ k ∈ left))
/-- The keys of the map are those of a list. -/
def MapK (w : World) (b n : Nat) (f : Vk → Int) (ks : List Vk) : Prop :=
  ks.Nodup ∧ (∀ k ∈ ks, FitK k) ∧ ∃ D : DataW Unit, w.ownsMap Try.prog 55 (plainElem Try.prog 3) b n D ∧ IsMap D ∧ (∀ k, FitK k → D.atKey (klit k) (.lit (.int .i64 0)) = .lit (.int .i64 (f k))) ∧ ∀ k, FitK k → (Go.Maps.has D (klit k) = true ↔ k ∈ ks)
theorem MapK.mapV {ks : List Vk} (h : MapK w b n f ks) : MapV w b n f := by
  obtain ⟨_, _, D, h1, h2, h3, _⟩ := h
  exact ⟨D, h1, h2, h3⟩
theorem MapK.made (w : World) : MapK (w.alloc (.map #[] 0)) w.heap.size 0 (fun _ => 0) [] :=
  ⟨by simp, by simp, .map [], World.ownsMap_made _ _ _ _, Go.Maps.isMap_empty, fun _ _ => rfl, fun _ _ => by simp [Go.Maps.has]⟩
theorem MapK.same {ks : List Vk} (h : MapK w b n f ks) (hb : w'.heap[b]? = w.heap[b]?) : MapK w' b n f ks := by
  obtain ⟨g1, g2, D, ⟨es, cl, h1, h2⟩, h3⟩ := h
  exact ⟨g1, g2, D, ⟨es, cl, hb.trans h1, h2⟩, h3⟩
theorem MapK.mono {ks : List Vk} (h : MapK w b n f ks) {m : Nat} (hm : n ≤ m) : MapK w b m f ks := by
  obtain ⟨g1, g2, D, h1, h2⟩ := h
  exact ⟨g1, g2, D, h1.mono hm, h2⟩
theorem MapK.entry {ks : List Vk} (h : MapK w b n f ks) (hn : n < maxLen) (k : Vk) (hk : FitK k) (x : Int) (hx : (Lit.int .i64 x).wf = true) :
    ∃ v0 st w1 w2, (Instr.mapEntry 52 (.map (some b)) (keyV k)).run Try.prog w = .ok (.tuple #[v0, goInt st]) w1 ∧
      (Instr.entryStore 52 (.map (some b)) (goInt st) (.int .i64 x)).run Try.prog w1 = .ok () w2 ∧ MapK w2 b (n + 1) (fun d => if d = k then x else f d) (if k ∈ ks then ks else ks ++ [k]) ∧ w.grownBy w1 (some b) ∧ w.grownBy w2 (some b) := by
  obtain ⟨g1, g2, D, h1, h2, h3, g3⟩ := h
  obtain ⟨es, cl, hb, F, hs, hD⟩ := id h1
  obtain ⟨v0, st, es1, cl1, r1, _, r2⟩ := WideElems.entry_then_store lawV Try.underlying52 zeroI hb F (keyOf_V hk)
  have hw1 : (setBlock w b (.map es1 cl1)).heap[b]? = some (.map es1 cl1) := heap_setBlock_same hb _
  obtain ⟨es2, cl2, r3, r4⟩ := r2 (setBlock w b (.map es1 cl1)) (.int .i64 x) hw1
  obtain ⟨w', hr, ho, hg⟩ := h1.update keyedV Try.underlying52 hn (key := keyV k) (val := .int .i64 x) (keyOf_V hk) (plainElem_int Try.underlying3 hx)
  rw [r4] at hr
  cases hr
  rw [setBlock_twice] at r3
  refine ⟨v0, st, _, _, r1, r3, ⟨?_, ?_, _, ho, h2.put _ _, fun d hd => ?_, fun d hd => ?_⟩, grownBy_setBlock _ _ _, hg⟩
  · split
    · exact g1
    · exact List.nodup_append.2 ⟨g1, by simp, fun a ha c hc e => by simp at hc; subst hc; subst e; contradiction⟩
  · split
    · exact g2
    · intro d hd
      rcases List.mem_append.1 hd with h | h
      · exact g2 d h
      · simp at h; subst h; exact hk
  · by_cases e : d = k
    · subst e
      rw [Go.Maps.atKey_put_same h2 (by trivial)]
      simp
    · rw [Go.Maps.atKey_put_other (fun h => e (klit_inj hd hk (by first | exact h | exact h.symm))), h3 d hd]
      simp [e]
  · by_cases e : d = k
    · subst e
      rw [Go.Maps.has_put_same h2 (by trivial)]
      split <;> simp [*]
    · rw [Go.Maps.has_put_other (fun h => e (klit_inj hd hk (by first | exact h | exact h.symm))), g3 d hd]
      split <;> simp [e]
theorem MapK.range {ks : List Vk} (h : MapK w b n f ks) : ∃ w', (Instr.range 52 (.map (some b))).run Try.prog w = .ok (.pointer (some ⟨w.heap.size, 0, none⟩)) w' ∧ RngV w' b w.heap.size n f ks ∧ w.grownBy w' none ∧ w'.heap.size = w.heap.size + 1 := by
  obtain ⟨g1, g2, D, h1, h2, h3, g3⟩ := h
  obtain ⟨w', r1, r2, r3, r4⟩ := h1.range keyedV Try.underlying52
  exact ⟨w', r1, ⟨g1, g2, D, _, _, r2, h2, h3, g3⟩, r3, r4⟩
theorem RngV.step {r : Nat} {left : List Vk} (h : RngV w b r n f left) (ty : TypeId) :
    (left = [] ∧ (Instr.next (.pointer (some ⟨r, 0, none⟩)) false ty).run Try.prog w = .ok (.tuple #[.bool false]) w) ∨
    ∃ k w', k ∈ left ∧ FitK k ∧ (Instr.next (.pointer (some ⟨r, 0, none⟩)) false ty).run Try.prog w = .ok (.tuple #[.bool true, keyV k, .int .i64 (f k)]) w' ∧ RngV w' b r n f (left.erase k) ∧ w.grownBy w' (some r) ∧ w'.heap.size = w.heap.size ∧
      (Instr.entry (.pointer (some ⟨r, 0, none⟩))).run Try.prog w' = .ok (.tuple #[keyV k, .int .i64 (f k)]) w' := by
  obtain ⟨g1, g2, D, lf, cnt, h1, h2, h3, g3⟩ := h
  rcases h1.next keyedV ty with ⟨_, hl, hrun⟩ | ⟨key, v, kl, y, w', cnt', hkey, hlk, hv, hat, hrun, hrg, hlt, hgr, hsz, hen⟩
  · left
    refine ⟨?_, hrun⟩
    cases left with
    | nil => rfl
    | cons k l =>
      have := (g3 k (g2 k (by simp))).2 (by simp)
      rw [hl] at this
      cases this
  · right
    obtain ⟨k, rfl, hk, rfl⟩ := keyOf_V_inv hkey
    obtain ⟨c, rfl, rfl, hc⟩ := plainElem_int_inv Try.underlying3 hv
    have hcf : c = f k := by
      have h4 := h3 k hk
      rw [hat] at h4
      simpa using h4
    subst hcf
    refine ⟨k, w', (g3 k hk).1 hlk, hk, hrun, ⟨g1.erase k, fun d hd => g2 d (List.mem_of_mem_erase hd), D, _, _, hrg, h2, h3, fun d hd => ?_⟩, hgr, hsz, hen⟩
    rw [g1.mem_erase_iff, Bool.and_eq_true, g3 d hd]
    by_cases e : d = k
    · subst e
      rw [WideAt.sameKey_self (by trivial)]
      simp
    · have : (klit d).sameKey (klit k) = false := by
        cases hs : (klit d).sameKey (klit k)
        · rfl
        · exact absurd (klit_inj hd hk (WideAt.sameKey_eq hs)) e
      simp [this, e]
theorem RngV.kept {r : Nat} {left : List Vk} {row : Option Nat} (h : RngV w b r n f left) (hg : w.grownBy w' row) (hb' : some b ≠ row) (hr' : some r ≠ row) : RngV w' b r n f left := by
  obtain ⟨g1, g2, D, lf, cnt, h1, h2⟩ := h
  exact ⟨g1, g2, D, lf, cnt, h1.kept hg hb' hr', h2⟩
end
end Go.Proofs.Ythpjgongplffnaa

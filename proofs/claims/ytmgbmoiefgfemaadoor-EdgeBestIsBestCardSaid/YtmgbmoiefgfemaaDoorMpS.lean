/- A map of strings to integers, in memory. -/
import Derived.Maps.RangeWalk
import Derived.Maps.Ext
import Derived.Maps.OwnSet
import Derived.Maps.Views
import Derived.StringKeys
import Derived.Test.YtmgbmoiefgfemaaDoorBsfL
namespace Go.Proofs.YtmgbmoiefgfemaaDoor
open Go.RowKit Go.ChangeMaps Go.MapKept
open Go.Maps (Keyed IsMap Tidy)

abbrev slit (k : ByteArray) : Lit := .string k.data.toList
theorem slit_inj {a b : ByteArray} (h : slit a = slit b) : a = b := by
  obtain ⟨⟨x⟩⟩ := a
  obtain ⟨⟨y⟩⟩ := b
  simp only [slit, Lit.string.injEq] at h
  rw [h]
theorem keyedS : Keyed Tryd.prog 9 := Go.Maps.string_keyed Tryd.underlying9
theorem zeroI (w : World) : (zeroValue 3).run Tryd.prog w = .ok (.int .i64 0) w := by kernel_rfl
theorem keyOf_S {k : ByteArray} (h : k.size ≤ maxLen) : keyOf Tryd.prog 9 (.string k) = some (slit k) := WideMaps.keyOf_string_mk Tryd.underlying9 h
theorem keyOf_S_inv {key : Value} {kl : Lit} (h : keyOf Tryd.prog 9 key = some kl) : ∃ k : ByteArray, key = .string k ∧ k.size ≤ maxLen ∧ kl = slit k := by
  obtain ⟨s, h1, h2, h3⟩ := WideMaps.string_of_keyOf Tryd.underlying9 h
  exact ⟨s, h1, h3, h2⟩

/-- Is the string on the list? -/
def onL (k : ByteArray) (ks : List ByteArray) : Bool := ks.any fun y => decide (y = k)
theorem onL_iff {k : ByteArray} {ks : List ByteArray} : onL k ks = true ↔ k ∈ ks := by
  unfold onL
  rw [List.any_eq_true]
  constructor
  · rintro ⟨x, hx, h⟩
    rw [← of_decide_eq_true h]
    exact hx
  · exact fun h => ⟨k, h, decide_eq_true rfl⟩
/-- The list with a string. -/
def addL (k : ByteArray) (ks : List ByteArray) : List ByteArray := if onL k ks = true then ks else k :: ks
theorem mem_addL {d k : ByteArray} {ks : List ByteArray} : d ∈ addL k ks ↔ d = k ∨ d ∈ ks := by
  unfold addL
  split
  · rename_i h
    rw [onL_iff] at h
    constructor
    · exact Or.inr
    · rintro (rfl | h2)
      · exact h
      · exact h2
  · rw [List.mem_cons]
theorem nodup_addL {k : ByteArray} {ks : List ByteArray} (h : ks.Nodup) : (addL k ks).Nodup := by
  unfold addL
  split
  · exact h
  · rename_i e
    rw [onL_iff] at e
    exact List.nodup_cons.2 ⟨e, h⟩

/-- Block b is a map of at most n entries: its keys are a list's, each once; f says what is laid to each. -/
def MapS (w : World) (b n : Nat) (f : ByteArray → Int) (ks : List ByteArray) : Prop :=
  ks.Nodup ∧ (∀ k, k ∈ ks → k.size ≤ maxLen) ∧ ∃ D : DataW Unit, w.ownsMap Tryd.prog 9 (plainElem Tryd.prog 3) b n D ∧ Tidy D ∧ (∀ k, k ∈ ks → D.atKey (slit k) (.lit (.int .i64 0)) = .lit (.int .i64 (f k))) ∧ (∀ k, k.size ≤ maxLen → (Go.Maps.has D (slit k) = true ↔ k ∈ ks)) ∧ Go.Maps.size D = ks.length
section
variable {w w' : World} {b n : Nat} {f : ByteArray → Int} {ks : List ByteArray}
theorem MapS.made (w : World) (f : ByteArray → Int) : MapS (w.alloc (.map #[] 0)) w.heap.size 0 f [] :=
  ⟨by simp, by simp, .map [], World.ownsMap_made _ _ _ _, Go.Maps.tidy_empty, by simp, fun _ _ => by simp [Go.Maps.has], rfl⟩
theorem MapS.mono (h : MapS w b n f ks) {m : Nat} (hm : n ≤ m) : MapS w b m f ks := by
  obtain ⟨g1, g2, D, h1, h2⟩ := h
  exact ⟨g1, g2, D, h1.mono hm, h2⟩
theorem MapS.lt (h : MapS w b n f ks) : b < w.heap.size := by
  obtain ⟨_, _, D, h1, _⟩ := h
  exact h1.lt
theorem MapS.same (h : MapS w b n f ks) (hb : w'.heap[b]? = w.heap[b]?) : MapS w' b n f ks := by
  obtain ⟨g1, g2, D, ⟨es, cl, h1, h2⟩, h3⟩ := h
  exact ⟨g1, g2, D, ⟨es, cl, hb.trans h1, h2⟩, h3⟩
theorem MapS.congr (h : MapS w b n f ks) {g : ByteArray → Int} (hg : ∀ k, k ∈ ks → f k = g k) : MapS w b n g ks := by
  obtain ⟨g1, g2, D, h1, h2, h3, h4⟩ := h
  exact ⟨g1, g2, D, h1, h2, fun k hk => by rw [← hg k hk]; exact h3 k hk, h4⟩
theorem MapS.look (h : MapS w b n f ks) (k : ByteArray) (hk : k.size ≤ maxLen) :
    ∃ c, (Instr.lookup 96 (.map (some b)) (.string k) true).run Tryd.prog w = .ok (.tuple #[.int .i64 c, .bool (onL k ks)]) w ∧ (k ∈ ks → c = f k) := by
  obtain ⟨g1, g2, D, h1, h2, h3, h4, h5⟩ := h
  obtain ⟨v, ps, hr, hv⟩ := h1.look_ok keyedS Tryd.underlying96 (zeroI w) (plainElem_int Tryd.underlying3 (by decide)) (keyOf_S hk)
  obtain ⟨c, rfl, hc, hwc⟩ := plainElem_int_inv Tryd.underlying3 hv
  simp only [Prod.mk.injEq] at hc
  have e : Go.Maps.has D (slit k) = onL k ks := by
    have h6 := (h4 k hk).trans (onL_iff (k := k) (ks := ks)).symm
    cases h7 : Go.Maps.has D (slit k) <;> cases h8 : onL k ks <;> rw [h7, h8] at h6 <;> simp_all
  refine ⟨c, by rw [← e]; exact hr, fun m => ?_⟩
  have h6 := hc.1
  rw [h3 k m] at h6
  simp only [DataW.lit.injEq, Lit.int.injEq, true_and] at h6
  exact h6.symm
theorem MapS.put (h : MapS w b n f ks) (hn : n < maxLen) (k : ByteArray) (hk : k.size ≤ maxLen) (x : Int) (hx : (Lit.int .i64 x).wf = true) :
    ∃ w', (Instr.mapUpdate 96 (.map (some b)) (.string k) (.int .i64 x)).run Tryd.prog w = .ok () w' ∧ MapS w' b (n + 1) (fun d => if d = k then x else f d) (addL k ks) ∧ w.grownBy w' (some b) := by
  obtain ⟨g1, g2, D, h1, h2, h3, h4, h5⟩ := h
  obtain ⟨w', hr, ho, hg⟩ := h1.update keyedS Tryd.underlying96 hn (key := .string k) (val := .int .i64 x) (keyOf_S hk) (plainElem_int Tryd.underlying3 hx)
  refine ⟨w', hr, ⟨?_, ?_, _, ho, h2.put (by trivial) _, fun d hd => ?_, fun d hd => ?_, ?_⟩, hg⟩
  · exact nodup_addL g1
  · intro d hd
    rcases mem_addL.1 hd with rfl | h
    · exact hk
    · exact g2 d h
  · by_cases e : d = k
    · subst e
      rw [Go.Maps.atKey_put_same h2.isMap (by trivial)]
      show _ = DataW.lit (Lit.int _ (if d = d then x else f d))
      rw [if_pos rfl]
    · have hd2 : d ∈ ks := (mem_addL.1 hd).resolve_left e
      rw [Go.Maps.atKey_put_other (fun h => e (slit_inj h)), h3 d hd2]
      show _ = DataW.lit (Lit.int _ (if d = k then x else f d))
      rw [if_neg e]
  · rw [mem_addL]
    by_cases e : d = k
    · subst e
      rw [Go.Maps.has_put_same h2.isMap (by trivial)]
      simp
    · rw [Go.Maps.has_put_other (fun h => e (slit_inj h)), h4 d hd]
      simp [e]
  · rw [Go.Maps.size_put h2]
    unfold addL
    by_cases m : k ∈ ks
    · rw [if_pos ((h4 k hk).2 m), if_pos (onL_iff.2 m), h5]
    · rw [if_neg (fun c => m ((h4 k hk).1 c)), if_neg (fun c => m (onL_iff.1 c)), h5]
      simp
theorem MapS.drop (h : MapS w b n f ks) (k : ByteArray) (hm : k ∈ ks) (ty : TypeId) :
    ∃ w', (Builtin.delete_ #[96, 9] ty #[.map (some b), .string k]).run Tryd.prog w = .ok (.tuple #[]) w' ∧ MapS w' b n f (rmv k ks) ∧ w.grownBy w' (some b) := by
  obtain ⟨g1, g2, D, h1, h2, h3, h4, h5⟩ := h
  have hk := g2 k hm
  obtain ⟨w', hr, ho, hg⟩ := h1.drop keyedS Tryd.underlying96 (key := .string k) (keyOf_S hk) ty
  refine ⟨w', hr, ⟨rmv_nodup g1, fun d hd => g2 d (mem_rmv.1 hd).1, _, ho, h2.del _, fun d hd => ?_, fun d hd => ?_, ?_⟩, hg.grown⟩
  · rw [Go.Maps.atKey_del_other (fun h => (mem_rmv.1 hd).2 (slit_inj h))]
    exact h3 d (mem_rmv.1 hd).1
  · by_cases e : d = k
    · subst e
      rw [Go.Maps.has_del_same, mem_rmv]
      simp
    · rw [Go.Maps.has_del_other (fun h => e (slit_inj h)), h4 d hd, mem_rmv]
      simp [e]
  · have h6 := Go.Maps.size_del (k := slit k) h2
    rw [if_pos ((h4 k hk).2 hm)] at h6
    rw [rmv_len g1 hm]
    omega
theorem MapS.len (h : MapS w b n f ks) (ty : TypeId) : (Builtin.len_ #[96] ty #[.map (some b)]).run Tryd.prog w = .ok (.int .i64 ks.length) w := by
  obtain ⟨_, _, D, h1, _, _, _, h5⟩ := h
  have := h1.len Tryd.underlying96 ty
  rw [h5] at this
  exact this

/-- A range over the map under way: block r is the iterator; left: the keys that are still to come, each once. -/
def RngS (w : World) (b r n : Nat) (f : ByteArray → Int) (ks left : List ByteArray) : Prop :=
  left.Nodup ∧ (∀ k, k ∈ left → k ∈ ks) ∧ (∀ k, k ∈ ks → k.size ≤ maxLen) ∧ ∃ (D : DataW Unit) (lf : Lit → Bool) (cnt : Nat), w.ranges Tryd.prog 9 (plainElem Tryd.prog 3) b r n D lf cnt ∧ (∀ k, k ∈ ks → D.atKey (slit k) (.lit (.int .i64 0)) = .lit (.int .i64 (f k))) ∧ (∀ k, k.size ≤ maxLen → (lf (slit k) = true ↔ k ∈ left))
theorem MapS.range (h : MapS w b n f ks) : ∃ w', (Instr.range 96 (.map (some b))).run Tryd.prog w = .ok (.pointer (some ⟨w.heap.size, 0, none⟩)) w' ∧ RngS w' b w.heap.size n f ks ks ∧ w.grownBy w' none ∧ w'.heap.size = w.heap.size + 1 := by
  obtain ⟨g1, g2, D, h1, h2, h3, h4, _⟩ := h
  obtain ⟨w', r1, r2, r3, r4⟩ := h1.range keyedS Tryd.underlying96
  exact ⟨w', r1, ⟨g1, fun _ h => h, g2, D, _, _, r2, h3, h4⟩, r3, r4⟩
theorem RngS.step {r : Nat} {left : List ByteArray} (h : RngS w b r n f ks left) (ty : TypeId) :
    (left = [] ∧ (Instr.next (.pointer (some ⟨r, 0, none⟩)) false ty).run Tryd.prog w = .ok (.tuple #[.bool false]) w) ∨
    ∃ k w', k ∈ left ∧ (Instr.next (.pointer (some ⟨r, 0, none⟩)) false ty).run Tryd.prog w = .ok (.tuple #[.bool true, .string k, .int .i64 (f k)]) w' ∧ RngS w' b r n f ks (rmv k left) ∧ w.grownBy w' (some r) ∧ w'.heap.size = w.heap.size ∧
      (Instr.entry (.pointer (some ⟨r, 0, none⟩))).run Tryd.prog w' = .ok (.tuple #[.string k, .int .i64 (f k)]) w' := by
  obtain ⟨g1, g4, g2, D, lf, cnt, h1, h3, g3⟩ := h
  rcases h1.next keyedS ty with ⟨_, hl, hrun⟩ | ⟨key, v, kl, y, w', cnt', hkey, hlk, hv, hat, hrun, hrg, hlt, hgr, hsz, hen⟩
  · left
    refine ⟨?_, hrun⟩
    cases left with
    | nil => rfl
    | cons k l =>
      have := (g3 k (g2 k (g4 k (by simp)))).2 (by simp)
      rw [hl] at this
      cases this
  · right
    obtain ⟨k, rfl, hk, rfl⟩ := keyOf_S_inv hkey
    obtain ⟨c, rfl, rfl, hc⟩ := plainElem_int_inv Tryd.underlying3 hv
    have hkl := (g3 k hk).1 hlk
    have hcf : c = f k := by
      have h4 := h3 k (g4 k hkl)
      rw [hat] at h4
      simpa using h4
    subst hcf
    refine ⟨k, w', hkl, hrun, ⟨rmv_nodup g1, fun d hd => g4 d (mem_rmv.1 hd).1, g2, D, _, _, hrg, h3, fun d hd => ?_⟩, hgr, hsz, hen⟩
    rw [Bool.and_eq_true, g3 d hd, mem_rmv]
    by_cases e : d = k
    · subst e
      rw [WideAt.sameKey_self (by trivial)]
      simp
    · have : (slit d).sameKey (slit k) = false := by
        cases hs : (slit d).sameKey (slit k)
        · rfl
        · exact absurd (slit_inj (WideAt.sameKey_eq hs)) e
      simp [this, e]
theorem RngS.kept {r : Nat} {left : List ByteArray} {row : Option Nat} (h : RngS w b r n f ks left) (hg : w.grownBy w' row) (hb' : some b ≠ row) (hr' : some r ≠ row) : RngS w' b r n f ks left := by
  obtain ⟨g1, g4, g2, D, lf, cnt, h1, h2⟩ := h
  exact ⟨g1, g4, g2, D, lf, cnt, h1.kept hg hb' hr', h2⟩
theorem RngS.drew {r : Nat} {left : List ByteArray} (h : RngS w b r n f ks left) : RngS w.drew b r n f ks left := h
end
end Go.Proofs.YtmgbmoiefgfemaaDoor

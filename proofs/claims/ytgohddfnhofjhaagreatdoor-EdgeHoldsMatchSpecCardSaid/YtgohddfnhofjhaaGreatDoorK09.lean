/- need, until and purged: the walks. -/
import Derived.Test.YtgohddfnhofjhaaGreatDoorK08
import Derived.Test.YtgohddfnhofjhaaGreatDoorK05
import Derived.Maps.RangeWalk
import Derived.Maps.Ext
import Derived.Maps.OwnSet
import Derived.Maps.Views
import Derived.StringKeys
import Derived.Test.YtgohddfnhofjhaaGreatDoorK04
import Derived.Lib.Strings
import Derived.Test.YtgohddfnhofjhaaGreatDoorK06
import Derived.Test.YtgohddfnhofjhaaGreatDoorK01
set_option maxRecDepth 100000
set_option maxHeartbeats 4000000
namespace Go.Proofs.YtgohddfnhofjhaaGreatDoor
open Go.RowKit Go.ChangeMaps Go.MapKept
open Go.Maps (Keyed IsMap Tidy)
abbrev sS (k : ByteArray) : Lit := .string k.data.toList
theorem gQ {a b : ByteArray} (h : sS a = sS b) : a = b := by
 obtain ⟨⟨x⟩⟩ := a; obtain ⟨⟨y⟩⟩ := b; simp only [sS, Lit.string.injEq] at h
 rw [h]
theorem nI : Keyed Tryz.prog 9 := Go.Maps.string_keyed Tryz.underlying9
structure Hld where
 an : Ans
 us : Int
instance : Inhabited Hld := ⟨⟨default, 0⟩⟩
def o9 (x : Hld) : Value := .agg #[.int .i64 x.an.ve, .int .i64 x.an.bo, .int .i64 x.an.si, .bool x.an.no, .string x.an.fr, .int .i64 x.us]
def zQ (x : Hld) : DataW Unit := .agg [.lit (.int .i64 x.an.ve), .lit (.int .i64 x.an.bo), .lit (.int .i64 x.an.si), .lit (.bool x.an.no), .lit (.string x.an.fr.data.toList), .lit (.int .i64 x.us)]
theorem rH {a b : Hld} (h : zQ a = zQ b) : a = b := by
 obtain ⟨⟨a1, a2, a3, a4, a5⟩, a6⟩ := a; obtain ⟨⟨b1, b2, b3, b4, b5⟩, b6⟩ := b; simp only [zQ, DataW.agg.injEq, List.cons.injEq, DataW.lit.injEq, Lit.int.injEq, Lit.bool.injEq, Lit.string.injEq, true_and, and_true] at h
 obtain ⟨rfl, rfl, rfl, rfl, h5, rfl⟩ := h; obtain rfl : a5 = b5 := ByteArray.ext (Array.ext' h5)
 rfl
def ER : List Value → Option Hld
 | [.int .i64 ve, .int .i64 bo, .int .i64 si, .bool no, .string fr, .int .i64 us] => some ⟨⟨ve, bo, si, no, fr⟩, us⟩
 | _ => none
def CJ : Value → Option (DataW Unit × List MemPlace)
 | .agg cs => (ER cs.toList).map fun x => (zQ x, [])
 | _ => none
theorem qY (x : Hld) : CJ (o9 x) = some (zQ x, []) := rfl
theorem CO {l : List Value} {x : Hld} (h : ER l = some x) : l = [.int .i64 x.an.ve, .int .i64 x.an.bo, .int .i64 x.an.si, .bool x.an.no, .string x.an.fr, .int .i64 x.us] := by
 unfold ER at h; split at h
 ·cases h; rfl
 ·cases h
theorem nU {v : Value} {d : DataW Unit} {ps : List MemPlace} (h : CJ v = some (d, ps)) : ∃ x, v = o9 x ∧ d = zQ x := by
 unfold CJ at h; split at h
 ·rename_i cs; cases hl : ER cs.toList with
  | none => rw [hl] at h; cases h
  | some x =>
   rw [hl] at h; simp only [Option.map_some, Option.some.injEq, Prod.mk.injEq] at h
   refine ⟨x, ?_, h.1.symm⟩; have := CO hl; unfold o9; rw [← this]
 ·cases h
theorem Iz (w : World) : (zeroValue 97).run Tryz.prog w = .ok (o9 default) w := by kernel_rfl
theorem nJ {k : ByteArray} (h : k.size ≤ maxLen) : keyOf Tryz.prog 9 (.string k) = some (sS k) := WideMaps.keyOf_string_mk Tryz.underlying9 h
theorem uT {key : Value} {kl : Lit} (h : keyOf Tryz.prog 9 key = some kl) : ∃ k : ByteArray, key = .string k ∧ k.size ≤ maxLen ∧ kl = sS k := by
 obtain ⟨s, h1, h2, h3⟩ := WideMaps.string_of_keyOf Tryz.underlying9 h; exact ⟨s, h1, h3, h2⟩
def onL (k : ByteArray) (ks : List ByteArray) : Bool := ks.any fun y => decide (y = k)
theorem bF {k : ByteArray} {ks : List ByteArray} : onL k ks = true ↔ k ∈ ks := by
 unfold onL; rw [List.any_eq_true]; constructor
 ·rintro ⟨x, hx, h⟩; rw [← of_decide_eq_true h]; exact hx
 ·exact fun h => ⟨k, h, decide_eq_true rfl⟩
def DZ (k : ByteArray) (ks : List ByteArray) : List ByteArray := if onL k ks = true then ks else k :: ks
theorem qP {d k : ByteArray} {ks : List ByteArray} : d ∈ DZ k ks ↔ d = k ∨ d ∈ ks := by
 unfold DZ; split
 ·rename_i h; rw [bF] at h; constructor
  ·exact Or.inr
  ·rintro (rfl | h2)
   ·exact h
   ·exact h2
 ·rw [List.mem_cons]
theorem yM {k : ByteArray} {ks : List ByteArray} (h : ks.Nodup) : (DZ k ks).Nodup := by
 unfold DZ; split
 ·exact h
 ·rename_i e; rw [bF] at e; exact List.nodup_cons.2 ⟨e, h⟩
def gy (w : World) (b n : Nat) (f : ByteArray → Hld) (ks : List ByteArray) : Prop :=
 ks.Nodup ∧ (∀ k, k ∈ ks → k.size ≤ maxLen) ∧ ∃ D : DataW Unit, w.ownsMap Tryz.prog 9 (CJ) b n D ∧ Tidy D ∧ (∀ k, k ∈ ks → D.atKey (sS k) (zQ default) = zQ (f k)) ∧ (∀ k, k.size ≤ maxLen → (Go.Maps.has D (sS k) = true ↔ k ∈ ks)) ∧ Go.Maps.size D = ks.length
section
variable {w w' : World} {b n : Nat} {f : ByteArray → Hld} {ks : List ByteArray}
theorem gy.made (w : World) (f : ByteArray → Hld) : gy (w.alloc (.map #[] 0)) w.heap.size 0 f [] :=
 ⟨by simp, by simp, .map [], World.ownsMap_made _ _ _ _, Go.Maps.tidy_empty, by simp, fun _ _ => by simp [Go.Maps.has], rfl⟩
theorem gy.mono (h : gy w b n f ks) {m : Nat} (hm : n ≤ m) : gy w b m f ks := by
 obtain ⟨g1, g2, D, h1, h2⟩ := h; exact ⟨g1, g2, D, h1.mono hm, h2⟩
theorem gy.lt (h : gy w b n f ks) : b < w.heap.size := by
 obtain ⟨_, _, D, h1, _⟩ := h; exact h1.lt
theorem gy.same (h : gy w b n f ks) (hb : w'.heap[b]? = w.heap[b]?) : gy w' b n f ks := by
 obtain ⟨g1, g2, D, ⟨es, cl, h1, h2⟩, h3⟩ := h; exact ⟨g1, g2, D, ⟨es, cl, hb.trans h1, h2⟩, h3⟩
theorem gy.congr (h : gy w b n f ks) {g : ByteArray → Hld} (hg : ∀ k, k ∈ ks → f k = g k) : gy w b n g ks := by
 obtain ⟨g1, g2, D, h1, h2, h3, h4⟩ := h; exact ⟨g1, g2, D, h1, h2, fun k hk => by rw [← hg k hk]; exact h3 k hk, h4⟩
theorem gy.look (h : gy w b n f ks) (k : ByteArray) (hk : k.size ≤ maxLen) :
 ∃ c, (Instr.lookup 81 (.map (some b)) (.string k) true).run Tryz.prog w = .ok (.tuple #[o9 c, .bool (onL k ks)]) w ∧ (k ∈ ks → c = f k) := by
 obtain ⟨g1, g2, D, h1, h2, h3, h4, h5⟩ := h; obtain ⟨v, ps, hr, hv⟩ := h1.look_ok nI Tryz.underlying81 (Iz w) (qY default) (nJ hk); obtain ⟨c, rfl, hc⟩ := nU hv; have e : Go.Maps.has D (sS k) = onL k ks := by
  have h6 := (h4 k hk).trans (bF (k := k) (ks := ks)).symm; cases h7 : Go.Maps.has D (sS k) <;> cases h8 : onL k ks <;> rw [h7, h8] at h6 <;> simp_all
 refine ⟨c, by rw [← e]; exact hr, fun m => ?_⟩; rw [h3 k m] at hc; exact (rH hc).symm
theorem gy.put (h : gy w b n f ks) (hn : n < maxLen) (k : ByteArray) (hk : k.size ≤ maxLen) (x : Hld) :
 ∃ w', (Instr.mapUpdate 81 (.map (some b)) (.string k) (o9 x)).run Tryz.prog w = .ok () w' ∧ gy w' b (n + 1) (fun d => if d = k then x else f d) (DZ k ks) ∧ w.grownBy w' (some b) := by
 obtain ⟨g1, g2, D, h1, h2, h3, h4, h5⟩ := h; obtain ⟨w', hr, ho, hg⟩ := h1.update nI Tryz.underlying81 hn (key := .string k) (val := o9 x) (nJ hk) (qY x); refine ⟨w', hr, ⟨?_, ?_, _, ho, h2.put (by trivial) _, fun d hd => ?_, fun d hd => ?_, ?_⟩, hg⟩
 ·exact yM g1
 ·intro d hd; rcases qP.1 hd with rfl | h
  ·exact hk
  ·exact g2 d h
 ·by_cases e : d = k
  ·subst e; rw [Go.Maps.atKey_put_same h2.isMap (by trivial)]; show _ = zQ (if d = d then x else f d)
   rw [if_pos rfl]
  ·have hd2 : d ∈ ks := (qP.1 hd).resolve_left e; rw [Go.Maps.atKey_put_other (fun h => e (gQ h)), h3 d hd2]; show _ = zQ (if d = k then x else f d)
   rw [if_neg e]
 ·rw [qP]; by_cases e : d = k
  ·subst e; rw [Go.Maps.has_put_same h2.isMap (by trivial)]; simp
  ·rw [Go.Maps.has_put_other (fun h => e (gQ h)), h4 d hd]; simp [e]
 ·rw [Go.Maps.size_put h2]; unfold DZ; by_cases m : k ∈ ks
  ·rw [if_pos ((h4 k hk).2 m), if_pos (bF.2 m), h5]
  ·rw [if_neg (fun c => m ((h4 k hk).1 c)), if_neg (fun c => m (bF.1 c)), h5]; simp
theorem gy.drop (h : gy w b n f ks) (k : ByteArray) (hm : k ∈ ks) (ty : TypeId) :
 ∃ w', (Builtin.delete_ #[81, 9] ty #[.map (some b), .string k]).run Tryz.prog w = .ok (.tuple #[]) w' ∧ gy w' b n f (rmv k ks) ∧ w.grownBy w' (some b) := by
 obtain ⟨g1, g2, D, h1, h2, h3, h4, h5⟩ := h; have hk := g2 k hm; obtain ⟨w', hr, ho, hg⟩ := h1.drop nI Tryz.underlying81 (key := .string k) (nJ hk) ty; refine ⟨w', hr, ⟨bJ g1, fun d hd => g2 d (aU.1 hd).1, _, ho, h2.del _, fun d hd => ?_, fun d hd => ?_, ?_⟩, hg.grown⟩
 ·rw [Go.Maps.atKey_del_other (fun h => (aU.1 hd).2 (gQ h))]; exact h3 d (aU.1 hd).1
 ·by_cases e : d = k
  ·subst e; rw [Go.Maps.has_del_same, aU]; simp
  ·rw [Go.Maps.has_del_other (fun h => e (gQ h)), h4 d hd, aU]; simp [e]
 ·have h6 := Go.Maps.size_del (k := sS k) h2; rw [if_pos ((h4 k hk).2 hm)] at h6; rw [Ba g1 hm]; omega
theorem gy.del (h : gy w b n f ks) (k : ByteArray) (hk : k.size ≤ maxLen) (ty : TypeId) :
 ∃ w', (Builtin.delete_ #[81, 9] ty #[.map (some b), .string k]).run Tryz.prog w = .ok (.tuple #[]) w' ∧ gy w' b n f (rmv k ks) ∧ w.grownBy w' (some b) := by
 by_cases hm : k ∈ ks
 ·exact h.drop k hm ty
 ·obtain ⟨g1, g2, D, h1, h2, h3, h4, h5⟩ := h; obtain ⟨w', hr, ho, hg⟩ := h1.drop nI Tryz.underlying81 (key := .string k) (nJ hk) ty; have hrm : rmv k ks = ks := by
   unfold rmv; exact List.filter_eq_self.2 (fun x hx => by simp; rintro rfl; exact hm hx)
  rw [hrm]; refine ⟨w', hr, ⟨g1, g2, _, ho, h2.del _, fun d hd => ?_, fun d hd => ?_, ?_⟩, hg.grown⟩
  ·have e : ¬ d = k := fun e => hm (by rw [← e]; exact hd)
   rw [Go.Maps.atKey_del_other (fun h => e (gQ h))]; exact h3 d hd
  ·by_cases e : d = k
   ·subst e; rw [Go.Maps.has_del_same]; simp [hm]
   ·rw [Go.Maps.has_del_other (fun h => e (gQ h)), h4 d hd]
  ·have h6 := Go.Maps.size_del (k := sS k) h2; rw [if_neg (fun c => hm ((h4 k hk).1 c))] at h6; omega
theorem gy.len (h : gy w b n f ks) (ty : TypeId) : (Builtin.len_ #[81] ty #[.map (some b)]).run Tryz.prog w = .ok (.int .i64 ks.length) w := by
 obtain ⟨_, _, D, h1, _, _, _, h5⟩ := h; have := h1.len Tryz.underlying81 ty; rw [h5] at this; exact this
def oN (w : World) (b r n : Nat) (f : ByteArray → Hld) (ks left : List ByteArray) : Prop :=
 left.Nodup ∧ (∀ k, k ∈ left → k ∈ ks) ∧ (∀ k, k ∈ ks → k.size ≤ maxLen) ∧ ∃ (D : DataW Unit) (lf : Lit → Bool) (cnt : Nat), w.ranges Tryz.prog 9 (CJ) b r n D lf cnt ∧ (∀ k, k ∈ ks → D.atKey (sS k) (zQ default) = zQ (f k)) ∧ (∀ k, k.size ≤ maxLen → (lf (sS k) = true ↔ k ∈ left))
theorem gy.range (h : gy w b n f ks) : ∃ w', (Instr.range 81 (.map (some b))).run Tryz.prog w = .ok (.pointer (some ⟨w.heap.size, 0, none⟩)) w' ∧ oN w' b w.heap.size n f ks ks ∧ w.grownBy w' none ∧ w'.heap.size = w.heap.size + 1 := by
 obtain ⟨g1, g2, D, h1, h2, h3, h4, _⟩ := h; obtain ⟨w', r1, r2, r3, r4⟩ := h1.range nI Tryz.underlying81; exact ⟨w', r1, ⟨g1, fun _ h => h, g2, D, _, _, r2, h3, h4⟩, r3, r4⟩
theorem oN.step {r : Nat} {left : List ByteArray} (h : oN w b r n f ks left) (ty : TypeId) :
 (left = [] ∧ (Instr.next (.pointer (some ⟨r, 0, none⟩)) false ty).run Tryz.prog w = .ok (.tuple #[.bool false]) w) ∨
 ∃ k w', k ∈ left ∧ (Instr.next (.pointer (some ⟨r, 0, none⟩)) false ty).run Tryz.prog w = .ok (.tuple #[.bool true, .string k, o9 (f k)]) w' ∧ oN w' b r n f ks (rmv k left) ∧ w.grownBy w' (some r) ∧ w'.heap.size = w.heap.size ∧
  (Instr.entry (.pointer (some ⟨r, 0, none⟩))).run Tryz.prog w' = .ok (.tuple #[.string k, o9 (f k)]) w' := by
 obtain ⟨g1, g4, g2, D, lf, cnt, h1, h3, g3⟩ := h; rcases h1.next nI ty with ⟨_, hl, hrun⟩ | ⟨key, v, kl, y, w', cnt', hkey, hlk, hv, hat, hrun, hrg, hlt, hgr, hsz, hen⟩
 ·left
  refine ⟨?_, hrun⟩; cases left with
  | nil => rfl
  | cons k l =>
   have := (g3 k (g2 k (g4 k (by simp)))).2 (by simp); rw [hl] at this; cases this
 ·right
  obtain ⟨k, rfl, hk, rfl⟩ := uT hkey; obtain ⟨yd, yp⟩ := y; obtain ⟨c, rfl, hc⟩ := nU hv; have hkl := (g3 k hk).1 hlk; have hcf : c = f k := by
   have h4 := h3 k (g4 k hkl); rw [hat] at h4; exact rH (hc.symm.trans h4)
  subst hcf; refine ⟨k, w', hkl, hrun, ⟨bJ g1, fun d hd => g4 d (aU.1 hd).1, g2, D, _, _, hrg, h3, fun d hd => ?_⟩, hgr, hsz, hen⟩; rw [Bool.and_eq_true, g3 d hd, aU]; by_cases e : d = k
  ·subst e; rw [WideAt.sameKey_self (by trivial)]; simp
  ·have : (sS d).sameKey (sS k) = false := by
    cases hs : (sS d).sameKey (sS k)
    ·rfl
    ·exact absurd (gQ (WideAt.sameKey_eq hs)) e
   simp [this, e]
theorem oN.kept {r : Nat} {left : List ByteArray} {row : Option Nat} (h : oN w b r n f ks left) (hg : w.grownBy w' row) (hb' : some b ≠ row) (hr' : some r ≠ row) : oN w' b r n f ks left := by
 obtain ⟨g1, g4, g2, D, lf, cnt, h1, h2⟩ := h; exact ⟨g1, g4, g2, D, lf, cnt, h1.kept hg hb' hr', h2⟩
theorem oN.drew {r : Nat} {left : List ByteArray} (h : oN w b r n f ks left) : oN w.drew b r n f ks left := h
end
theorem vk {w : World} {b i : Nat} {c : Array Value} {T : TypeId} (h : w.heap[b]? = some (.cells c T (0, 0))) : w.frozen? ⟨b, i, none⟩ = false := by simp [World.frozen?, h]
def Bk4 (w : World) (g : Nat) (t : TypeId) (a b c d : Value) : Prop := w.heap[g]? = some (.cells #[a, b, c, d] t (0, 0))
theorem Bk4.lt {w : World} {g : Nat} {t : TypeId} {a b c d : Value} (h : Bk4 w g t a b c d) : g < w.heap.size := tY h
theorem Bk4.below {w w' : World} {g B : Nat} {t : TypeId} {a b c d : Value} (h : Bk4 w g t a b c d) (hb : Below B w w') (hB : g < B) : Bk4 w' g t a b c d := (hb.block g hB).trans h
theorem Bk4.cells {w : World} {g : Nat} {t : TypeId} {a b c d : Value} (h : Bk4 w g t a b c d) : w.cell? ⟨g, 0, none⟩ = some a ∧ w.cell? ⟨g, 1, none⟩ = some b ∧ w.cell? ⟨g, 2, none⟩ = some c ∧ w.cell? ⟨g, 3, none⟩ = some d :=
 ⟨(cell_of_block (i := 0) h).trans rfl, (cell_of_block (i := 1) h).trans rfl, (cell_of_block (i := 2) h).trans rfl, (cell_of_block (i := 3) h).trans rfl⟩
theorem Bk4.frz {w : World} {g : Nat} {t : TypeId} {a b c d : Value} (h : Bk4 w g t a b c d) (i : Nat) : w.frozen? ⟨g, i, none⟩ = false := vk h
abbrev Io (w : World) (g : Nat) (a b c d : Value) : World := (((w.setCell ⟨g, 0, none⟩ a).setCell ⟨g, 1, none⟩ b).setCell ⟨g, 2, none⟩ c).setCell ⟨g, 3, none⟩ d
theorem Bk4.set {w : World} {g : Nat} {t : TypeId} {a b c d : Value} (h : Bk4 w g t a b c d) (a' b' c' d' : Value) : Bk4 (Io w g a' b' c' d') g t a' b' c' d' := by
 have h1 := heap_setCell_same w g 0 _ _ a' h; have h2 := heap_setCell_same _ g 1 _ _ b' h1; have h3 := heap_setCell_same _ g 2 _ _ c' h2; have h4 := heap_setCell_same _ g 3 _ _ d' h3; unfold Bk4; rw [h4]
 rfl
theorem Bk4.other {w : World} {g k : Nat} {t : TypeId} {a b c d a' b' c' d' : Value} (h : Bk4 w k t a b c d) (hne : k ≠ g) : Bk4 (Io w g a' b' c' d') k t a b c d :=
 (Below.heap_setCell _ ⟨g, 3, none⟩ _ k hne).trans ((Below.heap_setCell _ ⟨g, 2, none⟩ _ k hne).trans ((Below.heap_setCell _ ⟨g, 1, none⟩ _ k hne).trans ((Below.heap_setCell w ⟨g, 0, none⟩ _ k hne).trans h)))
theorem ed {B g : Nat} {w w' : World} (h : Below B w w') (hB : B ≤ g) (a b c d : Value) : Below B w (Io w' g a b c d) :=
 (((h.setCell (p := ⟨g, 0, none⟩) hB _).setCell (p := ⟨g, 1, none⟩) hB _).setCell (p := ⟨g, 2, none⟩) hB _).setCell (p := ⟨g, 3, none⟩) hB _
def hpB (k p : ByteArray) : Bool := Lib.hasPrefix k.data.toList p.data.toList
def ruI (l : List Crl) (k : ByteArray) : Nat → Option Nat
 | 0 => none
 | n + 1 => if hpB k (l.getD n default).pr && (match ruI l k n with | none => true | some j => decide ((l.getD j default).pr.size < (l.getD n default).pr.size)) then some n else ruI l k n
def lV (l : List Crl) : Option Nat → Crl
 | none => default
 | some j => l.getD j default
def ruT (l : List Crl) (k : ByteArray) (n : Nat) (x : Crl) : Bool := hpB k x.pr && (match ruI l k n with | none => true | some j => decide ((l.getD j default).pr.size < x.pr.size))
theorem AY {l : List Crl} {k : ByteArray} {j : Nat} : ∀ {n : Nat}, ruI l k n = some j → j < n
 | 0, h => by simp [ruI] at h
 | n + 1, h => by
  have e : ruI l k (n + 1) = if ruT l k n (l.getD n default) then some n else ruI l k n := rfl
  rw [e] at h; cases hT : ruT l k n (l.getD n default)
  ·rw [hT] at h; exact Nat.lt_succ_of_lt (AY h)
  ·rw [hT] at h; simp at h; omega
theorem wC {l : List Crl} {k : ByteArray} {n : Nat} {x : Crl} (hx : l[n]? = some x) : ruI l k (n + 1) = if ruT l k n x then some n else ruI l k n := by
 rw [ruI, bi hx]; rfl
theorem FO {l : List Crl} {k : ByteArray} {n : Nat} {x : Crl} (h : hpB k x.pr = false) : ruT l k n x = false := by simp [ruT, h]
theorem wB {l : List Crl} {k : ByteArray} {n : Nat} {x : Crl} (h : hpB k x.pr = true) (ho : ruI l k n = none) : ruT l k n x = true := by simp [ruT, h, ho]
theorem ww {l : List Crl} {k : ByteArray} {n j : Nat} {x : Crl} (h : hpB k x.pr = true) (ho : ruI l k n = some j) : ruT l k n x = decide ((lV l (ruI l k n)).pr.size < x.pr.size) := by simp [ruT, h, ho, lV]
def veI (l : List Rel) (k : ByteArray) (t : Int) : Nat → Option Nat
 | 0 => none
 | n + 1 => if ((l.getD n default).ke.toList == k.toList) && decide ((l.getD n default).ti ≤ t) then some n else veI l k t n
def qM (l : List Rel) : Option Nat → Rel
 | none => default
 | some j => l.getD j default
def veO (l : List Rel) (k : ByteArray) (t : Int) : Option Nat := if (qM l (veI l k t l.length)).go = true then none else veI l k t l.length
theorem Ak {l : List Rel} {k : ByteArray} {t : Int} {j : Nat} : ∀ {n : Nat}, veI l k t n = some j → j < n
 | 0, h => by simp [veI] at h
 | n + 1, h => by
  unfold veI at h; split at h
  ·simp at h; omega
  ·exact Nat.lt_succ_of_lt (Ak h)
theorem vV {l : List Rel} {k : ByteArray} {t : Int} {n : Nat} {x : Rel} (hx : l[n]? = some x) : veI l k t (n + 1) = if (x.ke.toList == k.toList) && decide (x.ti ≤ t) then some n else veI l k t n := by
 rw [veI, bi hx]
abbrev J9 (x : Crl) : Value := .agg #[.string x.pr, .int .i64 x.li, .int .i64 x.st, .int .i64 x.go]
abbrev BkU (w : World) (g : Nat) (x : Crl) : Prop := Bk4 w g 126 (.string x.pr) (.int .i64 x.li) (.int .i64 x.st) (.int .i64 x.go)
structure RuS (w wr : World) (x : Crl) : Prop where
 bel : Below w.heap.size w wr
 zero : BkU wr w.heap.size default
 out : BkU wr (w.heap.size + 1) x
theorem RuS.start (w : World) : RuS w ((w.alloc (.cells #[.string ⟨#[]⟩, .int .i64 0, .int .i64 0, .int .i64 0] 126)).alloc (.cells #[.string ⟨#[]⟩, .int .i64 0, .int .i64 0, .int .i64 0] 126)) default := by
 refine ⟨((LD _ _).alloc (Ls _) _).alloc (by simp) _, ?_, ?_⟩
 ·have h : BkU (w.alloc (.cells #[.string ⟨#[]⟩, .int .i64 0, .int .i64 0, .int .i64 0] 126)) w.heap.size default := ag w _; exact h.below (B := (w.alloc (.cells #[.string ⟨#[]⟩, .int .i64 0, .int .i64 0, .int .i64 0] 126)).heap.size) ((LD _ _).alloc (Ls _) _) (by simp)
 ·have e : w.heap.size + 1 = (w.alloc (.cells #[.string ⟨#[]⟩, .int .i64 0, .int .i64 0, .int .i64 0] 126)).heap.size := by simp
  rw [e]; exact ag _ _
theorem RuS.al {w wr : World} {x : Crl} (h : RuS w wr x) (z : Obj) : RuS w (wr.alloc z) x :=
 ⟨h.bel.alloc h.bel.size z, h.zero.below ((LD _ _).alloc (Ls _) z) h.zero.lt, h.out.below ((LD _ _).alloc (Ls _) z) h.out.lt⟩
theorem RuS.st {w wr : World} {x : Crl} (h : RuS w wr x) (y : Crl) : RuS w (Io wr (w.heap.size + 1) (.string y.pr) (.int .i64 y.li) (.int .i64 y.st) (.int .i64 y.go)) y :=
 ⟨ed h.bel (Nat.le_succ _) _ _ _ _, h.zero.other (by omega), h.out.set _ _ _ _⟩
theorem pO (w : World) (l : List Crl) (v : Value) (k : ByteArray) (hl : Sl w 4 xU v l) :
 Calls Tryz.prog 110 #[v, .string k] w fun e w' => e = .returned (.tuple #[J9 (lV l (ruI l k l.length)), .bool (ruI l k l.length).isSome]) ∧ Below w.heap.size w w' := by
 obtain ⟨ao, cap, rfl, hcap, hmax, hnil, hel⟩ := hl; unfold maxLen at hmax; have HEL := Lr hel; clear hel; have HS0 := Lr (RuS.start w); obtain ⟨Y, hY⟩ : ∃ Y, Y = lV l (ruI l k l.length) := ⟨_, rfl⟩
 obtain ⟨OB, hOB⟩ : ∃ OB, OB = (ruI l k l.length).isSome := ⟨_, rfl⟩
 rw [← hY, ← hOB]; have HY := Lr hY; have HOB := Lr hOB; clear hY hOB
 go_enter Tryz.func110, Tryz.ntmps110
 go_wp2
 go_loopg [7, 9, 12] l.length (fun gg s7 _ s12 wr => ∃ kk : Nat, kk ≤ l.length ∧ l.length - kk ≤ gg ∧ s12 = .int .i64 kk ∧ s7 = .bool (ruI l k kk).isSome ∧ Aside (RuS w wr (lV l (ruI l k kk))))
 case atStart => exact ⟨0, Nat.zero_le _, by omega, by go_num, rfl, HS0.out⟩
 case round =>
  obtain ⟨kk, hkk, hg, rfl, rfl, RS⟩ := hrel; have RS := Lr RS.out; by_cases hlt : kk < l.length
  ·have hltz : (kk : Int) < (l.length : Int) := by omega
   obtain ⟨x, hx⟩ : ∃ x, l[kk]? = some x := ⟨l[kk], by simp [hlt]⟩
   obtain ⟨b, off, rfl, hc⟩ := HEL.out kk x hx; have hlt0 := LC w ⟨b, off + kk * 4 + 0, none⟩ (hc 0 _ rfl); have BL := RS.out.bel; have c0 : wr.cell? ⟨b, off + kk * 4, none⟩ = some (.string x.pr) := (BL.cell (p := ⟨b, off + kk * 4 + 0, none⟩) hlt0).trans (hc 0 _ rfl); have c1 : wr.cell? ⟨b, off + kk * 4 + 1, none⟩ = some (.int .i64 x.li) := (BL.cell (p := ⟨b, off + kk * 4 + 1, none⟩) hlt0).trans (hc 1 _ rfl); have c2 : wr.cell? ⟨b, off + kk * 4 + 2, none⟩ = some (.int .i64 x.st) := (BL.cell (p := ⟨b, off + kk * 4 + 2, none⟩) hlt0).trans (hc 2 _ rfl); have c3 : wr.cell? ⟨b, off + kk * 4 + 3, none⟩ = some (.int .i64 x.go) := (BL.cell (p := ⟨b, off + kk * 4 + 3, none⟩) hlt0).trans (hc 3 _ rfl); obtain ⟨y, hy⟩ : ∃ y, y = lV l (ruI l k kk) := ⟨_, rfl⟩
   have HO := Lr RS.out.out; have HZ := Lr RS.out.zero; have HNI := Lr (wC (k := k) hx); have HT1 := Lr (fun h => @FO l k kk x h); have HT2 := Lr (fun h ho => @wB l k kk x h ho); have HT3 := Lr (fun j h ho => @ww l k kk j x h ho); have HOK : Hid (lV l (some kk) = x) := Lr (by show l.getD kk default = x; exact bi hx); rw [← hy] at HO HT3; have HOY := Lr hy; have hzs := HZ.out.lt; have hos := HO.out.lt; obtain ⟨y0, y1, y2, y3⟩ := HO.out.cells; have yf0 := HO.out.frz 0; have yf1 := HO.out.frz 1; have yf2 := HO.out.frz 2; have yf3 := HO.out.frz 3; have HBA := Lr (fun (z : Obj) => (BL.alloc BL.size z)); have HHP := Lr (fun (W : World) => Tryz.strings_HasPrefix k x.pr W); obtain ⟨h, hh⟩ : ∃ h, h = hpB k x.pr := ⟨_, rfl⟩
   have HH := Lr hh; obtain ⟨o, ho⟩ : ∃ o, o = ruI l k kk := ⟨_, rfl⟩
   rw [← ho] at HNI HT2 HT3 ⊢; have HOI := Lr ho; clear hx hc BL hy hh ho; have HHP2 : Hid (∀ W : World, Calls Tryz.prog 93 #[.string k, .string x.pr] W fun e w' => e = .returned (.bool h) ∧ w' = W) := Lr (fun W => by rw [HH.out]; exact HHP.out W); have HX1 := Lr (fun z => (RS.out.st x).al z); have HX := Lr (RS.out.al (.cells #[.string x.pr, .int .i64 x.li, .int .i64 x.st, .int .i64 x.go] 126)); rw [← HOY.out] at HX; cases h
   case false =>
    have HN : Hid (ruI l k (kk + 1) = o) := Lr (by rw [HNI.out, HT1.out HH.out.symm]; rfl)
    go_wp2_with (go_at_call 93; refine (HHP2.out _).mono ?_; rintro e w' ⟨rfl, rfl⟩)
    go_roundg (l.length - (kk + 1))
    case measure => omega
    case rel => exact ⟨kk + 1, by omega, by omega, by go_num, by rw [HN.out], by rw [HN.out, HOI.out, ← HOY.out]; exact HX.out⟩
   case true =>
    cases o
    case none =>
     have HN : Hid (ruI l k (kk + 1) = some kk) := Lr (by rw [HNI.out, HT2.out HH.out.symm rfl]; rfl)
     go_wp2_with (go_at_call 93; refine (HHP2.out _).mono ?_; rintro e w' ⟨rfl, rfl⟩)
     go_roundg (l.length - (kk + 1))
     case measure => omega
     case rel => exact ⟨kk + 1, by omega, by omega, by go_num, by rw [HN.out]; rfl, by rw [HN.out, HOK.out]; exact HX1.out _⟩
    case some j =>
     by_cases hs : y.pr.size < x.pr.size
     ·have HN : Hid (ruI l k (kk + 1) = some kk) := Lr (by rw [HNI.out, HT3.out j HH.out.symm rfl, decide_eq_true hs]; rfl); have hsz : (y.pr.size : Int) < (x.pr.size : Int) := by omega
      go_wp2_with (go_at_call 93; refine (HHP2.out _).mono ?_; rintro e w' ⟨rfl, rfl⟩)
      go_roundg (l.length - (kk + 1))
      case measure => omega
      case rel => exact ⟨kk + 1, by omega, by omega, by go_num, by rw [HN.out]; rfl, by rw [HN.out, HOK.out]; exact HX1.out _⟩
     ·have HN : Hid (ruI l k (kk + 1) = some j) := Lr (by rw [HNI.out, HT3.out j HH.out.symm rfl, decide_eq_false hs]; rfl); have hsz : ¬ (y.pr.size : Int) < (x.pr.size : Int) := by omega
      go_wp2_with (go_at_call 93; refine (HHP2.out _).mono ?_; rintro e w' ⟨rfl, rfl⟩)
      go_roundg (l.length - (kk + 1))
      case measure => omega
      case rel => exact ⟨kk + 1, by omega, by omega, by go_num, by rw [HN.out]; rfl, by rw [HN.out, HOI.out, ← HOY.out]; exact HX.out⟩
  ·obtain rfl : kk = l.length := by omega
   have hltz : ¬ (l.length : Int) < (l.length : Int) := by omega
   rw [← HY.out] at RS; rw [← HOB.out]; have HO := Lr RS.out.out; have HZ := Lr RS.out.zero; have HBX := Lr RS.out.bel; have hzs := HZ.out.lt; have hos := HO.out.lt; obtain ⟨y0, y1, y2, y3⟩ := HO.out.cells; obtain ⟨z0, z1, z2, z3⟩ := HZ.out.cells; have zf0 := HZ.out.frz 0; have zf1 := HZ.out.frz 1; have zf2 := HZ.out.frz 2; have zf3 := HZ.out.frz 3
   go_upto_region 9 with (fail)
   repeat (first | go_values | go_skip | go_guarded | go_step | go_upon)
   exact bodyPost_ret (v := .tuple #[J9 Y, .bool OB]) (by simp [results, Tryz.results110, go_sem, z0, z1, z2, z3]) rfl ⟨rfl, ed HBX.out (Ls _) _ _ _ _⟩
def aT (x : Ans) : Int := if x.no = true then 1 else x.si
abbrev zW (x : Ans) : Value := .agg #[.int .i64 x.ve, .int .i64 x.bo, .int .i64 x.si, .bool x.no, .string x.fr]
theorem lW (w : World) (x : Ans) : Calls Tryz.prog 153 #[zW x] w fun r w' => r = .returned (.int .i64 (aT x)) ∧ Below w.heap.size w w' := by
 have hB : Below w.heap.size w (w.alloc (.cells #[.int .i64 x.ve, .int .i64 x.bo, .int .i64 x.si, .bool x.no, .string x.fr] 95)) := (LD _ w).alloc (Ls _) _; have HB := Lr hB; cases hn : x.no
 ·have hv : Hid (x.si = aT x) := Lr (by unfold aT; rw [if_neg (by simp [hn])]); clear hB; rw [hn] at HB
  go_enter Tryz.func153, Tryz.ntmps153
  go_wp2
  go_ret
  exact ⟨ah hv.out, HB.out⟩
 ·have hv : Hid (1 = aT x) := Lr (by unfold aT; rw [if_pos hn]); clear hB; rw [hn] at HB
  go_enter Tryz.func153, Tryz.ntmps153
  go_wp2
  go_ret
  exact ⟨ah hv.out, HB.out⟩
def eG (r : Crl) (x : Ans) (stale : Bool) : Int := if x.no = true then x.bo + r.go else if stale = true then x.bo + r.li + r.st else x.bo + r.li
theorem sG (w : World) (r : Crl) (x : Ans) (stale : Bool) (h1 : 0 ≤ x.bo ∧ x.bo ≤ 1000000000000000) (h2 : 0 ≤ r.li ∧ r.li ≤ 1000000000) (h3 : 0 ≤ r.st ∧ r.st ≤ 1000000000) (h4 : 0 ≤ r.go ∧ r.go ≤ 1000000000) :
 Calls Tryz.prog 112 #[J9 r, zW x, .bool stale] w fun e w' => e = .returned (.int .i64 (eG r x stale)) ∧ Below w.heap.size w w' := by
 obtain ⟨a1, a2⟩ := h1; obtain ⟨b1, b2⟩ := h2; obtain ⟨c1, c2⟩ := h3; obtain ⟨d1, d2⟩ := h4; have hB : Below w.heap.size w ((w.alloc (.cells #[.string r.pr, .int .i64 r.li, .int .i64 r.st, .int .i64 r.go] 126)).alloc (.cells #[.int .i64 x.ve, .int .i64 x.bo, .int .i64 x.si, .bool x.no, .string x.fr] 95)) := ((LD _ w).alloc (Ls _) _).alloc (by simp) _; have HB := Lr hB; clear hB; cases hn : x.no
 case true =>
  have hv : Hid (x.bo + r.go = eG r x stale) := Lr (by unfold eG; rw [if_pos hn]); rw [hn] at HB
  go_enter Tryz.func112, Tryz.ntmps112
  go_wp2
  go_ret
  exact ⟨ah hv.out, HB.out⟩
 case false =>
  rw [hn] at HB; cases stale
  case true =>
   have hv : Hid (x.bo + r.li + r.st = eG r x true) := Lr (by unfold eG; rw [if_neg (by simp [hn]), if_pos rfl])
   go_enter Tryz.func112, Tryz.ntmps112
   go_wp2
   go_ret
   exact ⟨ah hv.out, HB.out⟩
  case false =>
   have hv : Hid (x.bo + r.li = eG r x false) := Lr (by unfold eG; rw [if_neg (by simp [hn]), if_neg (by simp)])
   go_enter Tryz.func112, Tryz.ntmps112
   go_wp2
   go_ret
   exact ⟨ah hv.out, HB.out⟩
def uJ (l : List Pur) (k : ByteArray) (t : Int) : Nat → Int
 | 0 => -1
 | n + 1 => if (((l.getD n ⟨0, ⟨#[]⟩⟩).ke.toList == k.toList) && decide ((l.getD n ⟨0, ⟨#[]⟩⟩).ti ≤ t)) = true then max (uJ l k t n) (l.getD n ⟨0, ⟨#[]⟩⟩).ti else uJ l k t n
def fQ (l : List Pur) (k : ByteArray) (t : Int) : Int := uJ l k t l.length
theorem ny {l : List Pur} {k : ByteArray} {t : Int} {n : Nat} {x : Pur} (hx : l[n]? = some x) : uJ l k t (n + 1) = if ((x.ke.toList == k.toList) && decide (x.ti ≤ t)) = true then max (uJ l k t n) x.ti else uJ l k t n := by
 rw [uJ, Lt, hx, Option.getD_some]
theorem pU (w : World) (Q : Nat) (l : List Pur) (v : Value) (k : ByteArray) (t : Int) (hl : Sl w 2 xW v l) (h3 : w.cell? ⟨Q, 3, none⟩ = some v) (h8 : w.cell? ⟨Q, 8, none⟩ = some (.int .i64 t)) :
 Calls Tryz.prog 152 #[.pointer (some ⟨Q, 0, none⟩), .string k] w fun e w' => e = .returned (.int .i64 (fQ l k t)) ∧ Below w.heap.size w w' := by
 obtain ⟨ao, cap, rfl, hcap, hmax, hnil, hel⟩ := hl; unfold maxLen at hmax; have HEL := Lr hel; have hQ := LC w _ h8; have H8 := Lr h8; clear hel h8
 go_enter Tryz.func152, Tryz.ntmps152
 go_wp2_with fail
 go_loopg [5, 7, 14] l.length (fun gg s5 s7 s14 wr => ∃ i : Nat, i ≤ l.length ∧ l.length - i ≤ gg ∧ s14 = .int .i64 i ∧ s5 = .int .i64 (uJ l k t i) ∧ Aside (Below w.heap.size w wr))
 case atStart => exact ⟨0, by omega, by omega, rfl, rfl, (show Aside _ from LD _ _)⟩
 case round =>
  obtain ⟨wq, rfl⟩ : ∃ wq : World, wq = wr := ⟨_, rfl⟩
  obtain ⟨i, hi, hgi, rfl, rfl, BW⟩ := hrel; have HB := Lr BW.out; clear BW; by_cases hil : i < l.length
  ·have hiz : (i : Int) < (l.length : Int) := by omega
   obtain ⟨x, hx⟩ : ∃ x, l[i]? = some x := ⟨l[i], by simp [hil]⟩
   obtain ⟨b, off, rfl, hc⟩ := HEL.out i x hx; have p0 : w.cell? ⟨b, off + i * 2, none⟩ = some (.int .i64 x.ti) := hc 0 _ rfl; have p1 : w.cell? ⟨b, off + i * 2 + 1, none⟩ = some (.string x.ke) := hc 1 _ rfl; have c0 := (HB.out.cell (p := ⟨b, off + i * 2, none⟩) (LC w _ p0)).trans p0; have c1 := (HB.out.cell (p := ⟨b, off + i * 2 + 1, none⟩) (LC w _ p1)).trans p1; have HNX := Lr (ny (k := k) (t := t) hx); obtain ⟨w2, hw2⟩ : ∃ w2, w2 = wq.alloc (.cells #[.int .i64 x.ti, .string x.ke] 74) := ⟨_, rfl⟩
   have HB2 : Hid (Below w.heap.size w w2) := Lr (by rw [hw2]; exact HB.out.alloc HB.out.size _); have hbk : w2.heap[wq.heap.size]? = some (.cells #[.int .i64 x.ti, .string x.ke] 74 (0, 0)) := by rw [hw2]; exact ag wq _
   have d0 : w2.cell? ⟨wq.heap.size, 0, none⟩ = some (.int .i64 x.ti) := (cell_of_block (i := 0) hbk).trans rfl; have d1 : w2.cell? ⟨wq.heap.size, 1, none⟩ = some (.string x.ke) := (cell_of_block (i := 1) hbk).trans rfl; have q8 : w2.cell? ⟨Q, 8, none⟩ = some (.int .i64 t) := (HB2.out.cell (p := ⟨Q, 8, none⟩) hQ).trans H8.out; have HW2 := Lr hw2; obtain ⟨V, hV⟩ : ∃ V, V = uJ l k t i := ⟨_, rfl⟩
   rw [← hV] at HNX ⊢; clear hx hc p0 p1 hbk hw2 hV
   go_upto_region 5 with (fail)
   rw [← HW2.out]; obtain ⟨N, hN⟩ : ∃ N, N = wq.heap.size := ⟨_, rfl⟩
   rw [← hN] at d0 d1 ⊢; clear hN; cases e1 : (x.ke.toList == k.toList)
   case false =>
    have HN2 : Hid (uJ l k t (i + 1) = V) := Lr (by rw [HNX.out, e1]; rfl)
    go_quiet (fail)
    go_wp2
    go_roundg (l.length - (i + 1))
    case measure => omega
    case rel => exact ⟨i + 1, by omega, by omega, by go_num, by rw [HN2.out], below_drewN HB2.out _⟩
   case true =>
    by_cases h5 : x.ti ≤ t
    ·have HN2 : Hid (uJ l k t (i + 1) = max V x.ti) := Lr (by rw [HNX.out, e1]; simp [h5])
     go_quiet (fail)
     obtain ⟨w3, hw3⟩ : ∃ w3, w3 = w2.drewN nq := ⟨_, rfl⟩
     have HB3 : Hid (Below w.heap.size w w3) := Lr (by rw [hw3]; exact below_drewN HB2.out nq); replace d0 : w3.cell? ⟨N, 0, none⟩ = some (.int .i64 x.ti) := by rw [hw3]; exact d0
     rw [← hw3]; clear hw3
     go_wp2
     go_roundg (l.length - (i + 1))
     case measure => omega
     case rel => exact ⟨i + 1, by omega, by omega, by go_num, by rw [HN2.out], HB3.out⟩
    ·have HN2 : Hid (uJ l k t (i + 1) = V) := Lr (by rw [HNX.out, e1]; simp [h5])
     go_quiet (fail)
     go_wp2
     go_roundg (l.length - (i + 1))
     case measure => omega
     case rel => exact ⟨i + 1, by omega, by omega, by go_num, by rw [HN2.out], below_drewN HB2.out _⟩
  ·obtain rfl : i = l.length := by omega
   go_wp2
   go_ret
   exact ⟨rfl, HB.out⟩
end Go.Proofs.YtgohddfnhofjhaaGreatDoor

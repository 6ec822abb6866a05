/- One block alone may have changed. -/
import Derived.Test.YteepbfpcdhdgfaaDoorG03
import Derived.Test.YteepbfpcdhdgfaaDoorG06
import Derived.Deep.RegionWith
import Derived.Laws.OwnMore
import Derived.Deep.CutBlock
import Derived.Lib.SmallJoins
import Derived.Lib.ConvBytes
namespace Go.Proofs.YteepbfpcdhdgfaaDoor
open Go.RowKit

/-- Of what was there, block P alone may have changed. -/
def Onl (P : Nat) (w w' : World) : Prop := w.grownBy w' (some P)
theorem Onl.refl (P : Nat) (w : World) : Onl P w w := ⟨rfl, rfl, rfl, Nat.le_refl _, fun _ _ _ => rfl⟩
theorem Onl.size {P : Nat} {a b : World} (h : Onl P a b) : a.heap.size ≤ b.heap.size := World.grownBy.size h
theorem Onl.trans {P : Nat} {a b c : World} (h : Onl P a b) (k : Onl P b c) : Onl P a c :=
  ⟨(World.grownBy.os k).trans (World.grownBy.os h), (World.grownBy.tape k).trans (World.grownBy.tape h), (World.grownBy.output k).trans (World.grownBy.output h), Nat.le_trans h.size k.size, fun i hi hP =>
    (World.grownBy.block k i (Nat.lt_of_lt_of_le hi h.size) hP).trans (World.grownBy.block h i hi hP)⟩
theorem Onl.of_below {P : Nat} {a b : World} (h : Below a.heap.size a b) : Onl P a b := ⟨h.os, h.tape, h.output, h.size, fun i hi _ => h.block i hi⟩
theorem Onl.below {P : Nat} {a b c : World} (h : Onl P a b) (k : Below b.heap.size b c) : Onl P a c := h.trans (.of_below k)
theorem Onl.set (P : Nat) (w : World) (o : Nat) (v : Value) : Onl P w (w.setCell ⟨P, o, none⟩ v) :=
  ⟨rfl, rfl, rfl, by simp, fun i _ hP => Below.heap_setCell w ⟨P, o, none⟩ v i (fun e => hP (by rw [e]))⟩
theorem Onl.block {P : Nat} {a b : World} (h : Onl P a b) {i : Nat} {o : Obj} (hi : a.heap[i]? = some o) (hP : i ≠ P) : b.heap[i]? = some o :=
  (World.grownBy.block h i (Array.getElem?_eq_some_iff.1 hi).1 (fun e => hP (by simpa using e))).trans hi
theorem Onl.toBelow {P B : Nat} {a b : World} (h : Onl P a b) (hB : B ≤ a.heap.size) (hP : B ≤ P) : Below B a b :=
  (Below.refl B a).grown h hB (fun k hk => by simp only [Option.some.injEq] at hk; omega)

/-- A slice that does not lie in block P. -/
def offB (P : Nat) (v : Value) : Prop := ∀ a n c, v = .slice (some a) n c → a.block ≠ P
theorem offB.nil (P : Nat) : offB P (.slice none 0 0) := fun a n c h => by simp at h
theorem offB.mk {P b o n c : Nat} (h : b ≠ P) : offB P (.slice (some ⟨b, o, none⟩) n c) := fun a n c e => by
  simp only [Value.slice.injEq, Option.some.injEq] at e
  obtain ⟨rfl, _⟩ := e
  exact h
theorem Own.offB {α : Type} {w : World} {base P : Nat} {E : TypeId} {k : Nat} {enc : α → List Value} {v : Value} {l : List α} (h : Own w base E k enc v l) (hP : P < base) : offB P v := by
  obtain ⟨_, h2⟩ := h
  rcases h2 with ⟨rfl, _⟩ | ⟨g, cap, cur, rfl, hg, _⟩
  · exact .nil P
  · exact .mk (by omega)
theorem Sl.onl {α : Type} {w w' : World} {P k : Nat} {enc : α → List Value} {v : Value} {l : List α} (h : Sl w k enc v l) (hv : offB P v) (ho : Onl P w w') : Sl w' k enc v l := by
  obtain ⟨ao, cap, rfl, h2, h3, h4, h5⟩ := h
  refine ⟨ao, cap, rfl, h2, h3, h4, fun i x hx => ?_⟩
  obtain ⟨b, off, rfl, hc⟩ := h5 i x hx
  refine ⟨b, off, rfl, fun j u hu => ?_⟩
  have hcell := hc j u hu
  exact (World.grownBy.cell ho hcell (fun e => hv _ _ _ rfl (by simpa using e)))
theorem Sl.onlE {α : Type} {w w' : World} {P k : Nat} {enc : α → List Value} {v : Value} {l : List α} (h : Sl w k enc v l) (hv : l ≠ [] → offB P v) (ho : Onl P w w') : Sl w' k enc v l := by
  by_cases e : l = []
  · subst e
    obtain ⟨ao, cap, rfl, h2, h3, h4, h5⟩ := h
    exact ⟨ao, cap, rfl, h2, h3, h4, fun i x hx => by simp at hx⟩
  · exact h.onl (hv e) ho
/-- A slice with elements lies in what was there. -/
theorem Sl.offE {α : Type} {w : World} {P k : Nat} {enc : α → List Value} {v : Value} {l : List α} (h : Sl w k enc v l) (hk : ∀ x, 0 < (enc x).length) (hP : w.heap.size ≤ P) (hne : l ≠ []) : offB P v := fun a n c hv hb => by
  obtain ⟨ao, cap, h1, _, _, _, hel⟩ := h
  obtain ⟨x, r, rfl⟩ := List.exists_cons_of_ne_nil hne
  obtain ⟨b, off, hao, hc⟩ := hel 0 x rfl
  rw [hv] at h1
  simp only [Value.slice.injEq] at h1
  obtain ⟨h1, _⟩ := h1
  rw [hao] at h1
  simp only [Option.some.injEq] at h1
  have hlt : b < w.heap.size := World.block_lt_of_cell? w _ (hc 0 _ (List.getElem?_eq_getElem (hk x)))
  rw [h1] at hb
  simp at hb
  omega
theorem lt_of_blk {w : World} {i : Nat} {o : Obj} (h : w.heap[i]? = some o) : i < w.heap.size := (Array.getElem?_eq_some_iff.1 h).1
end Go.Proofs.YteepbfpcdhdgfaaDoor

/- The digest of the program: the walk. -/
namespace Go.Proofs.YteepbfpcdhdgfaaDoor
open Go.RowKit

theorem infoU : (Tryd.prog.info? 5).map (fun i => (i.zero, i.size, i.bytes)) = some (some (.int .u8 0), 1, 1) := by kernel_rfl
theorem slU : SlT Tryd.prog 58 5 1 1 := by
  obtain ⟨i0, hi, hz0, hz1, hz2⟩ := info_parts infoU
  exact ⟨i0, _, Tryd.underlying58, hi, hz0, hz1, hz2, rfl, by decide, by decide⟩
theorem BytesAt.sl {w : World} {b o n cap : Nat} {l : List UInt8} (h : BytesAt w b o l) (hn : l.length = n) (h1 : n ≤ cap) (h2 : cap ≤ maxLen) : Sl w 1 encU (.slice (some ⟨b, o, none⟩) n cap) l := by
  subst hn
  refine ⟨some ⟨b, o, none⟩, cap, rfl, h1, h2, fun e => (by cases e), fun i x hx => ⟨b, o, rfl, fun j u hu => ?_⟩⟩
  cases j with
  | zero =>
    simp [encU] at hu
    subst hu
    have := h i x hx
    simpa using this
  | succ j => simp [encU] at hu
theorem Own.bytes {w : World} {base b n cap : Nat} {E : TypeId} {l : List UInt8} (h : Own w base E 1 encU (.slice (some ⟨b, 0, none⟩) n cap) l) : BytesAt w b 0 l := fun i x hx => by
  obtain ⟨g, cp, hv, _, _, _, _, hc, _⟩ := Own.getk encU_len h (fun e => by rw [e] at hx; simp at hx)
  simp only [Value.slice.injEq, Option.some.injEq, Addr.mk.injEq, and_true] at hv
  obtain ⟨rfl, _, _⟩ := hv
  have := hc i x 0 _ hx rfl
  simpa using this
theorem Own.frz {w : World} {base b n cap : Nat} {E : TypeId} {l : List UInt8} (h : Own w base E 1 encU (.slice (some ⟨b, 0, none⟩) n cap) l) {i : Nat} {x : UInt8} (hx : l[i]? = some x) (j : Nat) : w.frozen? ⟨b, j, none⟩ = false := by
  obtain ⟨g, cp, hv, _, _, _, _, _, hf⟩ := Own.getk encU_len h (fun e => by rw [e] at hx; simp at hx)
  simp only [Value.slice.injEq, Option.some.injEq, Addr.mk.injEq, and_true] at hv
  obtain ⟨rfl, _, _⟩ := hv
  exact hf j
/-- The digest's text while it is padded. -/
theorem padZ_go {n : Nat} {t : List UInt8} (h : t.length % 16 ≠ 8) : padZ (n + 1) t = padZ n (t ++ [0]) := by
  show (if t.length % 16 = 8 then t else padZ n (t ++ [0])) = _
  rw [if_neg h]
theorem padZ_end {n : Nat} {t : List UInt8} (h : t.length % 16 = 8) : padZ n t = t := by
  cases n with
  | zero => rfl
  | succ n =>
    show (if t.length % 16 = 8 then t else _) = _
    rw [if_pos h]
/-- The state as it is laid. -/
def startX (i : Nat) : List UInt8 := (List.range i).map UInt8.ofNat ++ List.replicate (16 - i) 0
theorem startX_next {i : Nat} (hi : i < 16) : (startX i).set i (UInt8.ofNat i) = startX (i + 1) := by
  unfold startX
  rw [List.set_append_right _ _ (by simp), List.length_map, List.length_range, Nat.sub_self, show 16 - i = (16 - (i + 1)) + 1 by omega, List.replicate_succ, List.set_cons_zero, List.range_succ]
  simp
theorem startX_all : startX 16 = dgStart := by decide +kernel
theorem len8 {z : List UInt8} (h : z.length = 8) : ∃ z0 z1 z2 z3 z4 z5 z6 z7, z = [z0, z1, z2, z3, z4, z5, z6, z7] := by
  match z, h with
  | [z0, z1, z2, z3, z4, z5, z6, z7], _ => exact ⟨_, _, _, _, _, _, _, _, rfl⟩
def zero16 : List UInt8 := List.replicate 16 0
theorem make16 (w : World) : (Instr.makeSlice 58 (.int .i64 16) (.int .i64 16)).run Tryd.prog w = .ok (.slice (some ⟨w.heap.size, 0, none⟩) 16 16) (w.alloc (.cells (cellsU zero16) 5)) := by
  obtain ⟨i, z, ht, hi, hz, hs, hb, _⟩ := slU
  obtain ⟨i0, hi0, hz0, hz1, hz2⟩ := info_parts infoU
  have hr := run_make (P := Tryd.prog) w 58 5 i0 _ ht hi0 hz0 .i64 .i64 16 16 (by omega) (Int.le_refl _) (by rw [hz2]; omega) (by omega)
  rw [hr, hz1]
  have h := toList_madeCells_one (Value.int .u8 0) 16
  have e : madeCells (Value.int IntKind.u8 0).cells (Int.toNat 16 * 1) = cellsU zero16 := by
    apply Array.toList_inj.1
    show (madeCells #[Value.int .u8 0] 16).toList = _
    rw [h]
    rfl
  rw [e]
  rfl
abbrev put8 (w : World) (N : Nat) (b0 b1 b2 b3 b4 b5 b6 b7 : UInt8) : World :=
  (((((((w.setCell ⟨N, 0, none⟩ (.int .u8 b0.toNat)).setCell ⟨N, 1, none⟩ (.int .u8 b1.toNat)).setCell ⟨N, 2, none⟩ (.int .u8 b2.toNat)).setCell ⟨N, 3, none⟩ (.int .u8 b3.toNat)).setCell ⟨N, 4, none⟩ (.int .u8 b4.toNat)).setCell ⟨N, 5, none⟩ (.int .u8 b5.toNat)).setCell ⟨N, 6, none⟩ (.int .u8 b6.toNat)).setCell ⟨N, 7, none⟩ (.int .u8 b7.toNat)
theorem put8_blk {w : World} {N : Nat} {T : TypeId} {a0 a1 a2 a3 a4 a5 a6 a7 : UInt8} (h : BlkT w N T [a0, a1, a2, a3, a4, a5, a6, a7]) (b0 b1 b2 b3 b4 b5 b6 b7 : UInt8) : BlkT (put8 w N b0 b1 b2 b3 b4 b5 b6 b7) N T [b0, b1, b2, b3, b4, b5, b6, b7] :=
  (((((((h.set 0 b0).set 1 b1).set 2 b2).set 3 b3).set 4 b4).set 5 b5).set 6 b6).set 7 b7
theorem put8_onl (w : World) (N : Nat) (b0 b1 b2 b3 b4 b5 b6 b7 : UInt8) : Onl N w (put8 w N b0 b1 b2 b3 b4 b5 b6 b7) :=
  (((((((Onl.set N w 0 _).trans (Onl.set N _ 1 _)).trans (Onl.set N _ 2 _)).trans (Onl.set N _ 3 _)).trans (Onl.set N _ 4 _)).trans (Onl.set N _ 5 _)).trans (Onl.set N _ 6 _)).trans (Onl.set N _ 7 _)
theorem BlkT.onl {w W : World} {b N : Nat} {T : TypeId} {l : List UInt8} (h : BlkT w b T l) (ho : Onl N w W) (hne : b ≠ N) : BlkT W b T l := ho.block h hne
theorem Own.onl {α : Type} {w W : World} {base P N : Nat} {E : TypeId} {k n cap : Nat} {enc : α → List Value} {l : List α} (h : Own w base E k enc (.slice (some ⟨P, 0, none⟩) n cap) l) (ho : Onl N w W) (hne : P ≠ N) : Own W base E k enc (.slice (some ⟨P, 0, none⟩) n cap) l := by
  obtain ⟨q1, q2⟩ := h
  refine ⟨q1, ?_⟩
  rcases q2 with ⟨q2, _⟩ | ⟨g, cp, cur, e1, e2, e3, r⟩
  · cases q2
  · have e1' := e1
    simp only [Value.slice.injEq, Option.some.injEq, Addr.mk.injEq, and_true] at e1'
    obtain ⟨rfl, _, _⟩ := e1'
    exact Or.inr ⟨P, cp, cur, e1, e2, ho.block e3 hne, r⟩
/-- What is left when a block of the cipher has been mixed. -/
def CutX (B : Nat) (w8 W : World) (S pb pcap N : Nat) (T80 : TypeId) (st p z : List UInt8) (EU : TypeId) : Prop :=
  Below B w8 W ∧ BlkT W S EU st ∧ Own W B EU 1 encU (.slice (some ⟨pb, 0, none⟩) p.length pcap) p ∧ BlkT W N T80 z
/-- A block of which the first bytes are turned. -/
def notX (p : List UInt8) (i : Nat) : List UInt8 := (p.take i).map (fun x => ~~~ x) ++ p.drop i
theorem notX_at {p : List UInt8} {i : Nat} {x : UInt8} (h : p[i]? = some x) : (notX p i)[i]? = some x := by
  have hlt := (List.getElem?_eq_some_iff.1 h).1
  unfold notX
  rw [List.getElem?_append_right (by simp; omega), List.length_map, List.length_take, Nat.min_eq_left (by omega), Nat.sub_self, List.getElem?_drop, Nat.add_zero, h]
theorem notX_next {p : List UInt8} {i : Nat} {x : UInt8} (h : p[i]? = some x) : (notX p i).set i (~~~ x) = notX p (i + 1) := by
  have hlt := (List.getElem?_eq_some_iff.1 h).1
  unfold notX
  rw [List.set_append_right _ _ (by simp; omega), List.length_map, List.length_take, Nat.min_eq_left (by omega), Nat.sub_self, drop_next h, List.set_cons_zero, take_next h, List.map_append]
  simp
theorem notX_len (p : List UInt8) (i : Nat) : (notX p i).length = p.length := by
  unfold notX
  rw [List.length_append, List.length_map, List.length_take, List.length_drop]
  omega
theorem notX_all {p : List UInt8} {n : Nat} (h : p.length = n) : notX p n = p.map (fun x => ~~~ x) := by
  unfold notX
  rw [← h, List.take_length, List.drop_length, List.append_nil]
theorem notX_store {w : World} {base pb cap i : Nat} {E : TypeId} {p : List UInt8} {x : UInt8} {Y : Nat} (h : Own w base E 1 encU (.slice (some ⟨pb, 0, none⟩) p.length cap) (notX p i)) (hx : p[i]? = some x) (hY : (~~~ x).toNat = Y) :
    Own (w.setCell ⟨pb, i, none⟩ (.int .u8 (Y : Nat))) base E 1 encU (.slice (some ⟨pb, 0, none⟩) p.length cap) (notX p (i + 1)) := by
  have h1 := Own.store (i := i) (j := 0) (x := x) (y := ~~~ x) (u := .int .u8 ((~~~ x).toNat : Nat)) encU_len h (notX_len p i).symm (notX_at hx) (by decide) rfl
  rw [notX_next hx, Nat.mul_one, Nat.add_zero, hY] at h1
  exact h1
theorem not_toNat (x : UInt8) : (~~~ x).toNat = 255 - x.toNat := by simp
theorem xor255 {X : Nat} (h : X < 256) : bits .xor .u8 IntKind.u8.max (X : Int) = ((255 - X : Nat) : Int) := by
  have h1 := bits_xor_u8 255 X (by decide) h
  rw [show (255 ^^^ X) = 255 - X from (show ∀ X, X < 256 → 255 ^^^ X = 255 - X by decide +kernel) X h] at h1
  exact h1
def CutY (B : Nat) (w8 W : World) (S N9 N11 : Nat) (T80 : TypeId) (st b d : List UInt8) (EU : TypeId) : Prop :=
  Below B w8 W ∧ BlkT W S EU st ∧ BlkT W N9 T80 b ∧ BlkT W N11 T80 d
theorem copyU (w : World) {S o N n dLen dCap sCap : Nat} {EU T : TypeId} {st z : List UInt8} (hS : BlkT w S EU st) (hz : BlkT w N T z) (hn : z.length = n) (ho : o + n ≤ st.length) (hd : n ≤ dLen) (ty : TypeId) :
    (Builtin.copy_ #[58, 58] ty #[.slice (some ⟨S, o, none⟩) dLen dCap, .slice (some ⟨N, 0, none⟩) n sCap]).run Tryd.prog w = .ok (goInt (n : Nat)) (w.setRow S (cellsU (st.take o ++ z ++ st.drop (o + n)))) := by
  have hcl : (z.map fun x => Value.int .u8 (x.toNat : Nat)).length = n := by rw [List.length_map, hn]
  have h := run_copy_row (P := Tryd.prog) w 58 58 ty 5 S o dLen dCap ⟨N, 0, none⟩ n sCap (cellsU st) EU (z.map fun x => Value.int .u8 (x.toNat : Nat)) Tryd.underlying58 (by obtain ⟨i0, hi0, _, hz1, _⟩ := info_parts infoU; rw [hi0]; exact congrArg some hz1) hS
    (by rw [hcl]; exact (Nat.min_eq_left hd).symm) (fun j v hj => by
      rw [List.getElem?_map] at hj
      cases hx : z[j]? with
      | none => rw [hx] at hj; cases hj
      | some x =>
        rw [hx] at hj
        simp only [Option.map_some, Option.some.injEq] at hj
        subst hj
        rw [Addr.add_lit]
        exact hz.bytes j x hx) (by rw [hcl]; unfold cellsU; simp; omega) (fun v hv => by
      obtain ⟨x, _, rfl⟩ := List.mem_map.1 hv
      rfl)
  rw [h, hcl]
  congr 2
  unfold cellsU
  simp [List.map_take, List.map_drop]
theorem Onl.row (P : Nat) (w : World) (cs : Array Value) : Onl P w (w.setRow P cs) :=
  ⟨rfl, rfl, rfl, by simp [World.setRow], fun i _ hP => setRow_other w P i cs (fun e => hP (by rw [e]))⟩
def DgP (w : World) (l : List UInt8) : Ending → World → Prop := fun e w' => ∃ S, w.heap.size ≤ S ∧ e = .returned (.slice (some ⟨S, 0, none⟩) 16 16) ∧ BlkT w' S 5 (digN l) ∧ Below w.heap.size w w'

set_option maxRecDepth 100000 in
set_option maxHeartbeats 1000000 in
theorem digest_any (w : World) (l : List UInt8) (v : Value) (hl : Sl w 1 encU v l) (hn : l.length ≤ 1000) :
    Calls Tryd.prog 56 #[v] w (DgP w l) := by
  have HL := Lib.hid hl
  obtain ⟨bo, bcap, rfl, hbc, hbm, -, -⟩ := hl
  unfold maxLen at hbm
  go_enter Tryd.func56, Tryd.ntmps56
  go_wp2_with (at_builtin; go_loud (first | (refine wpList_extend (v := .slice none 0 0) (u := .slice bo l.length bcap) (l := []) (m := l) rfl _ _ 58 rfl slU encU_len (fun _ => rfl) rfl rfl Own.nil HL.out (by simp; omega) (Nat.le_refl _) ?_; intro v1 w1 ho1 hb1; obtain ⟨ta, tL, tc, rfl⟩ := Own.slv encU_len ho1; have HO1 := Lib.hid ho1; have HB1 := Lib.hid hb1; clear ho1 hb1) | (refine wpList_push (l := [] ++ l) rfl _ _ 58 rfl slU rfl rfl (128 : UInt8) rfl rfl rfl HO1.out rfl (by simp; omega) HB1.out.size ?_; intro v2 w2 ho2 hb2; have HO2 := Lib.hid ho2; have HB2 := Lib.hid (HB1.out.trans hb2); clear ho2 hb2)))
  go_loopg [3] 24 (fun gg s3 wr => ∃ t : List UInt8, (24 - t.length % 16) % 16 ≤ gg ∧ l.length < t.length ∧ t.length + (24 - t.length % 16) % 16 ≤ l.length + 16 ∧ Aside (Below w.heap.size w wr) ∧ Aside (Own wr w.heap.size 5 1 encU s3 t) ∧ Aside (∃ q, (24 - t.length % 16) % 16 ≤ q ∧ padZ q t = padZ 16 (l ++ [128])))
  case atStart => exact ⟨l ++ [128], by omega, by simp, by simp; omega, HB2.out, HO2.out, (show Aside _ from ⟨16, by omega, rfl⟩)⟩
  case round =>
    obtain ⟨wq, rfl⟩ : ∃ wq : World, wq = wr := ⟨_, rfl⟩
    obtain ⟨t, hgt, htl, htb, BW, OW, PW⟩ := hrel
    obtain ⟨xa, xL, xc, rfl⟩ := Own.slv encU_len OW.out
    have hxL : xL = t.length := by
      obtain ⟨_, _, h, _⟩ := OW.out.sl encU_len
      simp only [Value.slice.injEq] at h
      exact h.2.1
    subst hxL
    obtain ⟨r, hr⟩ : ∃ r, r = t.length % 16 := ⟨_, rfl⟩
    have hrm : (t.length : Int).tmod 16 = (r : Int) := by rw [Int.tmod_eq_emod_of_nonneg (by omega)]; omega
    by_cases h8 : r = 8
    · have hpe := PW.out
      obtain ⟨q, _, hpad⟩ := hpe
      rw [padZ_end (by omega)] at hpad
      have HP := Lib.hid hpad
      have hr8 : ((r : Int) != 8) = false := by simp [h8]
      have HB3 := Lib.hid BW.out
      have HO3 := Lib.hid OW.out
      have HR := Lib.hid hr
      have hdv : (l.length : Int) / 4294967296 = 0 := by omega
      have hmd : (l.length : Int) % 4294967296 = (l.length : Int) := by omega
      obtain ⟨z0, z1, z2, z3, z4, z5, z6, z7, hz⟩ := len8 (z := bytes4 0 ++ bytes4 l.length) rfl
      have hwb := fun W => wordBytes_any 0 l.length W (by decide) (by omega)
      rw [hz] at hwb
      have HWB := Lib.hid hwb
      have HTX : Hid (dgText l = t ++ [z0, z1, z2, z3, z4, z5, z6, z7]) := Lib.hid (by
        unfold dgText
        rw [← hpad, show l.length / 4294967296 % 4294967296 = 0 by omega, show l.length % 4294967296 = l.length by omega, hz])
      have hmk := make16
      clear hwb hz
      clear hpad PW BW OW hr HB2 HO2 HB1 HO1
      go_wp2_with fail
      refine (HWB.out _).mono ?_
      rintro e w4 ⟨rfl, hb4⟩
      have HB4 := Lib.hid (HB3.out.thru hb4)
      have HO4 := Lib.hid (HO3.out.below hb4 (Nat.le_refl _))
      obtain ⟨w5, hw5⟩ : ∃ w5, w5 = w4.alloc (.cells (cellsU [z0, z1, z2, z3, z4, z5, z6, z7]) 80) := ⟨_, rfl⟩
      have HB5 : Hid (Below w.heap.size w w5) := Lib.hid (by rw [hw5]; exact HB4.out.alloc HB4.out.size _)
      have HO5 : Hid (Own w5 w.heap.size 5 1 encU (.slice xa t.length xc) t) := Lib.hid (by rw [hw5]; exact HO4.out.al _)
      have HK5 : Hid (BlkT w5 w4.heap.size 80 [z0, z1, z2, z3, z4, z5, z6, z7]) := Lib.hid (by rw [hw5]; exact BlkT.new w4 _ _)
      have HW5 : Hid (w5 = w4.alloc (.cells #[.int .u8 z0.toNat, .int .u8 z1.toNat, .int .u8 z2.toNat, .int .u8 z3.toNat, .int .u8 z4.toNat, .int .u8 z5.toNat, .int .u8 z6.toNat, .int .u8 z7.toNat] 80)) := Lib.hid hw5
      have HBU : Hid ((t.length + [z0, z1, z2, z3, z4, z5, z6, z7].length) * 1 ≤ 140737488355328) := Lib.hid (by simp; omega)
      clear hb4 hw5 HB3 HO3
      unfold arr8
      go_upto_region 6 with (fail)
      rw [← HW5.out]
      go_wp2_with (at_builtin; go_loud (refine wpList_extend (v := .slice xa t.length xc) (u := .slice (some ⟨w4.heap.size, 0, none⟩) 8 8) (l := t) (m := [z0, z1, z2, z3, z4, z5, z6, z7]) rfl _ _ 58 rfl slU encU_len (fun _ => rfl) rfl rfl HO5.out (HK5.out.bytes.sl rfl (by decide) (by decide)) HBU.out HB5.out.size ?_; intro v6 w6 ho6 hb6; rw [← HTX.out] at ho6; obtain ⟨ya, yL, yc, rfl⟩ := Own.slv encU_len ho6; have HO6 := Lib.hid ho6; have HB6 := Lib.hid (HB5.out.trans hb6); clear ho6 hb6))
      obtain ⟨w7, hw7⟩ : ∃ w7, w7 = w6.alloc (.cells (cellsU zero16) 5) := ⟨_, rfl⟩
      have HB7 : Hid (Below w.heap.size w w7) := Lib.hid (by rw [hw7]; exact HB6.out.alloc HB6.out.size _)
      have HO7 : Hid (Own w7 w.heap.size 5 1 encU (.slice ya yL yc) (dgText l)) := Lib.hid (by rw [hw7]; exact HO6.out.al _)
      have HK7 : Hid (BlkT w7 w6.heap.size 5 (startX 0)) := Lib.hid (by rw [hw7]; exact BlkT.new w6 _ zero16)
      have HOF : Hid (∀ g n c, (.slice ya yL yc : Value) = .slice (some g) n c → g.block < w6.heap.size) := Lib.hid (fun g n c h => by
        rw [h] at HO6
        obtain ⟨ba, bo'⟩ := HO6.out
        rcases bo' with ⟨e, _⟩ | ⟨g', cp, cur, e, _, hh, _⟩
        · cases e
        · simp only [Value.slice.injEq, Option.some.injEq] at e
          obtain ⟨rfl, _⟩ := e
          exact (Array.getElem?_eq_some_iff.1 hh).1)
      have HNW : Hid (w.heap.size ≤ w6.heap.size) := Lib.hid HB6.out.size
      rw [← hw7]
      clear hw7 hmk
      obtain ⟨S, hS⟩ : ∃ S, S = w6.heap.size := ⟨_, rfl⟩
      rw [← hS] at HK7 HOF HNW ⊢
      clear hS
      go_loopg [38] 16 (fun gg s38 wr => ∃ i : Nat, i ≤ 16 ∧ 16 - i ≤ gg ∧ s38 = .int .i64 i ∧ Aside (Onl S w7 wr) ∧ Aside (BlkT wr S 5 (startX i)))
      case atStart => exact ⟨0, by omega, by omega, rfl, (show Aside _ from Onl.refl _ _), HK7.out⟩
      case round =>
        obtain ⟨wp, rfl⟩ : ∃ wp : World, wp = wr := ⟨_, rfl⟩
        obtain ⟨i, hi, hgi, rfl, ON, KS⟩ := hrel
        by_cases hil : i < 16
        · have hiz : (i : Int) < 16 := by omega
          have hle : (startX i).length = 16 := by unfold startX; rw [List.length_append, List.length_map, List.length_range, List.length_replicate]; omega
          have hu := KS.out.bytes i _ (getD_some (by omega))
          rw [Nat.zero_add] at hu
          have hf := KS.out.frz i
          have HS := Lib.hid (fun v (hv : v = Value.int .u8 (i : Nat)) => by
            have := KS.out.set i (UInt8.ofNat i)
            rw [startX_next hil, show (UInt8.ofNat i).toNat = i by rw [u8_toNat]; omega, ← hv] at this
            exact this)
          obtain ⟨u, hu2⟩ : ∃ u, u = ((startX i).getD i 0).toNat := ⟨_, rfl⟩
          rw [← hu2] at hu
          clear hu2 hle KS
          go_wp2
          go_roundg (16 - (i + 1))
          case measure => omega
          case rel => exact ⟨i + 1, by omega, by omega, by go_num, (show Aside _ from ON.out.trans (Onl.set S wp i _)), (show Aside _ from HS.out _ rfl)⟩
        · obtain rfl : i = 16 := by omega
          rw [startX_all] at KS
          have hne : dgText l ≠ [] := by rw [HTX.out]; simp
          obtain ⟨tb, tcap0, hyv, htb1, htb2, hcap1, hcap2, htc, -⟩ := Own.getk encU_len HO7.out hne
          have htS : tb < S := HOF.out ⟨tb, 0, none⟩ (dgText l).length tcap0 hyv
          simp only [Value.slice.injEq] at hyv
          obtain ⟨rfl, rfl, rfl⟩ := hyv
          have hTL : (dgText l).length % 16 = 0 := by rw [HTX.out, List.length_append]; have := HR.out; simp; omega
          have HBT := Lib.hid HO7.out.bytes
          have HTS := Lib.hid htS
          have HTL := Lib.hid hTL
          have HON := Lib.hid ON.out
          have HKS := Lib.hid KS.out
          unfold maxLen at hcap2
          clear hne htc ON KS htS hTL htb1 htb2 HO7 HOF HTX HP HR HWB HB4 HO4 HO5 HK5 HW5 HBU HO6 HB6 HK7
          go_wp2
          go_loopg [3] ((dgText l).length + 1) (fun gg s3 wr => ∃ (tof tcap : Nat) (tl st : List UInt8), s3 = .slice (some ⟨tb, tof, none⟩) tl.length tcap ∧ tl.length ≤ gg ∧ tl.length ≤ tcap ∧ tcap ≤ 9223372036854775807 ∧ tl.length % 16 = 0 ∧ st.length = 16 ∧ Aside (Onl S w7 wr) ∧ Aside (BlkT wr S 5 st) ∧ Aside (BytesAt w7 tb tof tl) ∧ Aside (∃ q, tl.length < q ∧ dgRun q st tl = digN l))
          case atStart => exact ⟨0, yc, dgText l, dgStart, rfl, by omega, by omega, by omega, HTL.out, rfl, HON.out, HKS.out, HBT.out, (show Aside _ from ⟨_, by omega, rfl⟩)⟩
          case round =>
            obtain ⟨w8, rfl⟩ : ∃ w8 : World, w8 = wr := ⟨_, rfl⟩
            obtain ⟨tof, tcap, tl, st, rfl, hgt, htc1, htc2, hmod, hst, ON, KS, BT, DR⟩ := hrel
            have h8 : w7.heap.size ≤ w8.heap.size := ON.out.size
            have HB8 : Hid (Below w.heap.size w w8) := Lib.hid (HB7.out.trans (ON.out.toBelow HB7.out.size HNW.out))
            by_cases hnil : 0 < tl.length
            · have hnz : (0 : Int) < (tl.length : Int) := by omega
              have h16 : 16 ≤ tl.length := by omega
              have h16z : (16 : Int) ≤ (tl.length : Int) := by omega
              obtain ⟨q, hq, hdr⟩ := DR.out
              obtain ⟨q, rfl⟩ : ∃ q', q = q' + 1 := ⟨q - 1, by omega⟩
              have hdr2 : dgRun q (dgStep st (tl.take 16)) (tl.drop 16) = digN l := by
                rw [← hdr]
                show _ = (if tl = [] then st else _)
                rw [if_neg (fun e => by rw [e] at hnil; simp at hnil)]
              have HDR := Lib.hid hdr2
              have hB8t : BytesAt w8 tb tof (tl.take 16) := fun i x hx => by
                have h1 := BT.out.take 16 i x hx
                exact World.grownBy.cell ON.out h1 (fun e => by simp at e; have := HTS.out; omega)
              have HT16 := Lib.hid (BytesAt.sl hB8t (n := 16) (cap := tcap) (by rw [List.length_take]; omega) (by omega) htc2)
              have HONX := Lib.hid ON.out
              have HKX := Lib.hid KS.out
              have HBT2 := Lib.hid (BT.out.drop 16)
              have hS8 : S < w8.heap.size := KS.out.lt
              obtain ⟨T16, hT16⟩ : ∃ T16, T16 = tl.take 16 := ⟨_, rfl⟩
              have HTE := Lib.hid hT16
              rw [← hT16] at HT16 HDR
              have hTl : T16.length = 16 := by rw [hT16, List.length_take]; omega
              have HTLn := Lib.hid hTl
              clear hdr hdr2 hB8t ON KS BT DR hT16
              go_wp2_with (at_builtin; go_loud (refine wpList_extend (v := .slice none 0 0) (u := .slice (some ⟨tb, tof, none⟩) 16 tcap) (l := []) (m := T16) rfl _ _ 58 rfl slU encU_len (fun _ => rfl) rfl rfl (Own.nil (base := w8.heap.size)) HT16.out (by rw [HTLn.out]; decide) (Nat.le_refl _) ?_; intro v9 w9 ho9 hb9; rw [List.nil_append] at ho9; obtain ⟨pb, pcap, rfl, hp1, hp2, hp3, hp4, -, -⟩ := Own.getk encU_len ho9 (fun e => by have := HTLn.out; rw [e] at this; simp at this); have HO9 := Lib.hid ho9; have HB9 := Lib.hid hb9; clear ho9 hb9))
              have hs1 : (st.take 8).length = 8 := by rw [List.length_take]; omega
              have hs2 : (st.drop 8).length = 8 := by rw [List.length_drop]; omega
              have HS1 := Lib.hid hs1
              have HS2 := Lib.hid hs2
              have HK9 := Lib.hid (HKX.out.below HB9.out)
              have HE1 := Lib.hid (encrypt_any w9 pb 0 pcap S 0 16 T16 (st.take 8) HO9.out.bytes HTLn.out (by have := HTLn.out; omega) (HK9.out.bytes.take 8) hs1 (by omega))
              obtain ⟨a0, a1, a2, a3, a4, a5, a6, a7, hA⟩ := len8 (encZ_len T16 (st.take 8))
              rw [hA] at HE1
              unfold arr8 at HE1
              have HA := Lib.hid hA
              clear hs1 hs2 hA
              refine HE1.out.mono ?_
              rintro e w10 ⟨rfl, hb10⟩
              have HB10 := Lib.hid (HB9.out.thru hb10)
              have HO10 := Lib.hid (HO9.out.below hb10 (Nat.le_refl _))
              have HK10 := Lib.hid (HK9.out.below hb10)
              obtain ⟨N9, hN9⟩ : ∃ N9, N9 = w10.heap.size := ⟨_, rfl⟩
              have hpN : pb < N9 := by rw [hN9]; have := hb10.size; omega
              have hSN : S < N9 := by rw [hN9]; exact HK10.out.lt
              obtain ⟨w11, hw11⟩ : ∃ w11, w11 = w10.alloc (.cells (cellsU [a0, a1, a2, a3, a4, a5, a6, a7]) 80) := ⟨_, rfl⟩
              have HB11 : Hid (Below w8.heap.size w8 w11) := Lib.hid (by rw [hw11]; exact HB10.out.alloc HB10.out.size _)
              have HO11 : Hid (Own w11 w8.heap.size 5 1 encU (.slice (some ⟨pb, 0, none⟩) T16.length pcap) T16) := Lib.hid (by rw [hw11]; exact HO10.out.al _)
              have HK11 : Hid (BlkT w11 S 5 st) := Lib.hid (by rw [hw11]; exact HK10.out.other (Below.heap_alloc _ _ _ HK10.out.lt))
              have HN11 : Hid (BlkT w11 N9 80 [a0, a1, a2, a3, a4, a5, a6, a7]) := Lib.hid (by rw [hw11, hN9]; exact BlkT.new w10 _ _)
              have HW11 : Hid (w11 = w10.alloc (.cells #[.int .u8 a0.toNat, .int .u8 a1.toNat, .int .u8 a2.toNat, .int .u8 a3.toNat, .int .u8 a4.toNat, .int .u8 a5.toNat, .int .u8 a6.toNat, .int .u8 a7.toNat] 80)) := Lib.hid hw11
              have HN9 := Lib.hid hN9
              clear hb10 hw11 hN9 HE1 HO9 HB9 HK9 HB10 HO10 HK10
              go_upto_region 17 with (fail)
              rw [← HW11.out, ← HN9.out]
              have HX1 := Lib.hid (fun (W : World) (hb : Below w11.heap.size w11 W) => xor_any W N9 0 8 S 0 16 [a0, a1, a2, a3, a4, a5, a6, a7] (st.take 8) (HN11.out.below hb).bytes rfl ((HK11.out.below hb).bytes.take 8) HS1.out)
              obtain ⟨b0, b1, b2, b3, b4, b5, b6, b7, hBq⟩ := len8 (xorB_len (a := [a0, a1, a2, a3, a4, a5, a6, a7]) rfl HS1.out)
              rw [hBq] at HX1
              unfold arr8 at HX1
              have HBQ := Lib.hid hBq
              have HQ : Below w11.heap.size w11 w11.drew := (Below.refl _ w11).drew
              clear hBq
              go_cut [] (fun wc => Aside (CutX w8.heap.size w8 wc S pb pcap N9 80 st T16 [b0, b1, b2, b3, b4, b5, b6, b7] 5))
              case first =>
                go_region_held3 (fun _ => True) (first | exact True.intro | fail)
                  (first | (go_at_call 72; (with_reducible refine (HX1.out _ HQ).mono ?_); rintro e w12 ⟨rfl, hb⟩; have HB12 := Lib.hid (HQ.thru hb); obtain ⟨⟨d0, d1, d2, d3, d4, d5, d6, d7⟩, hf⟩ := box8_facts (HN11.out.below HB12.out); have f0 := hf 0; have f1 := hf 1; have f2 := hf 2; have f3 := hf 3; have f4 := hf 4; have f5 := hf 5; have f6 := hf 6; have f7 := hf 7; clear hb hf) | fail)
                go_wp2
                go_meet
                have ho := put8_onl w12 N9 b0 b1 b2 b3 b4 b5 b6 b7
                have hs9 : w8.heap.size ≤ N9 := by have := HB11.out.size; have := HN9.out; omega
                have hb8 : Below w8.heap.size w8 w12 := HB11.out.thru HB12.out
                exact ⟨hb8.trans (ho.toBelow hb8.size hs9), (HK11.out.below HB12.out).onl ho (by omega), (HO11.out.below HB12.out (Nat.le_refl _)).onl ho (by omega), put8_blk (HN11.out.below HB12.out) _ _ _ _ _ _ _ _⟩
              obtain ⟨w13, rfl⟩ : ∃ w13 : World, w13 = wc := ⟨_, rfl⟩
              obtain ⟨hb13, hk13, ho13, hn13⟩ := hcut.out
              have HB13 := Lib.hid hb13
              have HK13 := Lib.hid hk13
              have HO13 := Lib.hid ho13
              have HN13 := Lib.hid hn13
              have hTl2 := HTLn.out
              clear hcut hb13 hk13 ho13 hn13 HX1 HQ
              go_upto_block 6 with (fail)
              go_cut [] (fun wc => Aside (CutX w8.heap.size w8 wc S pb pcap N9 80 st (T16.map (fun x => ~~~ x)) [b0, b1, b2, b3, b4, b5, b6, b7] 5))
              case first =>
                go_wp2_with fail
                go_loopg [65] 16 (fun gg s65 wr => ∃ i : Nat, i ≤ 16 ∧ 16 - i ≤ gg ∧ s65 = .int .i64 i ∧ Aside (Onl pb w13 wr) ∧ Aside (Own wr w8.heap.size 5 1 encU (.slice (some ⟨pb, 0, none⟩) T16.length pcap) (notX T16 i)))
                case atStart => exact ⟨0, by omega, by omega, rfl, (show Aside _ from Onl.refl _ _), (show Aside _ from HO13.out)⟩
                case round =>
                  obtain ⟨wp, rfl⟩ : ∃ wp : World, wp = wr := ⟨_, rfl⟩
                  obtain ⟨i, hi, hgi, rfl, ON, OP⟩ := hrel
                  by_cases hil : i < 16
                  · have hiz : (i : Int) < 16 := by omega
                    obtain ⟨x, hx⟩ : ∃ x, T16[i]? = some x := ⟨T16[i]'(by omega), by simp⟩
                    have hu := OP.out.bytes i x (notX_at hx)
                    rw [Nat.zero_add] at hu
                    have hf : wp.frozen? ⟨pb, i, none⟩ = false := OP.out.frz (notX_at hx) i
                    obtain ⟨X, hX⟩ : ∃ X, X = x.toNat := ⟨_, rfl⟩
                    have hx256 : X < 256 := by rw [hX]; exact x.toNat_lt
                    have hxor := xor255 hx256
                    have hxn : (~~~ x).toNat = 255 - X := by rw [hX]; exact not_toNat x
                    obtain ⟨Y, hY⟩ : ∃ Y, Y = 255 - X := ⟨_, rfl⟩
                    rw [← hY] at hxor hxn
                    have HST := Lib.hid (notX_store OP.out hx hxn)
                    rw [← hX] at hu
                    clear hxn
                    clear hX hx OP hY hx256
                    go_wp2
                    go_roundg (16 - (i + 1))
                    case measure => omega
                    case rel => exact ⟨i + 1, by omega, by omega, by go_num, (show Aside _ from ON.out.trans (Onl.set pb wp i _)), (show Aside _ from HST.out)⟩
                  · obtain rfl : i = 16 := by omega
                    rw [notX_all hTl2] at OP
                    have hpS : S ≠ pb := by omega
                    have hpN9 : N9 ≠ pb := by omega
                    have hb := HB13.out.trans (ON.out.toBelow HB13.out.size hp1)
                    have HFIN : Hid (CutX w8.heap.size w8 wp S pb pcap N9 80 st (T16.map (fun x => ~~~ x)) [b0, b1, b2, b3, b4, b5, b6, b7] 5) := Lib.hid ⟨hb, HK13.out.onl ON.out hpS, (by rw [List.length_map]; exact OP.out), HN13.out.onl ON.out hpN9⟩
                    clear hb hpS hpN9 OP ON
                    go_wp2
                    go_meet
                    exact HFIN.out
              obtain ⟨w14, rfl⟩ : ∃ w14 : World, w14 = wc := ⟨_, rfl⟩
              obtain ⟨hb14, hk14, ho14, hn14⟩ := hcut.out
              have HB14 := Lib.hid hb14
              have HK14 := Lib.hid hk14
              have HO14 := Lib.hid ho14
              have HN14 := Lib.hid hn14
              clear hcut hb14 hk14 ho14 hn14
              have HE2 := Lib.hid (encrypt_any w14 pb 0 pcap S 8 8 (T16.map (fun x => ~~~ x)) (st.drop 8) HO14.out.bytes (by rw [List.length_map]; exact HTLn.out) (by have := HTLn.out; omega) (by have := HK14.out.bytes.drop 8; rw [Nat.zero_add] at this; exact this) HS2.out (Nat.le_refl _))
              obtain ⟨c0, c1, c2, c3, c4, c5, c6, c7, hCq⟩ := len8 (encZ_len (T16.map (fun x => ~~~ x)) (st.drop 8))
              rw [hCq] at HE2
              unfold arr8 at HE2
              have HCQ := Lib.hid hCq
              clear hCq
              go_wp2_with fail
              refine HE2.out.mono ?_
              rintro e w15 ⟨rfl, hb15⟩
              have HB15 := Lib.hid (HB14.out.thru hb15)
              have HK15 := Lib.hid (HK14.out.below hb15)
              have HN15 := Lib.hid (HN14.out.below hb15)
              obtain ⟨N11, hN11⟩ : ∃ N11, N11 = w15.heap.size := ⟨_, rfl⟩
              have hSN2 : S < N11 := by rw [hN11]; exact HK15.out.lt
              have hNN : N9 < N11 := by rw [hN11]; exact HN15.out.lt
              obtain ⟨w16, hw16⟩ : ∃ w16, w16 = w15.alloc (.cells (cellsU [c0, c1, c2, c3, c4, c5, c6, c7]) 80) := ⟨_, rfl⟩
              have HB16 : Hid (Below w8.heap.size w8 w16) := Lib.hid (by rw [hw16]; exact HB15.out.alloc HB15.out.size _)
              have HK16 : Hid (BlkT w16 S 5 st) := Lib.hid (by rw [hw16]; exact HK15.out.other (Below.heap_alloc _ _ _ HK15.out.lt))
              have HN16 : Hid (BlkT w16 N9 80 [b0, b1, b2, b3, b4, b5, b6, b7]) := Lib.hid (by rw [hw16]; exact HN15.out.other (Below.heap_alloc _ _ _ HN15.out.lt))
              have HM16 : Hid (BlkT w16 N11 80 [c0, c1, c2, c3, c4, c5, c6, c7]) := Lib.hid (by rw [hw16, hN11]; exact BlkT.new w15 _ _)
              have HW16 : Hid (w16 = w15.alloc (.cells #[.int .u8 c0.toNat, .int .u8 c1.toNat, .int .u8 c2.toNat, .int .u8 c3.toNat, .int .u8 c4.toNat, .int .u8 c5.toNat, .int .u8 c6.toNat, .int .u8 c7.toNat] 80)) := Lib.hid hw16
              have HN11 := Lib.hid hN11
              clear hb15 hw16 hN11 HE2 HB14 HK14 HO14 HN14 HB15 HK15 HN15
              go_upto_region 24 with (fail)
              rw [← HW16.out, ← HN11.out]
              have HX2 := Lib.hid (fun (W : World) (hb : Below w16.heap.size w16 W) => xor_any W N11 0 8 S 8 8 [c0, c1, c2, c3, c4, c5, c6, c7] (st.drop 8) (HM16.out.below hb).bytes rfl (by have := (HK16.out.below hb).bytes.drop 8; rw [Nat.zero_add] at this; exact this) HS2.out)
              obtain ⟨e0, e1, e2, e3, e4, e5, e6, e7, hDq⟩ := len8 (xorB_len (a := [c0, c1, c2, c3, c4, c5, c6, c7]) rfl HS2.out)
              rw [hDq] at HX2
              unfold arr8 at HX2
              have HDQ := Lib.hid hDq
              have HQ : Below w16.heap.size w16 w16.drew := (Below.refl _ w16).drew
              clear hDq
              go_cut [] (fun wc => Aside (CutY w8.heap.size w8 wc S N9 N11 80 st [b0, b1, b2, b3, b4, b5, b6, b7] [e0, e1, e2, e3, e4, e5, e6, e7] 5))
              case first =>
                go_region_held3 (fun _ => True) (first | exact True.intro | fail)
                  (first | (go_at_call 72; (with_reducible refine (HX2.out _ HQ).mono ?_); rintro e w12 ⟨rfl, hb⟩; have HB12 := Lib.hid (HQ.thru hb); obtain ⟨⟨d0, d1, d2, d3, d4, d5, d6, d7⟩, hf⟩ := box8_facts (HM16.out.below HB12.out); have f0 := hf 0; have f1 := hf 1; have f2 := hf 2; have f3 := hf 3; have f4 := hf 4; have f5 := hf 5; have f6 := hf 6; have f7 := hf 7; clear hb hf) | fail)
                go_wp2
                go_meet
                have ho := put8_onl w12 N11 e0 e1 e2 e3 e4 e5 e6 e7
                have hs9 : w8.heap.size ≤ N11 := by have := HB16.out.size; have h1 := HN9.out; have := HB11.out.size; omega
                have hb8 : Below w8.heap.size w8 w12 := HB16.out.thru HB12.out
                exact ⟨hb8.trans (ho.toBelow hb8.size hs9), (HK16.out.below HB12.out).onl ho (by omega), (HN16.out.below HB12.out).onl ho (by omega), put8_blk (HM16.out.below HB12.out) _ _ _ _ _ _ _ _⟩
              obtain ⟨w17, rfl⟩ : ∃ w17 : World, w17 = wc := ⟨_, rfl⟩
              obtain ⟨hb17, hk17, hn17, hm17⟩ := hcut.out
              have hc1 := copyU w17 (o := 0) (n := 8) (dLen := 16) (dCap := 16) (sCap := 8) hk17 hn17 rfl (by rw [hst]; decide) (by decide)
              obtain ⟨w18, hw18⟩ : ∃ w18, w18 = w17.setRow S (cellsU (st.take 0 ++ [b0, b1, b2, b3, b4, b5, b6, b7] ++ st.drop (0 + 8))) := ⟨_, rfl⟩
              rw [← hw18] at hc1
              have hk18 : BlkT w18 S 5 ([b0, b1, b2, b3, b4, b5, b6, b7] ++ st.drop 8) := by
                have h1 := setRow_heap w17 S (cellsU st) (cellsU (st.take 0 ++ [b0, b1, b2, b3, b4, b5, b6, b7] ++ st.drop (0 + 8))) 5 (0, 0) hk17
                rw [hw18]
                simpa [BlkT] using h1
              have ho18 : Onl S w17 w18 := by rw [hw18]; exact Onl.row S w17 _
              have hm18 : BlkT w18 N11 80 [e0, e1, e2, e3, e4, e5, e6, e7] := hm17.onl ho18 (by omega)
              have hc2 := copyU w18.drew (o := 8) (n := 8) (dLen := 8) (dCap := 8) (sCap := 8) (st := [b0, b1, b2, b3, b4, b5, b6, b7] ++ st.drop 8) hk18 hm18 rfl (by simp [hst]) (by decide)
              obtain ⟨w19, hw19⟩ : ∃ w19, w19 = w18.drew.setRow S (cellsU (([b0, b1, b2, b3, b4, b5, b6, b7] ++ st.drop 8).take 8 ++ [e0, e1, e2, e3, e4, e5, e6, e7] ++ ([b0, b1, b2, b3, b4, b5, b6, b7] ++ st.drop 8).drop (8 + 8))) := ⟨_, rfl⟩
              rw [← hw19] at hc2
              have hk19 : BlkT w19 S 5 (dgStep st T16) := by
                have h1 := setRow_heap w18.drew S (cellsU ([b0, b1, b2, b3, b4, b5, b6, b7] ++ st.drop 8)) (cellsU (([b0, b1, b2, b3, b4, b5, b6, b7] ++ st.drop 8).take 8 ++ [e0, e1, e2, e3, e4, e5, e6, e7] ++ ([b0, b1, b2, b3, b4, b5, b6, b7] ++ st.drop 8).drop (8 + 8))) 5 (0, 0) hk18
                have h2 : dgStep st T16 = [b0, b1, b2, b3, b4, b5, b6, b7] ++ [e0, e1, e2, e3, e4, e5, e6, e7] := by
                  unfold dgStep
                  rw [HA.out, HBQ.out, HCQ.out, HDQ.out]
                rw [h2, hw19]
                have h3 : st.drop 16 = [] := List.drop_eq_nil_of_le (by omega)
                simpa [BlkT, hst, h3] using h1
              have ho19 : Onl S w8 w19 := by
                have h1 : Onl S w8 w17 := Onl.of_below hb17
                have h2 : Onl S w18 w18.drew := Onl.of_below (Below.refl _ w18).drew
                have h3 : Onl S w18.drew w19 := by rw [hw19]; exact Onl.row S _ _
                exact ((h1.trans ho18).trans h2).trans h3
              have HK19 := Lib.hid hk19
              have HO19 := Lib.hid (HONX.out.trans ho19)
              have HB17 := Lib.hid hb17
              have HO18 := Lib.hid ho18
              have HK18 := Lib.hid hk18
              clear hcut hb17 hk17 hn17 hm17 hw18 ho18 hm18 hk18 HX2 HQ hw19 hk19 ho19
              go_wp2
              go_region_law (fail)
              all_goals go_wp2
              all_goals
                have hdl : (tl.drop 16).length = tl.length - 16 := by rw [List.length_drop]
                have HDR2 : Aside (∃ q, (tl.drop 16).length < q ∧ dgRun q (dgStep st T16) (tl.drop 16) = digN l) := (show Aside _ from ⟨q, by rw [hdl]; omega, HDR.out⟩)
                have hsl : (dgStep st T16).length = 16 := by
                  unfold dgStep
                  rw [List.length_append, xorB_len (encZ_len _ _) HS1.out, xorB_len (encZ_len _ _) HS2.out]
                by_cases ht : tcap = 16
                · first
                  | omega
                  | (go_roundg (tl.length - 16)
                     case measure => omega
                     case rel => exact ⟨tof, 0, tl.drop 16, dgStep st T16, (by rw [hdl]), by omega, by omega, by omega, by omega, hsl, HO19.out, HK19.out, (show Aside _ from fun i x hx => by rw [List.drop_eq_nil_of_le (by omega)] at hx; cases hx), HDR2⟩)
                · first
                  | omega
                  | (go_roundg (tl.length - 16)
                     case measure => omega
                     case rel => exact ⟨tof + 16, tcap - 16, tl.drop 16, dgStep st T16, (by rw [hdl]), by omega, by omega, by omega, by omega, hsl, HO19.out, HK19.out, HBT2.out, HDR2⟩)
            · have hl0 : tl.length = 0 := by omega
              obtain rfl : tl = [] := List.length_eq_zero_iff.1 hl0
              have hdr : Hid (st = digN l) := Lib.hid (by
                obtain ⟨q, hq, h⟩ := DR.out
                rw [← h]
                obtain ⟨q, rfl⟩ : ∃ q', q = q' + 1 := ⟨q - 1, by simp at hq; omega⟩
                rfl)
              clear DR BT hnil
              go_wp2
              go_ret
              exact ⟨S, HNW.out, rfl, by rw [← hdr.out]; exact KS.out, HB8.out⟩
    · have hr8 : ((r : Int) != 8) = true := by rw [bne_iff_ne]; omega
      obtain ⟨q, hq, hpad⟩ := PW.out
      obtain ⟨q, rfl⟩ : ∃ q', q = q' + 1 := ⟨q - 1, by omega⟩
      rw [padZ_go (by omega)] at hpad
      have HP := Lib.hid hpad
      have HR := Lib.hid hr
      have hbd : (t.length + 1) * 1 ≤ 140737488355328 := by omega
      clear hpad PW hr
      go_wp2_with (at_builtin; go_loud (refine wpList_push (l := t) rfl _ _ 58 rfl slU rfl rfl (0 : UInt8) rfl rfl rfl OW.out rfl hbd BW.out.size ?_; intro v5 w5 ho5 hb5; have HO5 := Lib.hid ho5; have HB5 := Lib.hid (BW.out.trans hb5); clear ho5 hb5))
      go_roundg ((24 - (t.length + 1) % 16) % 16)
      case measure => have := HR.out; omega
      case rel => exact ⟨t ++ [0], by simp, by simp; omega, by rw [List.length_append, List.length_singleton]; have := HR.out; omega, HB5.out, HO5.out, (show Aside _ from ⟨q, by rw [List.length_append, List.length_singleton]; have := HR.out; omega, HP.out⟩)⟩
end Go.Proofs.YteepbfpcdhdgfaaDoor

/- weight of a cache for a key. -/
namespace Go.Proofs.YteepbfpcdhdgfaaDoor
open Go.RowKit

def wgtN : List UInt8 → Nat → Nat
  | [], n => n
  | x :: r, n => wgtN r (n * 256 + x.toNat)
theorem wgtN_snoc : ∀ (l : List UInt8) (x : UInt8) (n : Nat), wgtN (l ++ [x]) n = wgtN l n * 256 + x.toNat
  | [], _, _ => rfl
  | y :: r, x, n => wgtN_snoc r x (n * 256 + y.toNat)
theorem wgtN_lt : ∀ (l : List UInt8) (n k : Nat), n < 256 ^ k → wgtN l n < 256 ^ (k + l.length)
  | [], n, k, h => h
  | x :: r, n, k, h => by
    have h1 := x.toNat_lt
    have h2 := wgtN_lt r (n * 256 + x.toNat) (k + 1) (by rw [Nat.pow_succ]; omega)
    rw [List.length_cons, show k + (r.length + 1) = k + 1 + r.length by omega]
    exact h2
/-- The bytes of which a weight is made. -/
def wgtB (a k : ByteArray) : ByteArray := a ++ ⟨#[0]⟩ ++ k
def wgtK (a k : ByteArray) : Nat := wgtN ((digN (wgtB a k).data.toList).take 8) 0
theorem dgStep_len {st p : List UInt8} (h : st.length = 16) : (dgStep st p).length = 16 := by
  unfold dgStep
  rw [List.length_append, xorB_len (encZ_len _ _) (by rw [List.length_take]; omega), xorB_len (encZ_len _ _) (by rw [List.length_drop]; omega)]
theorem dgRun_len : ∀ (n : Nat) (st t : List UInt8), st.length = 16 → (dgRun n st t).length = 16
  | 0, _, _, h => h
  | n + 1, st, t, h => by
    show (if t = [] then st else dgRun n (dgStep st (t.take 16)) (t.drop 16)).length = 16
    split
    · exact h
    · exact dgRun_len n _ _ (dgStep_len h)
theorem digN_len (l : List UInt8) : (digN l).length = 16 := dgRun_len _ _ _ rfl

set_option maxRecDepth 100000 in
set_option maxHeartbeats 4000000 in
theorem weight_any (w : World) (a k : ByteArray) (ha : a.size ≤ 40) (hk : k.size ≤ 300) :
    Calls Tryd.prog 40 #[.string a, .string k] w fun e w' => e = .returned (.int .u64 (wgtK a k : Nat)) ∧ Below w.heap.size w w' := by
  have h1 : ¬ 9223372036854775807 < a.size + 1 := by omega
  have h2 : ¬ 9223372036854775807 < a.size + 1 + k.size := by omega
  have hcv := Lib.run_convert_string_bytes (P := Tryd.prog) w 9 58 5 (a ++ { data := #[0] } ++ k) Tryd.underlying9 Tryd.underlying58 Tryd.underlying5
  obtain ⟨X, hX⟩ : ∃ X, X = a ++ ({ data := #[0] } : ByteArray) ++ k := ⟨_, rfl⟩
  rw [← hX] at hcv
  have hxs : X.size ≤ 341 := by
    have hd : ({ data := #[0] } : ByteArray).size = 1 := rfl
    rw [hX]
    simp
    omega
  obtain ⟨w1, hw1⟩ : ∃ w1, w1 = Lib.bytesWorld w 5 X := ⟨_, rfl⟩
  obtain ⟨C, hC⟩ : ∃ C, C = grownCap w X.size 0 5 := ⟨_, rfl⟩
  have HB1 : Hid (Below w.heap.size w w1) := Lib.hid (by rw [hw1]; exact Joins.below_bytesWorld _ w _ X (Nat.le_refl _))
  have hbt : BytesAt w1 w.heap.size 0 X.data.toList := fun i x hx => by
    have hi := (List.getElem?_eq_some_iff.1 hx).1
    have h := Lib.bytesWorld_cell w 5 X i (by rw [Array.length_toList] at hi; exact hi)
    rw [hw1, Nat.zero_add, h, List.getD_eq_getElem?_getD, hx]
    rfl
  have hsl := hbt.sl (n := X.size) (cap := C) (by rw [Array.length_toList]; rfl) (by rw [hC]; exact grownCap_ge _ _ _ _) (by rw [hC]; exact grownCap_le_maxLen _ _ _ _ (by unfold maxLen; omega))
  have HDG := Lib.hid (digest_any w1 X.data.toList _ hsl (by rw [Array.length_toList]; show X.size ≤ 1000; omega))
  rw [← hw1, ← hC, hX] at hcv
  rw [← hX] at hcv
  have hcv2 : (convert 9 58 (.string (a ++ { data := #[0] } ++ k))).run Tryd.prog w = .ok (.slice (some ⟨w.heap.size, 0, none⟩) X.size C) w1 := by rw [← hX]; exact hcv
  clear hcv
  have HV : Hid (wgtK a k = wgtN ((digN X.data.toList).take 8) 0) := Lib.hid (by rw [hX]; rfl)
  have HZ := Lib.hid (digN_len X.data.toList)
  have HX := Lib.hid hX
  unfold DgP at HDG
  generalize digN X.data.toList = z at HDG HV HZ
  clear hX hbt hsl hw1 hC
  go_enter Tryd.func40, Tryd.ntmps40
  go_wp2_with fail
  refine HDG.out.mono ?_
  rintro e w2 ⟨S, hS, rfl, hk2, hb2⟩
  have HB2 := Lib.hid (HB1.out.thru hb2)
  have HK2 := Lib.hid hk2
  clear hS hk2 hb2 hcv2
  go_wp2_with fail
  go_loopg [5, 16] 8 (fun gg s5 s16 wr => ∃ i : Nat, i ≤ 8 ∧ 8 - i ≤ gg ∧ s16 = .int .i64 i ∧ s5 = .int .u64 (wgtN (z.take i) 0 : Nat) ∧ wr = w2)
  case atStart => exact ⟨0, by omega, by omega, rfl, rfl, rfl⟩
  case round =>
    obtain ⟨i, hi, hgi, rfl, rfl, hwr⟩ := hrel
    subst hwr
    by_cases hil : i < 8
    · have hiz : (i : Int) < 8 := by omega
      have hzl := HZ.out
      obtain ⟨x, hx⟩ : ∃ x, z[i]? = some x := ⟨z[i]'(by omega), by simp⟩
      have hc := HK2.out.bytes i x hx
      rw [Nat.zero_add] at hc
      have hlt := wgtN_lt (z.take i) 0 0 (by decide)
      rw [List.length_take, Nat.min_eq_left (by omega), Nat.zero_add] at hlt
      have hpw : 256 ^ i ≤ 256 ^ 7 := Nat.pow_le_pow_right (by decide) (by omega)
      have h256 : (256 : Nat) ^ 7 = 72057594037927936 := by decide
      have HNX : Hid (wgtN (z.take (i + 1)) 0 = wgtN (z.take i) 0 * 256 + x.toNat) := Lib.hid (by rw [take_next hx, wgtN_snoc])
      obtain ⟨m, hm⟩ : ∃ m, m = wgtN (z.take i) 0 := ⟨_, rfl⟩
      obtain ⟨y, hy⟩ : ∃ y, y = x.toNat := ⟨_, rfl⟩
      have hy8 : y < 256 := by rw [hy]; exact x.toNat_lt
      rw [← hy] at hc HNX
      rw [← hm] at hlt HNX ⊢
      have hm56 : m < 72057594037927936 := by omega
      obtain ⟨p, hp⟩ : ∃ p, p = m * 256 := ⟨_, rfl⟩
      obtain ⟨r, hr⟩ : ∃ r, r = m * 256 + y := ⟨_, rfl⟩
      have e1 : (m : Int) * 256 % 18446744073709551616 = (p : Int) := by omega
      have e1' : (m : Int) * 256 = (p : Int) := by omega
      have e2 : bits .or .u64 (p : Int) (y : Int) = (r : Int) := by
        rw [bits_or_u64_nat p y (by omega) (by omega), or_addN (k := 8) (by omega) (by omega), hr, hp]
      have HR := Lib.hid hr
      clear hlt hpw h256 hx hm hy hp hr hzl
      go_wp2
      go_roundg (8 - (i + 1))
      case measure => omega
      case rel => exact ⟨i + 1, by omega, by omega, by go_num, by rw [HNX.out, ← HR.out], rfl⟩
    · obtain rfl : i = 8 := by omega
      go_wp2
      go_ret
      exact ⟨ret_u (by rw [HV.out]; rfl), HB2.out⟩
end Go.Proofs.YteepbfpcdhdgfaaDoor

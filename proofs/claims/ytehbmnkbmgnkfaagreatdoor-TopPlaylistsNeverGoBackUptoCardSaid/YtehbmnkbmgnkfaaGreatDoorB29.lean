/- End and Add of playlists. -/
import Derived.Test.YtehbmnkbmgnkfaaGreatDoorB28
import Derived.Deep.RegionHeld3
import Derived.Test.YtehbmnkbmgnkfaaGreatDoorB18
import Derived.Test.YtehbmnkbmgnkfaaGreatDoorB04
import Derived.Test.YtehbmnkbmgnkfaaGreatDoorB02
namespace Go.Proofs.YtehbmnkbmgnkfaaGreatDoor
open Go.RowKit

section
variable {α β : Type} {W W2 : World} {base base2 k k2 b : Nat} {E E2 : TypeId} {enc : α → List Value} {enc2 : β → List Value} {v v2 v3 : Value} {l : List α} {m : List β}
theorem own_offT (h : Own W base E k enc v l) {c : Array Value} {fr : Nat × Nat} (hb : W.heap[b]? = some (Obj.cells c E2 fr)) (hne : E ≠ E2) : offB b v := by
  rcases h.2 with ⟨rfl, _⟩ | ⟨g, cap, cur, rfl, _, hh, _⟩
  · exact offB.nil b
  · refine offB.mk fun e => ?_
    subst e
    rw [hh] at hb
    cases hb
    exact hne rfl
theorem own_offLo (h : Own W base E k enc v l) (hb : b < base) : offB b v := by
  rcases h.2 with ⟨rfl, _⟩ | ⟨g, cap, cur, rfl, hg, _⟩
  · exact offB.nil b
  · exact offB.mk (by omega)
theorem own_offHi (h : Own W base E k enc v l) (hb : W.heap.size ≤ b) : offB b v := by
  have hlt := World.ownsRow.lt h
  rcases h.2 with ⟨rfl, _⟩ | ⟨g, cap, cur, rfl, hg, _⟩
  · exact offB.nil b
  · exact offB.mk (by have := (hlt g rfl).2; omega)
theorem Own.kb (h : Own W base E k enc v l) (h2 : Own W base2 E2 k2 enc2 v2 m) (hne : E ≠ E2) (hk : KeepB W W2 v2 v3) : Own W2 base E k enc v l := by
  have hlt := World.ownsRow.lt h
  obtain ⟨q1, q2⟩ := h
  refine ⟨q1, ?_⟩
  rcases q2 with q2 | ⟨g, cap, cur, e1, e2, e3, r⟩
  · exact Or.inl q2
  · subst e1
    exact Or.inr ⟨g, cap, cur, rfl, e2, (hk g (hlt g rfl).2 (own_offT h2 e3 (fun e => hne e.symm))).1.trans e3, r⟩
end
theorem blk_kb {α : Type} {W W2 : World} {base k b : Nat} {E E2 : TypeId} {enc : α → List Value} {v v2 : Value} {l : List α} {c : Array Value} {fr : Nat × Nat} (hb : W.heap[b]? = some (Obj.cells c E2 fr)) (h : Own W base E k enc v l) (hne : E ≠ E2) (hk : KeepB W W2 v v2) : W2.heap[b]? = some (Obj.cells c E2 fr) :=
  (hk b (Array.getElem?_eq_some_iff.1 hb).1 (own_offT h hb hne)).1.trans hb
/-- append as a step of a region that draws its order; what it keeps is told. -/
theorem step_pushKe {α : Type} {P : Program} {ops : Array Oper} {o : Oper} {a : Act} {Q : Exit → Act → World → Prop} {K : Act → World → Prop} {X : Prop} (hgd : o.guard = none) (s x : Operand) (t : TypeId)
    (ho : o.op = .call { callee := .builtin .append, args := #[s, x], argTypes := #[t, t] })
    {E : TypeId} {k bytes : Nat} (hT : SlT P t E k bytes) {enc : α → List Value} {base : Nat} {v : Value} {l : List α} {W : World} {C : List Value} (hs : a.eval s = v)
    {A : Nat} (hx : a.eval x = .slice (some ⟨A, 0, none⟩) 1 1)
    (y : α) (hC : enc y = C) (hk : C.length = k) (h1 : C.all Value.oneCell' = true)
    (hown : Own W base E k enc v l) (hA : A = W.heap.size) (hn : (l.length + 1) * bytes ≤ 140737488355328) (hbase : base ≤ W.heap.size)
    (h : ∀ v' w', Own w' base E k enc v' (l ++ [y]) → Below base W w' → KeepT E W w' → K (a.put o.dst v') w') :
    if Region.wanted o (yielded ops a.tmps) = true then Oper.wp P o a (W.alloc (.cells C.toArray E)) K Q else X := by
  have hw : Region.wanted o (yielded ops a.tmps) = true := by simp [Region.wanted, hgd]
  rw [if_pos hw]
  obtain ⟨i, z, ht, hi, hz, hsize, hby, hzs, hsz, hb0⟩ := hT
  subst hA
  have hlen : l.length + 1 ≤ 140737488355328 := Nat.le_trans (Nat.le_mul_of_pos_right _ hb0) hn
  refine wp_append_own _ s x t ho base E i z k bytes ht hi hz hsize hby hzs hsz v l.length (l.flatMap enc) hs (World.ownsRow.alloc hown _) ⟨W.heap.size, 0, none⟩ 1 1 C hx (by omega)
    (cell_new_list W C E (0, 0)) (fun u hu => List.all_eq_true.1 h1 u hu) (by unfold maxLen; omega) hn (by show base ≤ (W.alloc _).heap.size; simp; omega) (fun v' w' h2 h3 _ => ?_)
  have h3' : (W.alloc (.cells C.toArray E)).grownBy w' v.ownBlock := ⟨h3.os, h3.tape, h3.output, h3.size, h3.block⟩
  refine h v' w' ?_ ?_ ?_
  · unfold Own
    rw [List.flatMap_append, List.length_append, List.flatMap_singleton, hC]
    exact h2
  · exact ((Below.refl _ _).alloc hbase _).grown h3' (by simp; omega) (fun k hk => (World.ownsRow.lt hown k hk).1)
  · intro b c T fr hb hT
    have hlt : b < W.heap.size := (Array.getElem?_eq_some_iff.1 hb).1
    have hb' : (W.alloc (.cells C.toArray E)).heap[b]? = some (.cells c T fr) := by rw [Below.heap_alloc W _ b hlt]; exact hb
    rw [h3'.block b (by simp; omega) ?_]
    · exact hb'
    · intro e
      obtain ⟨_, h4⟩ := hown
      rcases h4 with ⟨rfl, _⟩ | ⟨g, cap, cur, rfl, _, hh, _⟩
      · simp [Value.ownBlock] at e
      · simp only [Value.ownBlock, Option.some.injEq] at e
        subst e
        rw [hh] at hb
        simp only [Option.some.injEq, Obj.cells.injEq] at hb
        exact hT hb.2.1.symm
theorem keep_setL {w : World} {g : Nat} {l : Lst} {v : Value} (h : BkLs w g l v) (i : Nat) (u : Value) : KeepT 24 w (w.setCell ⟨g, i, none⟩ u) := fun b c T fr hb hT => by
  have hne : b ≠ g := fun e => by
    subst e
    unfold BkLs at h
    rw [h] at hb
    cases hb
    exact hT rfl
  exact (Below.heap_setCell w ⟨g, i, none⟩ u b hne).trans hb
theorem BkLs.set {w : World} {g : Nat} {x : Lst} {v : Value} (h : BkLs w g x v) (i : Nat) (u : Value) {y : Lst} {z : Value} (e : (#[Value.int .i64 x.ta, .int .i64 x.fi, .int .i64 x.br, v, .bool x.ed] : Array Value).setIfInBounds i u = #[.int .i64 y.ta, .int .i64 y.fi, .int .i64 y.br, z, .bool y.ed]) : BkLs (w.setCell ⟨g, i, none⟩ u) g y z := by
  unfold BkLs
  rw [heap_setCell_same w g i _ _ u h, e]
theorem BkLs.other {w : World} {g k : Nat} {x : Lst} {v : Value} (h : BkLs w g x v) (hne : g ≠ k) (i : Nat) (u : Value) : BkLs (w.setCell ⟨k, i, none⟩ u) g x v := (Below.heap_setCell w ⟨k, i, none⟩ u g hne).trans h
theorem EnO.keepT {w w' : World} {base : Nat} {v : Value} {l : List Ent} (h : EnO w base v l) (hk : KeepT 24 w w') : EnO w' base v l := by
  obtain ⟨q, h1, h2, h3⟩ := h
  exact ⟨q, h1.keepTe hk (by decide), h2, fun p hp => (h3 p hp).keepTe hk (by decide)⟩
theorem EnO.setL {w : World} {base : Nat} {v : Value} {l : List Ent} (h : EnO w base v l) {g : Nat} {y : Lst} {z : Value} (hb : BkLs w g y z) (i : Nat) (u : Value) : EnO (w.setCell ⟨g, i, none⟩ u) base v l := h.keepT (keep_setL hb i u)
theorem EnO.setL5 {w : World} {base : Nat} {v : Value} {l : List Ent} (h : EnO w base v l) {g : Nat} {y : Lst} {z : Value} (hb : BkLs w g y z) (a b c d e : Value) : EnO (Go.Proofs.YtehbmnkbmgnkfaaGreatDoor.set5 w g a b c d e) base v l := by
  have k1 : ∀ (W : World) (i : Nat) (u : Value), (∃ cur, W.heap[g]? = some (.cells cur 24 (0, 0))) → EnO W base v l → EnO (W.setCell ⟨g, i, none⟩ u) base v l ∧ ∃ cur, (W.setCell ⟨g, i, none⟩ u).heap[g]? = some (.cells cur 24 (0, 0)) := fun W i u hc ho => by
    obtain ⟨cur, hc⟩ := hc
    refine ⟨ho.keepT fun b' c' T fr hbb hT => ?_, _, heap_setCell_same W g i _ _ u hc⟩
    have hne : b' ≠ g := fun e' => by
      subst e'
      rw [hc] at hbb
      cases hbb
      exact hT rfl
    exact (Below.heap_setCell W ⟨g, i, none⟩ u b' hne).trans hbb
  obtain ⟨h1, c1⟩ := k1 w 0 a ⟨_, hb⟩ h
  obtain ⟨h2, c2⟩ := k1 _ 1 b c1 h1
  obtain ⟨h3, c3⟩ := k1 _ 2 c c2 h2
  obtain ⟨h4, c4⟩ := k1 _ 3 d c3 h3
  exact (k1 _ 4 e c4 h4).1
/-- Three boxes: a list, an entry, a result. -/
abbrev litZ : Obj := .cells #[.int .i64 0, .int .i64 0, .int .i64 0, .slice none 0 0, .bool false] 24
abbrev aggZ : Value := .agg #[.int .i64 0, .int .i64 0, .int .i64 0, .slice none 0 0, .bool false]

/-- Entries in blocks from B on: whatever changes elsewhere. -/
def EnF (B : Nat) (w : World) (v : Value) (l : List Ent) : Prop := ∀ W : World, (∀ b, B ≤ b → b < w.heap.size → W.heap[b]? = w.heap[b]?) → EnS W v l
theorem EnF.ens {B : Nat} {w : World} {v : Value} {l : List Ent} (h : EnF B w v l) : EnS w v l := h w fun _ _ _ => rfl
theorem EnF.nil {B : Nat} {w : World} : EnF B w (.slice none 0 0) [] := fun _ _ => EnS.nil
theorem EnF.to {B : Nat} {w w' : World} {v : Value} {l : List Ent} (h : EnF B w v l) (hs : w.heap.size ≤ w'.heap.size) (hb : ∀ b, B ≤ b → b < w.heap.size → w'.heap[b]? = w.heap[b]?) : EnF B w' v l := fun W hW =>
  h W fun b h1 h2 => (hW b h1 (Nat.lt_of_lt_of_le h2 hs)).trans (hb b h1 h2)
theorem Own.at_ {α : Type} {w W : World} {base : Nat} {E : TypeId} {k : Nat} {enc : α → List Value} {v : Value} {l : List α} (h : Own w base E k enc v l) (hW : ∀ b, base ≤ b → b < w.heap.size → W.heap[b]? = w.heap[b]?) : Own W base E k enc v l := by
  have hlt := World.ownsRow.lt h
  obtain ⟨h1, h2⟩ := h
  refine ⟨h1, ?_⟩
  rcases h2 with h2 | ⟨g, cap, cur, rfl, hg, hh, r⟩
  · exact Or.inl h2
  · exact Or.inr ⟨g, cap, cur, rfl, hg, (hW g hg (hlt g rfl).2).trans hh, r⟩
theorem EnO.at_ {w W : World} {base : Nat} {v : Value} {l : List Ent} (h : EnO w base v l) (hW : ∀ b, base ≤ b → b < w.heap.size → W.heap[b]? = w.heap[b]?) : EnO W base v l := by
  obtain ⟨q, h1, h2, h3⟩ := h
  exact ⟨q, h1.at_ hW, h2, fun p hp => (h3 p hp).at_ hW⟩
theorem EnO.enf {w : World} {base B : Nat} {v : Value} {l : List Ent} (h : EnO w base v l) (hB : B ≤ base) : EnF B w v l := fun _ hW => (h.at_ fun b h1 h2 => hW b (Nat.le_trans hB h1) h2).ens

/-- What changes leave. -/
def StpP (w : World) (l : Lst) : Ending → World → Prop := fun e w' => ∃ l' v' f, e = .returned (.tuple #[agLs l' v', .int .i64 f]) ∧ EnF w.heap.size w' v' l'.en ∧ (f = 0 → Fol l l' ∧ WfLs l') ∧ Below w.heap.size w w'
theorem StpP.bad {w w' : World} {l : Lst} {f : Int} (hf : f ≠ 0) (hb : Below w.heap.size w w') : StpP w l (.returned (.tuple #[aggZ, .int .i64 f])) w' := ⟨default, .slice none 0 0, f, rfl, EnF.nil, fun h => absurd h hf, hb⟩

set_option maxRecDepth 100000 in
set_option maxHeartbeats 4000000 in
theorem endL_any (w : World) (l : Lst) (v : Value) (hl : EnS w v l.en) (hw : WfLs l) :
    Calls Tryz.prog 15 #[agLs l v] w (StpP w l) := by
  obtain ⟨w2, hw2⟩ : ∃ w2, w2 = (w.alloc (litL l v)).alloc litZ := ⟨_, rfl⟩
  have hs2 : w2.heap.size = w.heap.size + 2 := by rw [hw2]; simp
  have HB2 : Hid (Below w.heap.size w w2) := Lib.hid (by rw [hw2]; exact ((Below.refl _ w).alloc (Nat.le_refl _) _).alloc (by simp) _)
  have hk0 : BkLs w2 w.heap.size l v := by
    have h1 := BkLs.new w l v
    rw [hw2]
    exact h1.below ((Below.refl _ _).alloc (Nat.le_refl _) _) h1.lt
  have hk1 : BkLs w2 (w.heap.size + 1) default (.slice none 0 0) := by
    have e : w.heap.size + 1 = (w.alloc (litL l v)).heap.size := by simp
    rw [hw2, e]
    exact BkLs.new _ default _
  have HCK := Lib.hid (chkLs_any w2 l v (hl.below HB2.out) hw)
  have HCP : Hid (∀ W, Below w2.heap.size w2 W → Calls Tryz.prog 32 #[agLs l v] W (CpyP W l)) := Lib.hid (fun W h => copyList_any W l v ((hl.below HB2.out).below h) hw)
  have HK0 := Lib.hid hk0
  have HK1 := Lib.hid hk1
  have HW2 := Lib.hid hw2
  have HS2 := Lib.hid hs2
  have HWF : Hid (WfLs { l with ed := true }) := Lib.hid ⟨hw.ta, hw.fi, hw.br, hw.ln, hw.en⟩
  obtain ⟨ao, cap, rfl, -, -, -, -⟩ := hl.op
  obtain ⟨b0, b1, b2, b3, b4⟩ := hk0.cells
  obtain ⟨F, hF⟩ : ∃ F, F = chkL l := ⟨_, rfl⟩
  rw [← hF] at HCK
  clear hw2 hk0 hk1 hs2 hl hw hF
  go_enter Tryz.func15, Tryz.ntmps15
  go_upto_region 1 with (fail)
  rw [← HW2.out]
  clear HW2
  go_wp2_with fail
  refine HCK.out.mono ?_
  rintro e w3 ⟨rfl, hb3⟩
  have HB3 := Lib.hid hb3
  have HC2 := Lib.hid (HCP.out w3 hb3)
  have hq1 := HS2.out
  have hk1 := HK1.out.below hb3 (by omega)
  have hk0 := HK0.out.below hb3 (by omega)
  clear hb3 b0 b1 b2 b3 b4 hq1
  obtain ⟨b0, b1, b2, b3, b4⟩ := hk0.cells
  by_cases hF : F = 0
  rotate_left
  next =>
    obtain ⟨z0, z1, z2, z3, z4⟩ := hk1.cells
    have g0 := hk1.frz 0
    have g1 := hk1.frz 1
    have g2 := hk1.frz 2
    have g3 := hk1.frz 3
    have g4 := hk1.frz 4
    have HF := Lib.hid hF
    go_upto_region 3 with (fail)
    repeat (first | go_values | go_skip | go_guarded | go_step | go_upon)
    refine bodyPost_ret (v := .tuple #[aggZ, .int .i64 F]) (by simp [results, Tryz.results15, go_sem, z0, z1, z2, z3, z4]) rfl (StpP.bad HF.out ?_)
    exact below_set5 (HB2.out.thru HB3.out) (Nat.le_succ _) _ _ _ _ _
  subst hF
  go_wp2_with fail
  unfold CpyP at HC2
  refine HC2.out.mono ?_
  rintro e w4 ⟨v4, rfl, ho4, hb4⟩
  have HO4 := Lib.hid ho4
  obtain ⟨oa, on, oc, rfl⟩ := ho4.slv
  have HB4 := Lib.hid (HB3.out.thru hb4)
  have hsz3 := HB3.out.size
  have hsz4 := hb4.size
  have hq1 := HS2.out
  have hk1 := hk1.below hb4 (by omega)
  have hne : w.heap.size + 1 < w4.heap.size := by omega
  have HK1 := Lib.hid (hk1.below ((Below.refl _ w4).alloc (Nat.le_refl _) (litL l (.slice oa on oc))) hne)
  obtain ⟨G, hG⟩ : ∃ G, G = w4.heap.size := ⟨_, rfl⟩
  have hk8 := BkLs.new w4 l (.slice oa on oc)
  obtain ⟨w5, hw5⟩ : ∃ w5, w5 = w4.alloc (litL l (.slice oa on oc)) := ⟨_, rfl⟩
  have HO5 : Hid (EnO w5 w3.heap.size (.slice oa on oc) l.en) := Lib.hid (by rw [hw5]; exact HO4.out.below ((Below.refl _ _).alloc (Nat.le_refl _) _))
  have HB5 : Hid (Below w.heap.size w w5) := Lib.hid (by rw [hw5]; exact (HB2.out.thru HB4.out).alloc (HB2.out.thru HB4.out).size _)
  have hbG : w.heap.size ≤ G := by omega
  have hneG : w.heap.size + 1 ≠ G := by omega
  rw [← hw5] at HK1
  rw [← hG, ← hw5] at hk8
  have HNEG := Lib.hid hneG
  have HBG := Lib.hid hbG
  have HK8 := Lib.hid hk8
  have HW5 := Lib.hid hw5
  have HG := Lib.hid hG
  clear ho4 hb4 hsz3 hsz4 hq1 hk0 hk1 hne hk8 hw5 hG hbG hneG b0 b1 b2 b3 b4
  go_upto_region 5 with (fail)
  rw [← HW5.out, ← HG.out]
  obtain ⟨d0, d1, d2, d3, d4⟩ := HK8.out.cells
  have f4 := HK8.out.frz 4
  obtain ⟨w6, hw6⟩ : ∃ w6, w6 = w5.setCell ⟨G, 4, none⟩ (.bool true) := ⟨_, rfl⟩
  have HK9 : Hid (BkLs w6 G { l with ed := true } (.slice oa on oc)) := Lib.hid (by rw [hw6]; exact HK8.out.set 4 _ rfl)
  have HO6 : Hid (EnO w6 w3.heap.size (.slice oa on oc) l.en) := Lib.hid (by rw [hw6]; exact HO5.out.setL HK8.out 4 _)
  have HB6 : Hid (Below w.heap.size w w6) := Lib.hid (by rw [hw6]; exact HB5.out.setCell (p := ⟨G, 4, none⟩) HBG.out _)
  have HK6 : Hid (BkLs w6 (w.heap.size + 1) default (.slice none 0 0)) := Lib.hid (by rw [hw6]; exact HK1.out.other HNEG.out 4 _)
  have HW6 := Lib.hid hw6
  clear hw6
  go_upto_region 6 with (fail)
  rw [← HW6.out]
  clear d0 d1 d2 d3 d4 f4 HW6 HW5 HG
  obtain ⟨d0, d1, d2, d3, d4⟩ := HK9.out.cells
  obtain ⟨z0, z1, z2, z3, z4⟩ := HK6.out.cells
  have g0 := HK6.out.frz 0
  have g1 := HK6.out.frz 1
  have g2 := HK6.out.frz 2
  have g3 := HK6.out.frz 3
  have g4 := HK6.out.frz 4
  repeat (first | go_values | go_skip | go_guarded | go_step | go_upon)
  refine bodyPost_ret (v := .tuple #[agLs { l with ed := true } (.slice oa on oc), .int .i64 0]) (by simp [results, Tryz.results15, go_sem, z0, z1, z2, z3, z4]) rfl ⟨{ l with ed := true }, _, 0, rfl, ?_, fun _ => ⟨fol_end l, HWF.out⟩, ?_⟩
  · exact (HO6.out.setL5 HK6.out _ _ _ _ _).enf (HB2.out.thru HB3.out).size
  · exact below_set5 HB6.out (Nat.le_succ _) _ _ _ _ _

/-- What Add's copy has become. -/
def AddW (w3 : World) (w : World) (G : Nat) (l : Lst) (x : Ent) (W : World) : Prop := ∃ v7, BkLs W G l v7 ∧ EnO W w3.heap.size v7 (l.en ++ [x]) ∧ Below w.heap.size w W ∧ BkLs W (w.heap.size + 2) default (.slice none 0 0)
set_option maxRecDepth 100000 in
set_option maxHeartbeats 8000000 in
theorem addL_any (w : World) (l : Lst) (v : Value) (x : Ent) (xv : Value) (hl : EnS w v l.en) (hx : Sl w 1 encS xv x.ex) (hw : WfLs l) (hwx : WfE x) :
    Calls Tryz.prog 13 #[agLs l v, aggE x xv] w (StpP w l) := by
  obtain ⟨w2, hw2⟩ : ∃ w2, w2 = ((w.alloc (litL l v)).alloc (litE x xv)).alloc litZ := ⟨_, rfl⟩
  have hs2 : w2.heap.size = w.heap.size + 3 := by rw [hw2]; simp
  have HB2 : Hid (Below w.heap.size w w2) := Lib.hid (by rw [hw2]; exact (((Below.refl _ w).alloc (Nat.le_refl _) _).alloc (by simp) _).alloc (by simp; omega) _)
  have hk0 : BkLs w2 w.heap.size l v := by
    have h1 := BkLs.new w l v
    have h2 := h1.below ((Below.refl _ _).alloc (Nat.le_refl _) (litE x xv)) h1.lt
    rw [hw2]
    exact h2.below ((Below.refl _ _).alloc (Nat.le_refl _) _) h2.lt
  have hkx : BkE w2 (w.heap.size + 1) x xv := by
    have e : w.heap.size + 1 = (w.alloc (litL l v)).heap.size := by simp
    have h1 := BkE.new (w.alloc (litL l v)) x xv
    rw [← e] at h1
    rw [hw2]
    exact h1.below ((Below.refl _ _).alloc (Nat.le_refl _) _) h1.lt
  have hk1 : BkLs w2 (w.heap.size + 2) default (.slice none 0 0) := by
    have e : w.heap.size + 2 = ((w.alloc (litL l v)).alloc (litE x xv)).heap.size := by simp
    rw [hw2, e]
    exact BkLs.new _ default _
  have HCK := Lib.hid (chkLs_any w2 l v (hl.below HB2.out) hw)
  have HCP : Hid (∀ W, Below w2.heap.size w2 W → Calls Tryz.prog 32 #[agLs l v] W (CpyP W l)) := Lib.hid (fun W h => copyList_any W l v ((hl.below HB2.out).below h) hw)
  have HCE : Hid (∀ W, Below w2.heap.size w2 W → Calls Tryz.prog 33 #[aggE x xv] W fun e w' => ∃ v', e = .returned (aggE x v') ∧ Own w' W.heap.size 9 1 encS v' x.ex ∧ Below W.heap.size W w') := Lib.hid (fun W h => copyEntry_any W x xv ((hx.below HB2.out (Nat.le_refl _)).below h (Nat.le_refl _)) hwx.ex)
  have HK0 := Lib.hid hk0
  have HKX := Lib.hid hkx
  have HK1 := Lib.hid hk1
  have HKZ := Lib.hid hk1
  have HW2 := Lib.hid hw2
  have HS2 := Lib.hid hs2
  have HWL := Lib.hid hw
  have HWX := Lib.hid hwx
  have HGD := Lib.hid (@chkL_zero l)
  obtain ⟨ao, cap, rfl, -, -, -, -⟩ := hl.op
  obtain ⟨ea, ec, rfl, -, -, -, -⟩ := hx
  obtain ⟨b0, b1, b2, b3, b4⟩ := hk0.cells
  obtain ⟨F, hF⟩ : ∃ F, F = chkL l := ⟨_, rfl⟩
  rw [← hF] at HCK HGD
  clear hw2 hk0 hk1 hkx hs2 hl hw hwx hF
  go_enter Tryz.func13, Tryz.ntmps13
  go_upto_region 1 with (fail)
  rw [← HW2.out]
  clear HW2
  go_wp2_with fail
  refine HCK.out.mono ?_
  rintro e w3 ⟨rfl, hb3⟩
  have HB3 := Lib.hid hb3
  have HC2 := Lib.hid (HCP.out w3 hb3)
  have hq1 := HS2.out
  have hk1 := HK1.out.below hb3 (by omega)
  have hk0 := HK0.out.below hb3 (by omega)
  clear hb3 b0 b1 b2 b3 b4 hq1
  obtain ⟨b0, b1, b2, b3, b4⟩ := hk0.cells
  by_cases hF : F = 0
  rotate_left
  next =>
    obtain ⟨z0, z1, z2, z3, z4⟩ := hk1.cells
    have g0 := hk1.frz 0
    have g1 := hk1.frz 1
    have g2 := hk1.frz 2
    have g3 := hk1.frz 3
    have g4 := hk1.frz 4
    have HF := Lib.hid hF
    go_upto_region 3 with (fail)
    repeat (first | go_values | go_skip | go_guarded | go_step | go_upon)
    refine bodyPost_ret (v := .tuple #[aggZ, .int .i64 F]) (by simp [results, Tryz.results13, go_sem, z0, z1, z2, z3, z4]) rfl (StpP.bad HF.out ?_)
    exact below_set5 (HB2.out.thru HB3.out) (Nat.le_add_right _ 2) _ _ _ _ _
  subst hF
  have hgd := HGD.out rfl
  have hln := hgd.ln
  clear hgd
  obtain ⟨ED, hED⟩ : ∃ ED, ED = l.ed := ⟨_, rfl⟩
  cases ED
  rotate_left
  next =>
    rw [← hED] at b4
    have HED := Lib.hid hED
    clear hED
    obtain ⟨z0, z1, z2, z3, z4⟩ := hk1.cells
    have g0 := hk1.frz 0
    have g1 := hk1.frz 1
    have g2 := hk1.frz 2
    have g3 := hk1.frz 3
    have g4 := hk1.frz 4
    go_upto_region 5 with (fail)
    repeat (first | go_values | go_skip | go_guarded | go_step | go_upon)
    refine bodyPost_ret (v := .tuple #[aggZ, .int .i64 11]) (by simp [results, Tryz.results13, go_sem, z0, z1, z2, z3, z4]) rfl (StpP.bad (by decide) ?_)
    exact below_set5 (HB2.out.thru HB3.out) (Nat.le_add_right _ 2) _ _ _ _ _
  have b4' : w3.cell? ⟨w.heap.size, 4, none⟩ = some (.bool false) := by rw [hED]; exact b4
  have HED := Lib.hid hED.symm
  clear b4 hED
  go_upto_region 6 with (fail)
  clear b4'
  have b4 := hk0.cells.2.2.2.2
  go_wp2_with fail
  unfold CpyP at HC2
  refine HC2.out.mono ?_
  rintro e w4 ⟨v4, rfl, ho4, hb4⟩
  have HO4 := Lib.hid ho4
  obtain ⟨oa, on, oc, rfl⟩ := ho4.slv
  have HB4 := Lib.hid (HB3.out.thru hb4)
  have hsz3 := HB3.out.size
  have hsz4 := hb4.size
  have hq1 := HS2.out
  have hk1 := hk1.below hb4 (by omega)
  have hne : w.heap.size + 2 < w4.heap.size := by omega
  have HK1 := Lib.hid (hk1.below ((Below.refl _ w4).alloc (Nat.le_refl _) (litL l (.slice oa on oc))) hne)
  obtain ⟨G, hG⟩ : ∃ G, G = w4.heap.size := ⟨_, rfl⟩
  have hk8 := BkLs.new w4 l (.slice oa on oc)
  obtain ⟨w5, hw5⟩ : ∃ w5, w5 = w4.alloc (litL l (.slice oa on oc)) := ⟨_, rfl⟩
  have HO5 : Hid (EnO w5 w3.heap.size (.slice oa on oc) l.en) := Lib.hid (by rw [hw5]; exact HO4.out.below ((Below.refl _ _).alloc (Nat.le_refl _) _))
  have HB5 : Hid (Below w2.heap.size w2 w5) := Lib.hid (by rw [hw5]; exact HB4.out.alloc HB4.out.size _)
  have hw35 : w3.heap.size ≤ w5.heap.size := by rw [hw5]; simp; omega
  have hbG : w2.heap.size ≤ G := by omega
  have hneG : w.heap.size + 2 ≠ G := by omega
  rw [← hw5] at HK1
  rw [← hG, ← hw5] at hk8
  have hGl := hk8.lt
  have HNEG := Lib.hid hneG
  have HBG := Lib.hid hbG
  have HK8 := Lib.hid hk8
  have HW5 := Lib.hid hw5
  have HG := Lib.hid hG
  have H35 := Lib.hid hw35
  clear ho4 hb4 hsz3 hsz4 hq1 hk0 hk1 hne hk8 hw5 hG hbG hneG b0 b1 b2 b3 b4 hw35
  go_upto_region 7 with (fail)
  rw [← HW5.out, ← HG.out]
  clear HW5 HG HC2 HCP HCK
  obtain ⟨q, hq1, hq2, hq3⟩ := HO5.out
  have HQ1 := Lib.hid hq1
  have HQ2 := Lib.hid hq2
  have HQ3 := Lib.hid hq3
  have hqn : q.length = l.en.length := by rw [← hq2, List.length_map]
  have hpl : (q.length + 1) * 88 ≤ 140737488355328 := by omega
  have HSS : Hid (∀ W : World, Below w2.heap.size w2 W → (W.cell? ⟨w.heap.size + 1, 0, none⟩ = some (.string x.ur) ∧ W.cell? ⟨w.heap.size + 1, 1, none⟩ = some (.int .i64 x.mi) ∧ W.cell? ⟨w.heap.size + 1, 2, none⟩ = some (.bool x.br) ∧ W.cell? ⟨w.heap.size + 1, 3, none⟩ = some (.int .i64 x.da) ∧ W.cell? ⟨w.heap.size + 1, 4, none⟩ = some (.string x.ke) ∧ W.cell? ⟨w.heap.size + 1, 5, none⟩ = some (.bool x.ga) ∧ W.cell? ⟨w.heap.size + 1, 6, none⟩ = some (.slice ea x.ex.length ec))) := Lib.hid (fun W hW => (HKX.out.below hW (by rw [HS2.out]; omega)).cells)
  have y3 : w5.drew.cell? ⟨G, 3, none⟩ = some (.slice oa on oc) := HK8.out.cells.2.2.2.1
  have hbc : Below w2.heap.size w2 w5.drew := HB5.out.drew
  have HD8 : Hid (BkLs w5.drew G l (.slice oa on oc)) := Lib.hid HK8.out
  have HDQ : Hid (Own w5.drew w3.heap.size 47 7 encEn (.slice oa on oc) q) := Lib.hid HQ1.out
  have HD3 : Hid (w3.heap.size ≤ w5.drew.heap.size) := Lib.hid H35.out
  have hGl : G < w5.drew.heap.size := hGl
  clear hq1 hq2 hq3 hqn
  go_cut [6] (fun s wc => s = .int .i64 0 ∧ Aside (AddW w3 w G l x wc))
  case first =>
    refine wp_region_held_drew (S := fun W => W.cell? ⟨w.heap.size + 1, 0, none⟩ = some (.string x.ur) ∧ W.cell? ⟨w.heap.size + 1, 1, none⟩ = some (.int .i64 x.mi) ∧ W.cell? ⟨w.heap.size + 1, 2, none⟩ = some (.bool x.br) ∧ W.cell? ⟨w.heap.size + 1, 3, none⟩ = some (.int .i64 x.da) ∧ W.cell? ⟨w.heap.size + 1, 4, none⟩ = some (.string x.ke) ∧ W.cell? ⟨w.heap.size + 1, 5, none⟩ = some (.bool x.ga) ∧ W.cell? ⟨w.heap.size + 1, 6, none⟩ = some (.slice ea x.ex.length ec)) (by kernel_rfl) (HSS.out _ hbc) (fun hHeld => ?_)
    refine takeIn (v := ?_) 0 20 rfl rfl (by kernel_rfl) (by kernel_rfl) (by kernel_rfl) (fun _ _ _ h => h) hHeld (by rfl) ?_ ?_
    rotate_left
    · (intro w' hSw; (try dsimp only at hSw); go_simp) <;> with_reducible rfl
    try simp only [Act.put, List.setIfInBounds_toArray, List.set_cons_zero, List.set_cons_succ]
    refine takeIn (v := ?_) 2 22 rfl rfl (by kernel_rfl) (by kernel_rfl) (by kernel_rfl) (fun _ _ _ h => h) hHeld (by rfl) ?_ ?_
    rotate_left
    · (intro w' hSw; (try dsimp only at hSw); go_simp) <;> with_reducible rfl
    try simp only [Act.put, List.setIfInBounds_toArray, List.set_cons_zero, List.set_cons_succ]
    refine wpAnyH_ready (rs := [1, 3]) (by kernel_rfl) (by simp) (AllReadyH.cons rfl (fun K hK => ?_) (AllReadyH.cons rfl (fun K hK => ?_) (AllReadyH.nil)))
    · go_simp
      refine hK.out _ _ (HSS.out _ hbc) (fun hHeld => ?_)
      clear hK K
      try simp only [Act.put, List.setIfInBounds_toArray, List.set_cons_zero, List.set_cons_succ]
      refine wpAnyH_ready (rs := [3]) (by kernel_rfl) (by simp) (AllReadyH.cons rfl (fun K hK => ?_) (AllReadyH.nil))
      rw [if_pos (by rfl)]
      go_simp
      go_at_call 33
      refine (HCE.out _ hbc).mono ?_
      rintro e w6 ⟨v6, rfl, ho6, hb6⟩
      have y3 : w6.cell? ⟨G, 3, none⟩ = some (.slice oa on oc) := ((HD8.out.below hb6 hGl).cells).2.2.2.1
      have y4 : ∀ o : Obj, (w6.alloc o).cell? ⟨G, 3, none⟩ = some (.slice oa on oc) := fun o => (((HD8.out.below hb6 hGl).below ((Below.refl _ w6).alloc (Nat.le_refl _) o) (HD8.out.below hb6 hGl).lt).cells).2.2.2.1
      have HO6 := Lib.hid ho6
      have HB6 := Lib.hid hb6
      obtain ⟨xa6, xn6, xc6, rfl⟩ := ho6.slv encS_len
      have HQ6 := Lib.hid ((HDQ.out.below hb6 (Nat.le_refl _)).al (litE x (.slice xa6 xn6 xc6)))
      have hb36 : w3.heap.size ≤ (w6.alloc (litE x (.slice xa6 xn6 xc6))).heap.size := by have h := Nat.le_trans HD3.out hb6.size; simp; omega
      replace hbc := hbc.thru hb6
      clear ho6 hb6
      refine hK.out _ _ (HSS.out _ hbc) (fun hHeld => ?_)
      clear hK K
      try simp only [Act.put, List.setIfInBounds_toArray, List.set_cons_zero, List.set_cons_succ]
      refine wpAnyH_ready (rs := [4]) (by kernel_rfl) (by simp) (AllReadyH.cons rfl (fun K hK => ?_) (AllReadyH.nil))
      go_simp
      refine hK.out _ _ (HSS.out _ (hbc.alloc hbc.size _)) (fun hHeld => ?_)
      clear hK K
      try simp only [Act.put, List.setIfInBounds_toArray, List.set_cons_zero, List.set_cons_succ]
      refine wpAnyH_ready (rs := [5]) (by kernel_rfl) (by simp) (AllReadyH.cons rfl (fun K hK => ?_) (AllReadyH.nil))
      refine step_pushB (enc := encEn) (v := .slice oa on oc) (l := q) rfl (.tmp 21) (.tmp 24) 22 rfl slEn (by decide) rfl rfl (x, .slice xa6 xn6 xc6) rfl rfl HQ6.out (block_new w6 _) (by omega) hb36 ?_
      intro v7 w7 ho7 hb7 hk7
      have hg6 := (HD8.out.below HB6.out hGl).below ((Below.refl _ w6).alloc (Nat.le_refl _) (litE x (.slice xa6 xn6 xc6))) (HD8.out.below HB6.out hGl).lt
      have hk9 : BkLs w7 G l (.slice oa on oc) := blk_kb hg6 HQ6.out (by decide) hk7
      have y3 : w7.cell? ⟨G, 3, none⟩ = some (.slice oa on oc) := hk9.cells.2.2.2.1
      have y9 := hk9.frz 3
      have HO7 := Lib.hid ho7
      have HK7 := Lib.hid hk7
      have HK9 := Lib.hid hk9
      replace hbc := (hbc.alloc hbc.size (litE x (.slice xa6 xn6 xc6))).trans (hb7.mono HB3.out.size)
      obtain ⟨oa7, on7, oc7, rfl⟩ := ho7.slv encEn_len
      clear ho7 hb7 hk7 hk9 hg6
      refine hK.out _ _ (HSS.out _ hbc) (fun hHeld => ?_)
      clear hK K
      try simp only [Act.put, List.setIfInBounds_toArray]
      refine takeIn (v := ?_) 6 26 rfl rfl (by kernel_rfl) (by kernel_rfl) (by kernel_rfl) (fun _ _ _ h => h) hHeld (by rfl) ?_ ?_
      rotate_left
      · (intro w' hSw; (try dsimp only at hSw); go_simp) <;> with_reducible rfl
      try simp only [Act.put]
      refine wpAnyH_ready (rs := [7]) (by kernel_rfl) (by simp) (AllReadyH.cons rfl (fun K hK => ?_) (AllReadyH.nil))
      go_simp
      refine hK.out _ _ (HSS.out _ (hbc.setCell (p := ⟨G, 3, none⟩) HBG.out _)) (fun hHeld => ?_)
      clear hK K
      try simp only [Act.put]
      refine wpAnyH_done (by kernel_rfl) ?_ _
      go_wp2_with fail
      go_meet
      refine ⟨rfl, (show Aside _ from ⟨.slice oa7 on7 oc7, HK9.out.set 3 _ rfl, EnO.setL ?_ HK9.out 3 _, (HB2.out.thru hbc).setCell (p := ⟨G, 3, none⟩) (Nat.le_trans HB2.out.size HBG.out) _, (HKZ.out.below hbc (by rw [HS2.out]; omega)).other HNEG.out 3 _⟩)⟩
      refine ⟨q ++ [(x, .slice xa6 xn6 xc6)], HO7.out, by rw [List.map_append, HQ2.out]; rfl, fun p hp => ?_⟩
      rcases List.mem_append.1 hp with hp | hp
      · have h5 : Own w5.drew w3.heap.size 9 1 encS p.2 p.1.ex := HQ3.out p hp
        exact ((h5.below HB6.out (Nat.le_refl _)).al _).kb HQ6.out (by decide) HK7.out
      · rw [List.mem_singleton] at hp
        rw [hp]
        exact ((HO6.out.al _).kb HQ6.out (by decide) HK7.out).rebase HD3.out
    · rw [if_pos (by rfl)]
      go_simp
      go_at_call 33
      refine (HCE.out _ hbc).mono ?_
      rintro e w6 ⟨v6, rfl, ho6, hb6⟩
      have y3 : w6.cell? ⟨G, 3, none⟩ = some (.slice oa on oc) := ((HD8.out.below hb6 hGl).cells).2.2.2.1
      have y4 : ∀ o : Obj, (w6.alloc o).cell? ⟨G, 3, none⟩ = some (.slice oa on oc) := fun o => (((HD8.out.below hb6 hGl).below ((Below.refl _ w6).alloc (Nat.le_refl _) o) (HD8.out.below hb6 hGl).lt).cells).2.2.2.1
      have HO6 := Lib.hid ho6
      have HB6 := Lib.hid hb6
      obtain ⟨xa6, xn6, xc6, rfl⟩ := ho6.slv encS_len
      have HQ6 := Lib.hid ((HDQ.out.below hb6 (Nat.le_refl _)).al (litE x (.slice xa6 xn6 xc6)))
      have hb36 : w3.heap.size ≤ (w6.alloc (litE x (.slice xa6 xn6 xc6))).heap.size := by have h := Nat.le_trans HD3.out hb6.size; simp; omega
      replace hbc := hbc.thru hb6
      clear ho6 hb6
      refine hK.out _ _ (HSS.out _ hbc) (fun hHeld => ?_)
      clear hK K
      try simp only [Act.put, List.setIfInBounds_toArray, List.set_cons_zero, List.set_cons_succ]
      refine wpAnyH_ready (rs := [1, 4]) (by kernel_rfl) (by simp) (AllReadyH.cons rfl (fun K hK => ?_) (AllReadyH.cons rfl (fun K hK => ?_) (AllReadyH.nil)))
      · go_simp
        refine hK.out _ _ (HSS.out _ hbc) (fun hHeld => ?_)
        clear hK K
        try simp only [Act.put, List.setIfInBounds_toArray, List.set_cons_zero, List.set_cons_succ]
        refine wpAnyH_ready (rs := [4]) (by kernel_rfl) (by simp) (AllReadyH.cons rfl (fun K hK => ?_) (AllReadyH.nil))
        go_simp
        refine hK.out _ _ (HSS.out _ (hbc.alloc hbc.size _)) (fun hHeld => ?_)
        clear hK K
        try simp only [Act.put, List.setIfInBounds_toArray, List.set_cons_zero, List.set_cons_succ]
        refine wpAnyH_ready (rs := [5]) (by kernel_rfl) (by simp) (AllReadyH.cons rfl (fun K hK => ?_) (AllReadyH.nil))
        refine step_pushB (enc := encEn) (v := .slice oa on oc) (l := q) rfl (.tmp 21) (.tmp 24) 22 rfl slEn (by decide) rfl rfl (x, .slice xa6 xn6 xc6) rfl rfl HQ6.out (block_new w6 _) (by omega) hb36 ?_
        intro v7 w7 ho7 hb7 hk7
        have hg6 := (HD8.out.below HB6.out hGl).below ((Below.refl _ w6).alloc (Nat.le_refl _) (litE x (.slice xa6 xn6 xc6))) (HD8.out.below HB6.out hGl).lt
        have hk9 : BkLs w7 G l (.slice oa on oc) := blk_kb hg6 HQ6.out (by decide) hk7
        have y3 : w7.cell? ⟨G, 3, none⟩ = some (.slice oa on oc) := hk9.cells.2.2.2.1
        have y9 := hk9.frz 3
        have HO7 := Lib.hid ho7
        have HK7 := Lib.hid hk7
        have HK9 := Lib.hid hk9
        replace hbc := (hbc.alloc hbc.size (litE x (.slice xa6 xn6 xc6))).trans (hb7.mono HB3.out.size)
        obtain ⟨oa7, on7, oc7, rfl⟩ := ho7.slv encEn_len
        clear ho7 hb7 hk7 hk9 hg6
        refine hK.out _ _ (HSS.out _ hbc) (fun hHeld => ?_)
        clear hK K
        try simp only [Act.put, List.setIfInBounds_toArray]
        refine takeIn (v := ?_) 6 26 rfl rfl (by kernel_rfl) (by kernel_rfl) (by kernel_rfl) (fun _ _ _ h => h) hHeld (by rfl) ?_ ?_
        rotate_left
        · (intro w' hSw; (try dsimp only at hSw); go_simp) <;> with_reducible rfl
        try simp only [Act.put]
        refine wpAnyH_ready (rs := [7]) (by kernel_rfl) (by simp) (AllReadyH.cons rfl (fun K hK => ?_) (AllReadyH.nil))
        go_simp
        refine hK.out _ _ (HSS.out _ (hbc.setCell (p := ⟨G, 3, none⟩) HBG.out _)) (fun hHeld => ?_)
        clear hK K
        try simp only [Act.put]
        refine wpAnyH_done (by kernel_rfl) ?_ _
        go_wp2_with fail
        go_meet
        refine ⟨rfl, (show Aside _ from ⟨.slice oa7 on7 oc7, HK9.out.set 3 _ rfl, EnO.setL ?_ HK9.out 3 _, (HB2.out.thru hbc).setCell (p := ⟨G, 3, none⟩) (Nat.le_trans HB2.out.size HBG.out) _, (HKZ.out.below hbc (by rw [HS2.out]; omega)).other HNEG.out 3 _⟩)⟩
        refine ⟨q ++ [(x, .slice xa6 xn6 xc6)], HO7.out, by rw [List.map_append, HQ2.out]; rfl, fun p hp => ?_⟩
        rcases List.mem_append.1 hp with hp | hp
        · have h5 : Own w5.drew w3.heap.size 9 1 encS p.2 p.1.ex := HQ3.out p hp
          exact ((h5.below HB6.out (Nat.le_refl _)).al _).kb HQ6.out (by decide) HK7.out
        · rw [List.mem_singleton] at hp
          rw [hp]
          exact ((HO6.out.al _).kb HQ6.out (by decide) HK7.out).rebase HD3.out
      · go_simp
        refine hK.out _ _ (HSS.out _ (hbc.alloc hbc.size _)) (fun hHeld => ?_)
        clear hK K
        try simp only [Act.put, List.setIfInBounds_toArray, List.set_cons_zero, List.set_cons_succ]
        refine wpAnyH_ready (rs := [1]) (by kernel_rfl) (by simp) (AllReadyH.cons rfl (fun K hK => ?_) (AllReadyH.nil))
        go_simp
        refine hK.out _ _ (HSS.out _ (hbc.alloc hbc.size _)) (fun hHeld => ?_)
        clear hK K
        try simp only [Act.put, List.setIfInBounds_toArray, List.set_cons_zero, List.set_cons_succ]
        refine wpAnyH_ready (rs := [5]) (by kernel_rfl) (by simp) (AllReadyH.cons rfl (fun K hK => ?_) (AllReadyH.nil))
        refine step_pushB (enc := encEn) (v := .slice oa on oc) (l := q) rfl (.tmp 21) (.tmp 24) 22 rfl slEn (by decide) rfl rfl (x, .slice xa6 xn6 xc6) rfl rfl HQ6.out (block_new w6 _) (by omega) hb36 ?_
        intro v7 w7 ho7 hb7 hk7
        have hg6 := (HD8.out.below HB6.out hGl).below ((Below.refl _ w6).alloc (Nat.le_refl _) (litE x (.slice xa6 xn6 xc6))) (HD8.out.below HB6.out hGl).lt
        have hk9 : BkLs w7 G l (.slice oa on oc) := blk_kb hg6 HQ6.out (by decide) hk7
        have y3 : w7.cell? ⟨G, 3, none⟩ = some (.slice oa on oc) := hk9.cells.2.2.2.1
        have y9 := hk9.frz 3
        have HO7 := Lib.hid ho7
        have HK7 := Lib.hid hk7
        have HK9 := Lib.hid hk9
        replace hbc := (hbc.alloc hbc.size (litE x (.slice xa6 xn6 xc6))).trans (hb7.mono HB3.out.size)
        obtain ⟨oa7, on7, oc7, rfl⟩ := ho7.slv encEn_len
        clear ho7 hb7 hk7 hk9 hg6
        refine hK.out _ _ (HSS.out _ hbc) (fun hHeld => ?_)
        clear hK K
        try simp only [Act.put, List.setIfInBounds_toArray]
        refine takeIn (v := ?_) 6 26 rfl rfl (by kernel_rfl) (by kernel_rfl) (by kernel_rfl) (fun _ _ _ h => h) hHeld (by rfl) ?_ ?_
        rotate_left
        · (intro w' hSw; (try dsimp only at hSw); go_simp) <;> with_reducible rfl
        try simp only [Act.put]
        refine wpAnyH_ready (rs := [7]) (by kernel_rfl) (by simp) (AllReadyH.cons rfl (fun K hK => ?_) (AllReadyH.nil))
        go_simp
        refine hK.out _ _ (HSS.out _ (hbc.setCell (p := ⟨G, 3, none⟩) HBG.out _)) (fun hHeld => ?_)
        clear hK K
        try simp only [Act.put]
        refine wpAnyH_done (by kernel_rfl) ?_ _
        go_wp2_with fail
        go_meet
        refine ⟨rfl, (show Aside _ from ⟨.slice oa7 on7 oc7, HK9.out.set 3 _ rfl, EnO.setL ?_ HK9.out 3 _, (HB2.out.thru hbc).setCell (p := ⟨G, 3, none⟩) (Nat.le_trans HB2.out.size HBG.out) _, (HKZ.out.below hbc (by rw [HS2.out]; omega)).other HNEG.out 3 _⟩)⟩
        refine ⟨q ++ [(x, .slice xa6 xn6 xc6)], HO7.out, by rw [List.map_append, HQ2.out]; rfl, fun p hp => ?_⟩
        rcases List.mem_append.1 hp with hp | hp
        · have h5 : Own w5.drew w3.heap.size 9 1 encS p.2 p.1.ex := HQ3.out p hp
          exact ((h5.below HB6.out (Nat.le_refl _)).al _).kb HQ6.out (by decide) HK7.out
        · rw [List.mem_singleton] at hp
          rw [hp]
          exact ((HO6.out.al _).kb HQ6.out (by decide) HK7.out).rebase HD3.out
  obtain ⟨rfl, AW⟩ := hcut
  obtain ⟨w8, hw8⟩ : ∃ w8, w8 = wc := ⟨_, rfl⟩
  rw [← hw8] at AW ⊢
  obtain ⟨v7, hg8, ho8, hb8, hz8⟩ := AW.out
  obtain ⟨a7, n7, c7, rfl⟩ := ho8.slv
  have HG8 := Lib.hid hg8
  have HO8 := Lib.hid ho8
  have HB8 := Lib.hid hb8
  have HZ8 := Lib.hid hz8
  obtain ⟨l', hl'⟩ : ∃ l', l' = ({ l with en := l.en ++ [x] } : Lst) := ⟨_, rfl⟩
  have HWF : Hid (WfLs l') := Lib.hid (by
    rw [hl']
    refine ⟨HWL.out.ta, HWL.out.fi, HWL.out.br, by simp; omega, fun y hy => ?_⟩
    rcases List.mem_append.1 hy with hy | hy
    · exact HWL.out.en y hy
    · rw [List.mem_singleton] at hy; rw [hy]; exact HWX.out)
  have HC8 : Hid (Calls Tryz.prog 9 #[agLs l (.slice a7 n7 c7)] w8 fun e w' => e = .returned (.int .i64 (chkL l')) ∧ Below w8.heap.size w8 w') := Lib.hid (by
    have h := chkLs_any w8 l' (.slice a7 n7 c7) (by rw [hl']; exact ho8.ens) HWF.out
    rw [hl'] at h ⊢
    exact h)
  have HFO : Hid (Fol l l') := Lib.hid (by rw [hl']; exact fol_add l x HED.out)
  have HL' := Lib.hid hl'
  obtain ⟨F, hF⟩ : ∃ F, F = chkL l' := ⟨_, rfl⟩
  rw [← hF] at HC8
  obtain ⟨d0, d1, d2, d3, d4⟩ := hg8.cells
  clear hw8 AW hg8 ho8 hb8 hz8 hl' hF hbc y3 hpl HSS
  go_wp2_with fail
  refine HC8.out.mono ?_
  rintro e w9 ⟨rfl, hb9⟩
  have HB9 := Lib.hid hb9
  have hk8 := HG8.out.below hb9 HG8.out.lt
  have hkz := HZ8.out.below hb9 HZ8.out.lt
  obtain ⟨z0, z1, z2, z3, z4⟩ := hkz.cells
  have g0 := hkz.frz 0
  have g1 := hkz.frz 1
  have g2 := hkz.frz 2
  have g3 := hkz.frz 3
  have g4 := hkz.frz 4
  have HKZ9 := Lib.hid hkz
  clear d0 d1 d2 d3 d4 hb9 hkz
  obtain ⟨d0, d1, d2, d3, d4⟩ := hk8.cells
  clear hk8
  by_cases hF : F = 0
  rotate_left
  next =>
    have HF := Lib.hid hF
    go_upto_region 10 with (fail)
    repeat (first | go_values | go_skip | go_guarded | go_step | go_upon)
    refine bodyPost_ret (v := .tuple #[aggZ, .int .i64 F]) (by simp [results, Tryz.results13, go_sem, z0, z1, z2, z3, z4]) rfl (StpP.bad HF.out ?_)
    exact below_set5 (HB8.out.thru HB9.out) (Nat.le_add_right _ 2) _ _ _ _ _
  subst hF
  go_upto_region 11 with (fail)
  repeat (first | go_values | go_skip | go_guarded | go_step | go_upon)
  refine bodyPost_ret (v := .tuple #[agLs l (.slice a7 n7 c7), .int .i64 0]) (by simp [results, Tryz.results13, go_sem, z0, z1, z2, z3, z4]) rfl ⟨l', .slice a7 n7 c7, 0, by rw [HL'.out], ?_, fun _ => ⟨HFO.out, HWF.out⟩, ?_⟩
  · rw [HL'.out]
    exact ((HO8.out.below HB9.out).setL5 HKZ9.out _ _ _ _ _).enf (HB2.out.thru HB3.out).size
  · exact below_set5 (HB8.out.thru HB9.out) (Nat.le_add_right _ 2) _ _ _ _ _
end Go.Proofs.YtehbmnkbmgnkfaaGreatDoor

/- slices.Equal of strings. -/
namespace Go.Proofs.YtehbmnkbmgnkfaaGreatDoor
open Go.RowKit

/-- Two lists of strings are one. -/
def eqS (l m : List ByteArray) : Bool := decide (l.map ByteArray.toList = m.map ByteArray.toList)
abbrev encQ (s : ByteArray) : List Value := [.string s]
theorem eqS_len {l m : List ByteArray} (h : l.length ≠ m.length) : eqS l m = false := by
  unfold eqS
  rw [decide_eq_false_iff_not]
  intro e
  have := congrArg List.length e
  simp at this
  exact h this
theorem eqS_at {l m : List ByteArray} {i : Nat} {x y : ByteArray} (hx : l[i]? = some x) (hy : m[i]? = some y) (h : (x.toList == y.toList) = false) : eqS l m = false := by
  unfold eqS
  rw [decide_eq_false_iff_not]
  intro e
  have h1 : (l.map ByteArray.toList)[i]? = (m.map ByteArray.toList)[i]? := by rw [e]
  rw [List.getElem?_map, List.getElem?_map, hx, hy] at h1
  simp at h1
  simp [h1] at h
theorem eqS_all {l m : List ByteArray} (hl : l.length = m.length) (h : ∀ (i : Nat) (x y : ByteArray), l[i]? = some x → m[i]? = some y → (x.toList == y.toList) = true) : eqS l m = true := by
  unfold eqS
  rw [decide_eq_true_iff]
  apply List.ext_getElem?
  intro i
  rw [List.getElem?_map, List.getElem?_map]
  by_cases hi : i < l.length
  · have h1 := h i l[i] (m[i]'(by omega)) (by simp [hi]) (by simp)
    rw [List.getElem?_eq_getElem hi, List.getElem?_eq_getElem (by omega)]
    simpa using h1
  · rw [List.getElem?_eq_none (by omega), List.getElem?_eq_none (by omega)]
set_option maxHeartbeats 1000000 in
theorem equalS_any (w : World) (l m : List ByteArray) (v u : Value) (hl : Sl w 1 encQ v l) (hm : Sl w 1 encQ u m) :
    Calls Tryz.prog 73 #[v, u] w fun e w' => e = .returned (.bool (eqS l m)) ∧ Below w.heap.size w w' := by
  obtain ⟨ao, cap, rfl, hcap, hmax, hnil, hel⟩ := hl
  obtain ⟨bo, bap, rfl, hbap, hbax, hbil, hem⟩ := hm
  unfold maxLen at hmax hbax
  by_cases hlm : l.length = m.length
  · have e0 : ((l.length : Int) != (m.length : Int)) = false := by simp [hlm]
    have HA := Lib.hid (fun h => eqS_all hlm h)
    have HAT := Lib.hid (fun (i : Nat) (x y : ByteArray) (hx : l[i]? = some x) (hy : m[i]? = some y) h => eqS_at hx hy h)
    have HLM := Lib.hid hlm
    clear hlm
    go_enter Tryz.func73, Tryz.ntmps73
    go_wp2
    go_loopg [5, 13] l.length (fun gg _ s13 wr => ∃ kk : Nat, kk ≤ l.length ∧ l.length - kk ≤ gg ∧ s13 = .int .i64 kk ∧ (∃ n, wr = w.drewN n) ∧ Aside (∀ (i : Nat) (x y : ByteArray), i < kk → l[i]? = some x → m[i]? = some y → (x.toList == y.toList) = true))
    case atStart => exact ⟨0, Nat.zero_le _, by omega, rfl, ⟨0, rfl⟩, (show Aside _ from fun i x y h => absurd h (Nat.not_lt_zero _))⟩
    case round =>
      obtain ⟨kk, hkk, hg, rfl, ⟨n, rfl⟩, HS⟩ := hrel
      by_cases hlt : kk < l.length
      · have hltz : (kk : Int) < (l.length : Int) := by omega
        have hltm : (kk : Int) < (m.length : Int) := by have := HLM.out; omega
        obtain ⟨x, hx⟩ : ∃ x, l[kk]? = some x := ⟨l[kk], by simp [hlt]⟩
        obtain ⟨y, hy⟩ : ∃ y, m[kk]? = some y := ⟨m[kk]'(by have := HLM.out; omega), by simp⟩
        obtain ⟨b, off, rfl, hc⟩ := hel kk x hx
        obtain ⟨b', off', rfl, hd⟩ := hem kk y hy
        have c0 : w.cell? ⟨b, off + kk, none⟩ = some (.string x) := by simpa using hc 0 _ rfl
        have d0 : w.cell? ⟨b', off' + kk, none⟩ = some (.string y) := by simpa using hd 0 _ rfl
        cases e1 : x.toList == y.toList
        · have hv : Hid (eqS l m = false) := Lib.hid (HAT.out kk x y hx hy e1)
          clear hx hy hc hd hel hem
          go_upto_region 6 with (fail)
          go_quiet (fail)
          go_wp2
          go_ret
          exact ⟨by rw [hv.out]; rfl, below_drewN (below_drewN (Below.refl _ _) _) _⟩
        · have HN : Hid (∀ (i : Nat) (x y : ByteArray), i < kk + 1 → l[i]? = some x → m[i]? = some y → (x.toList == y.toList) = true) := Lib.hid (fun i x' y' hi hx' hy' => by
            by_cases e : i = kk
            · subst e
              rw [hx] at hx'
              rw [hy] at hy'
              cases hx'
              cases hy'
              exact e1
            · exact HS.out i x' y' (by omega) hx' hy')
          clear hx hy hc hd hel hem
          go_upto_region 6 with (fail)
          go_quiet (fail)
          go_wp2
          go_roundg (l.length - (kk + 1))
          case measure => omega
          case rel => exact ⟨kk + 1, by omega, by omega, by go_num, ⟨_, rfl⟩, HN.out⟩
      · have hltz : ¬ (kk : Int) < (l.length : Int) := by omega
        have hv : Hid (eqS l m = true) := Lib.hid (HA.out fun i x y hx hy => HS.out i x y (by have := (List.getElem?_eq_some_iff.1 hx).1; omega) hx hy)
        clear hel hem
        go_wp2
        go_ret
        exact ⟨by rw [hv.out]; rfl, below_drewN (Below.refl _ _) _⟩
  · have e0 : ((l.length : Int) != (m.length : Int)) = true := by simp; omega
    have hv : Hid (eqS l m = false) := Lib.hid (eqS_len hlm)
    clear hlm
    go_enter Tryz.func73, Tryz.ntmps73
    go_wp2
    go_ret
    exact ⟨by rw [hv.out]; rfl, Below.refl _ _⟩
end Go.Proofs.YtehbmnkbmgnkfaaGreatDoor

/- length, breakNumbers, sameEntry, sameList of playlists. -/
namespace Go.Proofs.YtehbmnkbmgnkfaaGreatDoor
open Go.RowKit

set_option maxRecDepth 100000 in
set_option maxHeartbeats 4000000 in
theorem lenL_any (w : World) (l : Lst) (v : Value) (hl : EnS w v l.en) (hg : GdL l) :
    Calls Tryz.prog 34 #[agLs l v] w fun e w' => e = .returned (.int .i64 (lenE l.en)) ∧ Below w.heap.size w w' := by
  obtain ⟨w1, hw1⟩ : ∃ w1, w1 = w.alloc (litL l v) := ⟨_, rfl⟩
  have HB1 : Hid (Below w.heap.size w w1) := Lib.hid (by rw [hw1]; exact (Below.refl _ w).alloc (Nat.le_refl _) _)
  have hk0 : BkLs w1 w.heap.size l v := by rw [hw1]; exact BkLs.new w l v
  have HW1 := Lib.hid hw1
  obtain ⟨ao, cap, rfl, hcap, hmax, hnil, hel⟩ := hl.op
  have HEL := Lib.hid hel
  have HGD := Lib.hid hg
  have hln := hg.ln
  unfold maxLen at hmax
  obtain ⟨b0, b1, b2, b3, b4⟩ := hk0.cells
  clear hw1 hk0 hel hnil hl hg
  go_enter Tryz.func34, Tryz.ntmps34
  go_upto_region 1 with (fail)
  rw [← HW1.out]
  clear HW1
  go_wp2_with fail
  clear b0 b1 b2 b3 b4
  go_loopg [3, 9] l.en.length (fun gg s3 s9 wr => ∃ kk : Nat, kk ≤ l.en.length ∧ l.en.length - kk ≤ gg ∧ s9 = .int .i64 kk ∧ s3 = .int .i64 (lenE (l.en.take kk)) ∧ Aside (Below w1.heap.size w1 wr))
  case atStart => exact ⟨0, Nat.zero_le _, by omega, by go_num, by simp [lenE], Below.refl _ _⟩
  case round =>
    obtain ⟨kk, hkk, hg, rfl, rfl, BW⟩ := hrel
    have HBW := Lib.hid BW.out
    have HB3 := Lib.hid (HB1.out.thru BW.out)
    clear BW
    by_cases hlt : kk < l.en.length
    · have hltz : (kk : Int) < (l.en.length : Int) := by omega
      obtain ⟨x, hx⟩ : ∃ x, l.en[kk]? = some x := ⟨l.en[kk], by simp [hlt]⟩
      obtain ⟨b, off, xv, rfl, hce, hxs⟩ := HEL.out kk x hx
      obtain ⟨xa, xc, hxv, -, -, -, -⟩ := id hxs
      subst hxv
      obtain ⟨c0, c1, c2, c3, c4, c5, c6⟩ := hce.below HB3.out
      have HBN : Hid (Below w1.heap.size w1 (wr.alloc (litE x (.slice xa x.ex.length xc)))) := Lib.hid (HBW.out.alloc HBW.out.size _)
      have HLN := Lib.hid (lenE_next hx)
      have hb := lenE_bd (l := l.en.take kk) (fun y hy => HGD.out.en y (List.mem_of_mem_take hy))
      have hb2 : (l.en.take kk).length ≤ 1000 := by simp; omega
      have hm := (HGD.out.en x (List.mem_of_getElem? hx)).mi
      generalize lenE (l.en.take kk) = A at HLN hb ⊢
      have hb3 : 0 ≤ A ∧ A ≤ 3600000000 := by omega
      clear hx hce hxs hb hb2
      go_wp2_with fail
      go_roundg (l.en.length - (kk + 1))
      case measure => omega
      case rel => exact ⟨kk + 1, by omega, by omega, by go_num, by rw [HLN.out], HBN.out⟩
    · obtain rfl : kk = l.en.length := by omega
      have hltz : ¬ (l.en.length : Int) < (l.en.length : Int) := by omega
      rw [List.take_length]
      go_wp2_with fail
      go_ret
      exact ⟨rfl, HB3.out⟩

set_option maxRecDepth 100000 in
set_option maxHeartbeats 4000000 in
theorem breakN_any (w : World) (l : Lst) (v : Value) (hl : EnS w v l.en) (hg : GdL l) :
    Calls Tryz.prog 43 #[agLs l v] w fun e w' => ∃ v', e = .returned v' ∧ Sl w' 1 encI v' (bnL l.br l.en) ∧ Below w.heap.size w w' := by
  obtain ⟨w1, hw1⟩ : ∃ w1, w1 = w.alloc (litL l v) := ⟨_, rfl⟩
  have HB1 : Hid (Below w.heap.size w w1) := Lib.hid (by rw [hw1]; exact (Below.refl _ w).alloc (Nat.le_refl _) _)
  have hk0 : BkLs w1 w.heap.size l v := by rw [hw1]; exact BkLs.new w l v
  have HW1 := Lib.hid hw1
  obtain ⟨ao, cap, rfl, hcap, hmax, hnil, hel⟩ := hl.op
  have HEL := Lib.hid hel
  have HGD := Lib.hid hg
  have hln := hg.ln
  have hbr := hg.br
  unfold maxLen at hmax
  obtain ⟨b0, b1, b2, b3, b4⟩ := hk0.cells
  clear hw1 hk0 hel hnil hl hg
  go_enter Tryz.func43, Tryz.ntmps43
  go_upto_region 1 with (fail)
  rw [← HW1.out]
  clear HW1
  go_wp2_with fail
  clear b0 b1 b2 b3 b4
  go_loopg [3, 4, 12] l.en.length (fun gg s3 s4 s12 wr => ∃ kk : Nat, kk ≤ l.en.length ∧ l.en.length - kk ≤ gg ∧ s12 = .int .i64 kk ∧ s3 = .int .i64 (l.br + cntB (l.en.take kk)) ∧ Aside (Own wr w1.heap.size 3 1 encI s4 ((bnL l.br l.en).take kk)) ∧ Aside (Below w1.heap.size w1 wr))
  case atStart => exact ⟨0, Nat.zero_le _, by omega, by go_num, by simp [cntB], Own.nil, Below.refl _ _⟩
  case round =>
    obtain ⟨kk, hkk, hg, rfl, rfl, AO, BW⟩ := hrel
    have HBW := Lib.hid BW.out
    have HB3 := Lib.hid (HB1.out.thru BW.out)
    obtain ⟨oa, on, oc, hov⟩ := AO.out.slv encI_len
    subst hov
    by_cases hlt : kk < l.en.length
    · have hltz : (kk : Int) < (l.en.length : Int) := by omega
      obtain ⟨x, hx⟩ : ∃ x, l.en[kk]? = some x := ⟨l.en[kk], by simp [hlt]⟩
      obtain ⟨b, off, xv, rfl, hce, hxs⟩ := HEL.out kk x hx
      obtain ⟨xa, xc, hxv, -, -, -, -⟩ := id hxs
      subst hxv
      obtain ⟨c0, c1, c2, c3, c4, c5, c6⟩ := hce.below HB3.out
      have HBN : Hid (Below w1.heap.size w1 (wr.alloc (litE x (.slice xa x.ex.length xc)))) := Lib.hid (HBW.out.alloc HBW.out.size _)
      have HO2 := Lib.hid (AO.out.al (litE x (.slice xa x.ex.length xc)))
      have hbc : w1.heap.size ≤ (wr.alloc (litE x (.slice xa x.ex.length xc))).heap.size := HBN.out.size
      have hpl : (((bnL l.br l.en).take kk).length + 1) * 8 ≤ 140737488355328 := by
        rw [List.length_take, bnL_len]; omega
      have HCN := Lib.hid (cntB_next hx)
      have HBL := Lib.hid (bnL_next (br := l.br) hlt)
      have hb := cntB_bd (l.en.take kk)
      have hb2 : (l.en.take kk).length ≤ 1000 := by simp; omega
      generalize cntB (l.en.take kk) = A at HCN hb ⊢
      have hb3 : 0 ≤ A ∧ A ≤ 1000 := by omega
      obtain ⟨ur, mi, br, da, ke, ga, ex⟩ := x
      clear hx hce hxs hb hb2 AO BW
      obtain ⟨N, hN⟩ : ∃ N, N = l.br + cntB (l.en.take (kk + 1)) := ⟨_, rfl⟩
      rw [← hN] at HBL
      have hNA : N = l.br + A + if br = true then 1 else 0 := by rw [hN, HCN.out]; simp only []; omega
      have HN := Lib.hid hN
      clear hN
      cases br
      · simp only [Bool.false_eq_true, if_false, Int.add_zero] at hNA
        have HNA := Lib.hid hNA
        clear hNA
        go_wp2_with (at_builtin; refine wpList_push rfl _ _ 28 rfl slI rfl rfl (l.br + A) rfl rfl rfl HO2.out (by simp) hpl hbc ?_; intro v6 w6 ho6 hb6; have HO6 := Lib.hid ho6; have HB6 := Lib.hid hb6; clear ho6 hb6 hpl hbc)
        go_roundg (l.en.length - (kk + 1))
        case measure => omega
        case rel => exact ⟨kk + 1, by omega, by omega, by go_num, by rw [← HN.out, HNA.out], (show Aside _ from by rw [HBL.out, HNA.out]; exact HO6.out), HBN.out.trans HB6.out⟩
      · simp only [if_true] at hNA
        have HNA := Lib.hid hNA
        clear hNA
        go_wp2_with (at_builtin; refine wpList_push rfl _ _ 28 rfl slI rfl rfl (l.br + A + 1) rfl rfl rfl HO2.out (by simp) hpl hbc ?_; intro v6 w6 ho6 hb6; have HO6 := Lib.hid ho6; have HB6 := Lib.hid hb6; clear ho6 hb6 hpl hbc)
        go_roundg (l.en.length - (kk + 1))
        case measure => omega
        case rel => exact ⟨kk + 1, by omega, by omega, by go_num, by rw [← HN.out, HNA.out], (show Aside _ from by rw [HBL.out, HNA.out]; exact HO6.out), HBN.out.trans HB6.out⟩
    · obtain rfl : kk = l.en.length := by omega
      have hltz : ¬ (l.en.length : Int) < (l.en.length : Int) := by omega
      have ho := AO.out
      rw [show (bnL l.br l.en).take l.en.length = bnL l.br l.en from by rw [← bnL_len l.br l.en]; exact List.take_length] at ho
      have HO := Lib.hid ho
      clear AO BW ho
      go_wp2_with fail
      go_ret
      exact ⟨_, rfl, HO.out.sl encI_len, HB3.out⟩

theorem eqS_self (l : List ByteArray) : eqS l l = true := by simp [eqS]
set_option maxRecDepth 100000 in
set_option maxHeartbeats 4000000 in
/-- Of an entry and itself. -/
theorem sameE_any (w : World) (x : Ent) (u v : Value) (hu : Sl w 1 encS u x.ex) (hv : Sl w 1 encS v x.ex) :
    Calls Tryz.prog 44 #[aggE x u, aggE x v] w fun e w' => e = .returned (.bool true) ∧ Below w.heap.size w w' := by
  obtain ⟨w2, hw2⟩ : ∃ w2, w2 = (w.alloc (litE x u)).alloc (litE x v) := ⟨_, rfl⟩
  have HB2 : Hid (Below w.heap.size w w2) := Lib.hid (by rw [hw2]; exact ((Below.refl _ w).alloc (Nat.le_refl _) _).alloc (by simp) _)
  have hk0 : BkE w2 w.heap.size x u := by
    have h1 := BkE.new w x u
    rw [hw2]
    exact h1.below ((Below.refl _ _).alloc (Nat.le_refl _) _) h1.lt
  have hk1 : BkE w2 (w.heap.size + 1) x v := by
    have e : w.heap.size + 1 = (w.alloc (litE x u)).heap.size := by simp
    rw [hw2, e]
    exact BkE.new _ _ _
  have heq := equalS_any w2 x.ex x.ex u v (hu.below HB2.out (Nat.le_refl _)) (hv.below HB2.out (Nat.le_refl _))
  rw [eqS_self] at heq
  have HEQ := Lib.hid heq
  obtain ⟨ao, cap, rfl, -, -, -, -⟩ := hu
  obtain ⟨bo, bap, rfl, -, -, -, -⟩ := hv
  obtain ⟨b0, b1, b2, b3, b4, b5, b6⟩ := hk0.cells
  obtain ⟨c0, c1, c2, c3, c4, c5, c6⟩ := hk1.cells
  have HW2 := Lib.hid hw2
  clear hw2 hk0 hk1 heq
  obtain ⟨ur, mi, br, da, ke, ga, ex⟩ := x
  go_enter Tryz.func44, Tryz.ntmps44
  go_upto_region 1 with (fail)
  rw [← HW2.out]
  clear HW2
  go_wp2_with (go_at_call 73; (with_reducible refine HEQ.out.mono ?_); rintro e w3 ⟨rfl, hb3⟩; have HB3 := Lib.hid hb3; clear hb3)
  go_ret
  exact ⟨by simp, HB2.out.thru HB3.out⟩
end Go.Proofs.YtehbmnkbmgnkfaaGreatDoor

/- A slice that the call has built: its form, its block. -/
import Derived.Test.YtehbmnkbmgnkfaaGreatDoorB02
import Derived.Test.YtehbmnkbmgnkfaaGreatDoorB27
namespace Go.Proofs.YtehbmnkbmgnkfaaGreatDoor
open Go.RowKit

theorem Own.rebase {α : Type} {w : World} {base b2 : Nat} {E : TypeId} {k : Nat} {enc : α → List Value} {v : Value} {l : List α} (h : Own w base E k enc v l) (hb : b2 ≤ base) : Own w b2 E k enc v l := by
  obtain ⟨q1, q2⟩ := h
  refine ⟨q1, ?_⟩
  rcases q2 with q2 | ⟨g, cap, cur, e1, e2, r⟩
  · exact Or.inl q2
  · exact Or.inr ⟨g, cap, cur, e1, Nat.le_trans hb e2, r⟩
theorem Own.slw {α : Type} {w : World} {base : Nat} {E : TypeId} {k : Nat} {enc : α → List Value} {v : Value} {l : List α} (h : Own w base E k enc v l) : (v = .slice none 0 0 ∧ l = []) ∨ ∃ g cap, v = .slice (some ⟨g, 0, none⟩) l.length cap := by
  obtain ⟨q1, q2⟩ := h
  rcases q2 with ⟨q2, q3⟩ | ⟨g, cap, cur, e1, r⟩
  · exact Or.inl ⟨q2, List.length_eq_zero_iff.1 q3⟩
  · exact Or.inr ⟨g, cap, e1⟩
/-- The elements of a slice that the call has built, in one block. -/
theorem own_parts {α : Type} {w : World} {base : Nat} {E : TypeId} {k : Nat} {enc : α → List Value} {v : Value} {l : List α} (hk : ∀ x, (enc x).length = k) (h : Own w base E k enc v l) :
    ∃ ao cap P, v = .slice ao l.length cap ∧ l.length ≤ cap ∧ cap ≤ maxLen ∧ base ≤ P ∧ ∀ i x, l[i]? = some x → ao = some ⟨P, 0, none⟩ ∧ P < w.heap.size ∧ ∀ j u, (enc x)[j]? = some u → w.cell? ⟨P, i * k + j, none⟩ = some u := by
  by_cases hne : l = []
  · subst hne
    rcases Own.slw h with ⟨rfl, _⟩ | ⟨g, cap, rfl⟩
    · exact ⟨none, 0, base, rfl, by simp, by simp [maxLen], Nat.le_refl _, fun i x hx => by simp at hx⟩
    · obtain ⟨h1, h2⟩ := h
      rcases h2 with ⟨h2, _⟩ | ⟨g', cap', cur, hv, hg, hh, hn, hm, _⟩
      · cases h2
      · simp only [Value.slice.injEq, Option.some.injEq, Addr.mk.injEq, and_true, true_and] at hv
        obtain ⟨rfl, rfl⟩ := hv
        exact ⟨_, cap, g, rfl, hn, hm, hg, fun i x hx => by simp at hx⟩
  · obtain ⟨g, cap, rfl, h1, h2, h3, h4, h5, _⟩ := Own.getk hk h hne
    exact ⟨_, cap, g, rfl, h3, h4, h1, fun i x hx => ⟨rfl, h2, fun j u hu => h5 i x j u hx hu⟩⟩
end Go.Proofs.YtehbmnkbmgnkfaaGreatDoor

/- Copies of entries and lists; length; breakNumbers. -/
namespace Go.Proofs.YtehbmnkbmgnkfaaGreatDoor
open Go.RowKit

theorem Own.keepTe {α : Type} {w w' : World} {base : Nat} {E E' : TypeId} {k : Nat} {enc : α → List Value} {v : Value} {l : List α} (h : Own w base E k enc v l) (hk : KeepT E' w w') (hne : E ≠ E') : Own w' base E k enc v l := by
  obtain ⟨q1, q2⟩ := h
  refine ⟨q1, ?_⟩
  rcases q2 with q2 | ⟨g, cap, cur, e1, e2, e3, r⟩
  · exact Or.inl q2
  · exact Or.inr ⟨g, cap, cur, e1, e2, hk _ _ _ _ e3 hne, r⟩
theorem Own.setLo {α : Type} {w : World} {base : Nat} {E : TypeId} {k : Nat} {enc : α → List Value} {v : Value} {l : List α} (h : Own w base E k enc v l) {b i : Nat} (hb : b < base) (u : Value) : Own (w.setCell ⟨b, i, none⟩ u) base E k enc v l := ownsRow_setCell_below h hb u
/-- A block that holds an entry; a list. -/
def BkE (w : World) (g : Nat) (x : Ent) (v : Value) : Prop := w.heap[g]? = some (.cells #[.string x.ur, .int .i64 x.mi, .bool x.br, .int .i64 x.da, .string x.ke, .bool x.ga, v] 47 (0, 0))
def BkLs (w : World) (g : Nat) (l : Lst) (v : Value) : Prop := w.heap[g]? = some (.cells #[.int .i64 l.ta, .int .i64 l.fi, .int .i64 l.br, v, .bool l.ed] 24 (0, 0))
theorem BkE.below {w w' : World} {g B : Nat} {x : Ent} {v : Value} (h : BkE w g x v) (hb : Below B w w') (hB : g < B) : BkE w' g x v := (hb.block g hB).trans h
theorem BkLs.below {w w' : World} {g B : Nat} {x : Lst} {v : Value} (h : BkLs w g x v) (hb : Below B w w') (hB : g < B) : BkLs w' g x v := (hb.block g hB).trans h
theorem BkE.cells {w : World} {g : Nat} {x : Ent} {v : Value} (h : BkE w g x v) : w.cell? ⟨g, 0, none⟩ = some (.string x.ur) ∧ w.cell? ⟨g, 1, none⟩ = some (.int .i64 x.mi) ∧ w.cell? ⟨g, 2, none⟩ = some (.bool x.br) ∧ w.cell? ⟨g, 3, none⟩ = some (.int .i64 x.da) ∧ w.cell? ⟨g, 4, none⟩ = some (.string x.ke) ∧ w.cell? ⟨g, 5, none⟩ = some (.bool x.ga) ∧ w.cell? ⟨g, 6, none⟩ = some v :=
  ⟨(cell_of_block (i := 0) h).trans rfl, (cell_of_block (i := 1) h).trans rfl, (cell_of_block (i := 2) h).trans rfl, (cell_of_block (i := 3) h).trans rfl, (cell_of_block (i := 4) h).trans rfl, (cell_of_block (i := 5) h).trans rfl, (cell_of_block (i := 6) h).trans rfl⟩
theorem BkLs.cells {w : World} {g : Nat} {x : Lst} {v : Value} (h : BkLs w g x v) : w.cell? ⟨g, 0, none⟩ = some (.int .i64 x.ta) ∧ w.cell? ⟨g, 1, none⟩ = some (.int .i64 x.fi) ∧ w.cell? ⟨g, 2, none⟩ = some (.int .i64 x.br) ∧ w.cell? ⟨g, 3, none⟩ = some v ∧ w.cell? ⟨g, 4, none⟩ = some (.bool x.ed) :=
  ⟨(cell_of_block (i := 0) h).trans rfl, (cell_of_block (i := 1) h).trans rfl, (cell_of_block (i := 2) h).trans rfl, (cell_of_block (i := 3) h).trans rfl, (cell_of_block (i := 4) h).trans rfl⟩
theorem BkE.frz {w : World} {g : Nat} {x : Ent} {v : Value} (h : BkE w g x v) (i : Nat) : w.frozen? ⟨g, i, none⟩ = false := froz_of_blk h
theorem BkLs.frz {w : World} {g : Nat} {x : Lst} {v : Value} (h : BkLs w g x v) (i : Nat) : w.frozen? ⟨g, i, none⟩ = false := froz_of_blk h
theorem BkE.new (w : World) (x : Ent) (v : Value) : BkE (w.alloc (litE x v)) w.heap.size x v := block_new w _
theorem BkLs.new (w : World) (x : Lst) (v : Value) : BkLs (w.alloc (litL x v)) w.heap.size x v := block_new w _
theorem BkE.lt {w : World} {g : Nat} {x : Ent} {v : Value} (h : BkE w g x v) : g < w.heap.size := lt_of_blk h
theorem BkLs.lt {w : World} {g : Nat} {x : Lst} {v : Value} (h : BkLs w g x v) : g < w.heap.size := lt_of_blk h
instance : Inhabited Lst := ⟨⟨0, 0, 0, [], false⟩⟩
abbrev set5 (w : World) (g : Nat) (a b c d e : Value) : World := ((((w.setCell ⟨g, 0, none⟩ a).setCell ⟨g, 1, none⟩ b).setCell ⟨g, 2, none⟩ c).setCell ⟨g, 3, none⟩ d).setCell ⟨g, 4, none⟩ e
abbrev set7 (w : World) (g : Nat) (a b c d e f h : Value) : World := (((((((w.setCell ⟨g, 0, none⟩ a).setCell ⟨g, 1, none⟩ b).setCell ⟨g, 2, none⟩ c).setCell ⟨g, 3, none⟩ d).setCell ⟨g, 4, none⟩ e).setCell ⟨g, 5, none⟩ f).setCell ⟨g, 6, none⟩ h)
theorem BkLs.set3 {w : World} {g : Nat} {x : Lst} {v : Value} (h : BkLs w g x v) (u : Value) : BkLs (w.setCell ⟨g, 3, none⟩ u) g x u := (heap_setCell_same w g 3 _ _ u h).trans rfl
/-- Entries that a call owns, with their further lines. -/
def EnO (w : World) (base : Nat) (v : Value) (l : List Ent) : Prop := ∃ q : List EnV, Own w base 47 7 encEn v q ∧ q.map Prod.fst = l ∧ ∀ p, p ∈ q → Own w base 9 1 encS p.2 p.1.ex
theorem EnO.ens {w : World} {base : Nat} {v : Value} {l : List Ent} (h : EnO w base v l) : EnS w v l := by
  obtain ⟨q, h1, h2, h3⟩ := h
  exact ⟨q, h1.sl encEn_len, h2, fun p hp => (h3 p hp).sl encS_len⟩
theorem EnO.slv {w : World} {base : Nat} {v : Value} {l : List Ent} (h : EnO w base v l) : ∃ ao n cap, v = .slice ao n cap := by
  obtain ⟨q, h1, _⟩ := h
  exact h1.slv encEn_len
theorem EnO.nil {w : World} {base : Nat} : EnO w base (.slice none 0 0) [] := ⟨[], Own.nil, rfl, fun p hp => by cases hp⟩
theorem EnO.below {w w' : World} {base : Nat} {v : Value} {l : List Ent} (h : EnO w base v l) (hb : Below w.heap.size w w') : EnO w' base v l := by
  obtain ⟨q, h1, h2, h3⟩ := h
  exact ⟨q, h1.below hb (Nat.le_refl _), h2, fun p hp => (h3 p hp).below hb (Nat.le_refl _)⟩
theorem EnO.setLo {w : World} {base : Nat} {v : Value} {l : List Ent} (h : EnO w base v l) {b i : Nat} (hb : b < base) (u : Value) : EnO (w.setCell ⟨b, i, none⟩ u) base v l := by
  obtain ⟨q, h1, h2, h3⟩ := h
  exact ⟨q, h1.setLo hb u, h2, fun p hp => (h3 p hp).setLo hb u⟩
theorem EnO.set5 {w : World} {base : Nat} {v : Value} {l : List Ent} (h : EnO w base v l) {g : Nat} (hb : g < base) (a b c d e : Value) : EnO (set5 w g a b c d e) base v l :=
  ((((h.setLo hb a).setLo hb b).setLo hb c).setLo hb d).setLo hb e
theorem below_set5 {B g : Nat} {w w' : World} (h : Below B w w') (hB : B ≤ g) (a b c d e : Value) : Below B w (set5 w' g a b c d e) :=
  ((((h.setCell (p := ⟨g, 0, none⟩) hB _).setCell (p := ⟨g, 1, none⟩) hB _).setCell (p := ⟨g, 2, none⟩) hB _).setCell (p := ⟨g, 3, none⟩) hB _).setCell (p := ⟨g, 4, none⟩) hB _
theorem below_set7 {B g : Nat} {w w' : World} (h : Below B w w') (hB : B ≤ g) (a b c d e f i : Value) : Below B w (set7 w' g a b c d e f i) :=
  ((((((h.setCell (p := ⟨g, 0, none⟩) hB _).setCell (p := ⟨g, 1, none⟩) hB _).setCell (p := ⟨g, 2, none⟩) hB _).setCell (p := ⟨g, 3, none⟩) hB _).setCell (p := ⟨g, 4, none⟩) hB _).setCell (p := ⟨g, 5, none⟩) hB _).setCell (p := ⟨g, 6, none⟩) hB _
theorem Own.set7 {α : Type} {w : World} {base : Nat} {E : TypeId} {k : Nat} {enc : α → List Value} {v : Value} {l : List α} (ho : Own w base E k enc v l) {g : Nat} (hb : g < base) (a b c d e f h : Value) : Own (set7 w g a b c d e f h) base E k enc v l :=
  ((((((ho.setLo hb a).setLo hb b).setLo hb c).setLo hb d).setLo hb e).setLo hb f).setLo hb h
theorem EnO.rebase {w : World} {base b2 : Nat} {v : Value} {l : List Ent} (h : EnO w base v l) (hb : b2 ≤ base) : EnO w b2 v l := by
  obtain ⟨q, h1, h2, h3⟩ := h
  exact ⟨q, h1.rebase hb, h2, fun p hp => (h3 p hp).rebase hb⟩

theorem cloneS_any (w : World) (l : List ByteArray) (v : Value) (hl : Sl w 1 encS v l) (hb : l.length * 16 ≤ 140737488355328) :
    Calls Tryz.prog 59 #[v] w (OwnRet w 9 1 encS l) := by
  have hl0 := Lib.hid hl
  obtain ⟨ao, cap, rfl, hcap, hmax, hnil, hel⟩ := hl
  unfold maxLen at hmax
  have hn := fun w => Lib.run_eql_slice_nil (P := Tryz.prog) w 45 9 ao l.length cap 0 0 Tryz.underlying45
  cases ao with
  | none =>
    obtain rfl : cap = 0 := hnil rfl
    obtain rfl : l = [] := List.length_eq_zero_iff.1 (by omega)
    clear hel hnil hn
    have hn := fun w => Lib.run_eql_slice_nil (P := Tryz.prog) w 45 9 none 0 0 0 0 Tryz.underlying45
    go_enter Tryz.func59, Tryz.ntmps59
    go_wp2
    go_ret
    exact OwnRet.mk Own.nil (Below.refl _ _)
  | some ad =>
    clear hel hnil
    have ho := Lib.hid (show Own (w.alloc (.cells #[] 9)) w.heap.size 9 1 encS (.slice (some ⟨w.heap.size, 0, none⟩) 0 0) [] from World.ownsRow_lit w #[] 0 (Nat.le_refl _) (by simp [maxLen]) rfl)
    go_enter Tryz.func59, Tryz.ntmps59
    go_wp2_with (at_builtin; refine wpList_extendG rfl _ _ 45 rfl slS encS_len (fun _ => rfl) rfl rfl ho.out (hl0.out.below ((Below.refl _ _).alloc (Nat.le_refl _) _) (Nat.le_refl _)) (by simpa using hb) (by simp) ?_; intro v' w1 ho1 hb1; have HO := Lib.hid ho1; have HB := Lib.hid hb1; clear ho1 hb1)
    go_ret
    exact OwnRet.mk (by simpa using HO.out) (((Below.refl _ _).alloc (Nat.le_refl _) _).trans HB.out)

set_option maxRecDepth 100000 in
set_option maxHeartbeats 4000000 in
theorem copyEntry_any (w : World) (x : Ent) (xv : Value) (hx : Sl w 1 encS xv x.ex) (hw : x.ex.length ≤ 1048576) :
    Calls Tryz.prog 33 #[aggE x xv] w fun e w' => ∃ v', e = .returned (aggE x v') ∧ Own w' w.heap.size 9 1 encS v' x.ex ∧ Below w.heap.size w w' := by
  obtain ⟨w2, hw2⟩ : ∃ w2, w2 = (w.alloc (litE x xv)).alloc (.cells #[.string ⟨#[]⟩, .int .i64 0, .bool false, .int .i64 0, .string ⟨#[]⟩, .bool false, .slice none 0 0] 47) := ⟨_, rfl⟩
  have hs2 : w2.heap.size = w.heap.size + 2 := by rw [hw2]; simp
  have HB2 : Hid (Below w.heap.size w w2) := Lib.hid (by rw [hw2]; exact ((Below.refl _ w).alloc (Nat.le_refl _) _).alloc (by simp) _)
  have hk0 : BkE w2 w.heap.size x xv := by
    have h1 := BkE.new w x xv
    rw [hw2]
    exact h1.below ((Below.refl _ _).alloc (Nat.le_refl _) _) h1.lt
  have hk1 : BkE w2 (w.heap.size + 1) default (.slice none 0 0) := by
    have e : w.heap.size + 1 = (w.alloc (litE x xv)).heap.size := by simp
    rw [hw2, e]
    exact BkE.new _ default _
  have HC := Lib.hid (cloneS_any w2 x.ex xv (hx.below HB2.out (Nat.le_refl _)) (by omega))
  have HK0 := Lib.hid hk0
  have HK1 := Lib.hid hk1
  have HW2 := Lib.hid hw2
  have HS2 := Lib.hid hs2
  obtain ⟨b0, b1, b2, b3, b4, b5, b6⟩ := hk0.cells
  obtain ⟨ao, cap, rfl, -, -, -, -⟩ := hx
  clear hw2 hk0 hk1 hs2
  go_enter Tryz.func33, Tryz.ntmps33
  go_upto_region 1 with (fail)
  rw [← HW2.out]
  clear HW2
  go_wp2_with (go_at_call 59; (with_reducible refine HC.out.mono ?_); rintro e w3 ⟨v3, rfl, ho3, hb3⟩; have HO3 := Lib.hid ho3; have HB3 := Lib.hid hb3; clear b0 b1 b2 b3 b4 b5 b6; obtain ⟨b0, b1, b2, b3, b4, b5, b6⟩ := (HK0.out.below hb3 (by have := HS2.out; omega)).cells; have f6 := (HK0.out.below hb3 (by have := HS2.out; omega)).frz 6; obtain ⟨z0, z1, z2, z3, z4, z5, z6⟩ := (HK1.out.below hb3 (by have := HS2.out; omega)).cells; have g0 := (HK1.out.below hb3 (by have := HS2.out; omega)).frz 0; have g1 := (HK1.out.below hb3 (by have := HS2.out; omega)).frz 1; have g2 := (HK1.out.below hb3 (by have := HS2.out; omega)).frz 2; have g3 := (HK1.out.below hb3 (by have := HS2.out; omega)).frz 3; have g4 := (HK1.out.below hb3 (by have := HS2.out; omega)).frz 4; have g5 := (HK1.out.below hb3 (by have := HS2.out; omega)).frz 5; have g6 := (HK1.out.below hb3 (by have := HS2.out; omega)).frz 6; clear ho3 hb3; obtain ⟨ao3, n3, cap3, rfl⟩ := HO3.out.slv encS_len)
  go_upto_region 2 with (fail)
  repeat (first | go_values | go_skip | go_guarded | go_step | go_upon)
  refine bodyPost_ret (v := aggE x (.slice ao3 n3 cap3)) (by simp [results, Tryz.results33, go_sem, z0, z1, z2, z3, z4, z5, z6]) rfl ⟨_, rfl, ?_, ?_⟩
  · have h := HS2.out
    exact ((HO3.out.setLo (by omega) _).set7 (by omega) _ _ _ _ _ _ _).rebase (by omega)
  · have h := HS2.out
    exact below_set7 (((HB2.out.trans (HB3.out.mono (by omega))).setCell (p := ⟨w.heap.size, 6, none⟩) (Nat.le_refl _) _)) (Nat.le_succ _) _ _ _ _ _ _ _

/-- What copyList leaves. -/
def CpyP (w : World) (l : Lst) : Ending → World → Prop := fun e w' => ∃ v', e = .returned (agLs l v') ∧ EnO w' w.heap.size v' l.en ∧ Below w.heap.size w w'
set_option maxRecDepth 100000 in
set_option maxHeartbeats 4000000 in
theorem copyList_any (w : World) (l : Lst) (v : Value) (hl : EnS w v l.en) (hw : WfLs l) :
    Calls Tryz.prog 32 #[agLs l v] w (CpyP w l) := by
  have HW := Lib.hid hw
  obtain ⟨w2, hw2⟩ : ∃ w2, w2 = (w.alloc (litL l v)).alloc (.cells #[.int .i64 0, .int .i64 0, .int .i64 0, .slice none 0 0, .bool false] 24) := ⟨_, rfl⟩
  have hs2 : w2.heap.size = w.heap.size + 2 := by rw [hw2]; simp
  have HB2 : Hid (Below w.heap.size w w2) := Lib.hid (by rw [hw2]; exact ((Below.refl _ w).alloc (Nat.le_refl _) _).alloc (by simp) _)
  have hk0 : BkLs w2 w.heap.size l v := by
    have h1 := BkLs.new w l v
    rw [hw2]
    exact h1.below ((Below.refl _ _).alloc (Nat.le_refl _) _) h1.lt
  have hk1 : BkLs w2 (w.heap.size + 1) default (.slice none 0 0) := by
    have e : w.heap.size + 1 = (w.alloc (litL l v)).heap.size := by simp
    rw [hw2, e]
    exact BkLs.new _ default _
  have HK0 := Lib.hid hk0
  have HK1 := Lib.hid hk1
  have HW2 := Lib.hid hw2
  have HS2 := Lib.hid hs2
  obtain ⟨ao, cap, rfl, hcap, hmax, hnil, hel⟩ := hl.op
  have hln := hw.ln
  have HEL := Lib.hid hel
  unfold maxLen at hmax
  obtain ⟨b0, b1, b2, b3, b4⟩ := hk0.cells
  clear hw2 hk0 hk1 hs2 hel hnil hl hw
  go_enter Tryz.func32, Tryz.ntmps32
  go_upto_region 1 with (fail)
  rw [← HW2.out]
  clear HW2
  go_wp2_with fail
  clear b0 b1 b2 b3 b4
  go_loopg [3, 9] l.en.length (fun gg s3 s9 wr => ∃ kk : Nat, kk ≤ l.en.length ∧ l.en.length - kk ≤ gg ∧ s9 = .int .i64 kk ∧ Aside (EnO wr w2.heap.size s3 (l.en.take kk)) ∧ Aside (Below w2.heap.size w2 wr))
  case atStart => exact ⟨0, Nat.zero_le _, by omega, by go_num, EnO.nil, Below.refl _ _⟩
  case round =>
    obtain ⟨kk, hkk, hg, rfl, AE, BW⟩ := hrel
    obtain ⟨oa, on, oc, hov⟩ := AE.out.slv
    subst hov
    have HBW := Lib.hid BW.out
    have HB3 := Lib.hid (HB2.out.thru BW.out)
    by_cases hlt : kk < l.en.length
    · have hltz : (kk : Int) < (l.en.length : Int) := by omega
      obtain ⟨x, hx⟩ : ∃ x, l.en[kk]? = some x := ⟨l.en[kk], by simp [hlt]⟩
      obtain ⟨b, off, xv, rfl, hce, hxs⟩ := HEL.out kk x hx
      obtain ⟨xa, xc, hxv, -, -, -, -⟩ := id hxs
      subst hxv
      obtain ⟨c0, c1, c2, c3, c4, c5, c6⟩ := hce.below HB3.out
      have HB4 := Lib.hid (HB3.out.alloc HB3.out.size (litE x (.slice xa x.ex.length xc)))
      have HBN : Hid (Below w2.heap.size w2 (wr.alloc (litE x (.slice xa x.ex.length xc)))) := Lib.hid (HBW.out.alloc HBW.out.size _)
      have HC := Lib.hid (copyEntry_any (wr.alloc (litE x (.slice xa x.ex.length xc))) x (.slice xa x.ex.length xc) (hxs.below HB4.out (Nat.le_refl _)) (HW.out.en x (List.mem_of_getElem? hx)).ex)
      have HTN := Lib.hid (take_next hx)
      have HA := Lib.hid (AE.out.below ((Below.refl _ wr).alloc (Nat.le_refl _) (litE x (.slice xa x.ex.length xc))))
      have HSZ : Hid (w2.heap.size ≤ wr.heap.size) := Lib.hid BW.out.size
      clear hx hce hxs AE BW
      go_wp2_with fail
      refine HC.out.mono ?_
      rintro e w5 ⟨xv5, rfl, ho5, hb5⟩
      have HO5 := Lib.hid ho5
      have HB5 := Lib.hid hb5
      have HA5 := Lib.hid (HA.out.below hb5)
      clear ho5 hb5
      obtain ⟨xa5, xn5, xc5, rfl⟩ := HO5.out.slv encS_len
      obtain ⟨q, hq1, hq2, hq3⟩ := HA5.out
      have HQ1 := Lib.hid hq1
      have HQ2 := Lib.hid hq2
      have HQ3 := Lib.hid hq3
      have hqn : q.length = kk := by
        have := congrArg List.length hq2
        simp at this; omega
      have HQN := Lib.hid hqn
      have hpl : (q.length + 1) * 88 ≤ 140737488355328 := by omega
      have hbl : w2.heap.size ≤ w5.heap.size := by
        have h1 := HSZ.out
        have h2 := HB5.out.size
        simp at h2
        omega
      clear hq1 hq2 hq3 hqn
      go_wp2_with (at_builtin; refine wpList_pushK rfl _ _ 22 rfl slEn rfl rfl (x, .slice xa5 xn5 xc5) rfl rfl rfl HQ1.out rfl hpl hbl ?_; intro v6 w6 ho6 hb6 hk6; have HO6 := Lib.hid ho6; have HB6 := Lib.hid hb6; have HK6 := Lib.hid hk6; clear ho6 hb6 hk6 hpl hbl)
      go_roundg (l.en.length - (kk + 1))
      case measure => omega
      case rel =>
        refine ⟨kk + 1, by omega, by omega, by go_num, (show Aside _ from ⟨q ++ [(x, .slice xa5 xn5 xc5)], HO6.out, ?_, fun p hp => ?_⟩), (show Aside _ from (HBN.out.trans (HB5.out.mono HBN.out.size)).trans HB6.out)⟩
        · rw [HTN.out, List.map_append, HQ2.out]; rfl
        · rcases List.mem_append.1 hp with hp | hp
          · exact (HQ3.out p hp).keepTe HK6.out (by decide)
          · rw [List.mem_singleton] at hp
            rw [hp]
            exact (HO5.out.keepTe HK6.out (by decide)).rebase (Nat.le_trans HSZ.out (by simp))
    · obtain rfl : kk = l.en.length := by omega
      have hltz : ¬ (l.en.length : Int) < (l.en.length : Int) := by omega
      obtain ⟨q, hq1, hq2, hq3⟩ := AE.out
      rw [List.take_length] at hq2
      have HA : Hid (EnO wr w2.heap.size (.slice oa on oc) l.en) := Lib.hid ⟨q, hq1, hq2, hq3⟩
      have hk0 := HK0.out.below HBW.out (by have := HS2.out; omega)
      have hk1 := HK1.out.below HBW.out (by have := HS2.out; omega)
      obtain ⟨b0, b1, b2, b3, b4⟩ := hk0.cells
      have f3 := hk0.frz 3
      obtain ⟨z0, z1, z2, z3, z4⟩ := hk1.cells
      have g0 := hk1.frz 0
      have g1 := hk1.frz 1
      have g2 := hk1.frz 2
      have g3 := hk1.frz 3
      have g4 := hk1.frz 4
      clear hk0 hk1 hq1 hq2 hq3 AE BW
      go_upto_region 8 with (fail)
      repeat (first | go_values | go_skip | go_guarded | go_step | go_upon)
      refine bodyPost_ret (v := agLs l (.slice oa on oc)) (by simp [results, Tryz.results32, go_sem, z0, z1, z2, z3, z4]) rfl ⟨_, rfl, ?_, ?_⟩
      · have h := HS2.out
        exact ((HA.out.setLo (by omega) _).set5 (by omega) _ _ _ _ _).rebase (by omega)
      · exact below_set5 (HB3.out.setCell (p := ⟨w.heap.size, 3, none⟩) (Nat.le_refl _) _) (Nat.le_succ _) _ _ _ _ _
end Go.Proofs.YtehbmnkbmgnkfaaGreatDoor

/- How playlists follow one another (plain). -/
namespace Go.Proofs.YtehbmnkbmgnkfaaGreatDoor
open Go.RowKit

/-- How many entries begin a break. -/
def cntB : List Ent → Int
  | [] => 0
  | x :: r => (if x.br = true then 1 else 0) + cntB r
theorem cntB_app (l m : List Ent) : cntB (l ++ m) = cntB l + cntB m := by
  induction l with
  | nil => simp [cntB]
  | cons x r ih => simp only [List.cons_append, cntB, ih]; omega
theorem cntB_bd (l : List Ent) : 0 ≤ cntB l ∧ cntB l ≤ l.length := by
  induction l with
  | nil => simp [cntB]
  | cons x r ih => simp only [cntB, List.length_cons]; split <;> omega
theorem cntB_next {l : List Ent} {k : Nat} {x : Ent} (hx : l[k]? = some x) : cntB (l.take (k + 1)) = cntB (l.take k) + if x.br = true then 1 else 0 := by
  rw [take_next hx, cntB_app]
  simp [cntB]
/-- How long entries are. -/
def lenE : List Ent → Int
  | [] => 0
  | x :: r => x.mi + lenE r
theorem lenE_app (l m : List Ent) : lenE (l ++ m) = lenE l + lenE m := by
  induction l with
  | nil => simp [lenE]
  | cons x r ih => simp only [List.cons_append, lenE, ih]; omega
theorem lenE_next {l : List Ent} {k : Nat} {x : Ent} (hx : l[k]? = some x) : lenE (l.take (k + 1)) = lenE (l.take k) + x.mi := by
  rw [take_next hx, lenE_app]
  simp [lenE]
theorem lenE_drop {l : List Ent} {k : Nat} {x : Ent} (hx : l[k]? = some x) : lenE (l.drop k) = x.mi + lenE (l.drop (k + 1)) := by
  rw [drop_next hx]; rfl
theorem lenE_bd {l : List Ent} (h : ∀ x, x ∈ l → GdE x) : 0 ≤ lenE l ∧ lenE l ≤ 3600000 * l.length := by
  induction l with
  | nil => simp [lenE]
  | cons x r ih =>
    have h1 := (h x (List.mem_cons_self ..)).mi
    have h2 := ih fun y hy => h y (List.mem_cons_of_mem _ hy)
    simp only [lenE, List.length_cons]
    omega
/-- b is what a has become. -/
def Fol (a b : Lst) : Prop := b.ta = a.ta ∧ (a.ed = true → b = a) ∧ ∃ (S : List Ent) (g : Nat), g ≤ (a.en ++ S).length ∧ b.en = (a.en ++ S).drop g ∧ b.fi = a.fi + g ∧ b.br = a.br + cntB ((a.en ++ S).take g)
theorem Fol.refl (a : Lst) : Fol a a := ⟨rfl, fun _ => rfl, [], 0, Nat.zero_le _, by simp, by simp, by simp [cntB]⟩
theorem Fol.trans {a b c : Lst} (h : Fol a b) (k : Fol b c) : Fol a c := by
  obtain ⟨h1, h2, S, g, h3, h4, h5, h6⟩ := h
  obtain ⟨k1, k2, T, m, k3, k4, k5, k6⟩ := k
  have e1 : b.en ++ T = (a.en ++ (S ++ T)).drop g := by
    rw [h4, ← List.append_assoc, List.drop_append_of_le_length h3]
  have e2 : (a.en ++ S).take g = (a.en ++ (S ++ T)).take g := by
    rw [← List.append_assoc, List.take_append_of_le_length h3]
  refine ⟨k1.trans h1, fun e => ?_, S ++ T, g + m, ?_, ?_, ?_, ?_⟩
  · have e3 := h2 e
    rw [k2 (by rw [e3]; exact e), e3]
  · rw [e1, List.length_drop] at k3
    rw [List.length_append] at h3
    simp only [List.length_append] at k3 ⊢
    omega
  · rw [k4, e1, List.drop_drop]
  · rw [k5, h5]; simp; omega
  · rw [k6, h6, e1, e2, List.take_add, cntB_app]; omega
/-- The numbers of breaks of entries. -/
def bnL (br : Int) (l : List Ent) : List Int := (List.range l.length).map fun i => br + cntB (l.take (i + 1))
theorem bnL_len (br : Int) (l : List Ent) : (bnL br l).length = l.length := by simp [bnL]
theorem bnL_get {br : Int} {l : List Ent} {i : Nat} (h : i < l.length) : (bnL br l)[i]? = some (br + cntB (l.take (i + 1))) := by simp [bnL, h]
theorem bnL_next {br : Int} {l : List Ent} {i : Nat} (h : i < l.length) : (bnL br l).take (i + 1) = (bnL br l).take i ++ [br + cntB (l.take (i + 1))] := take_next (bnL_get h)
/-- What Follows asks for. -/
structure FolF (a b : Lst) (g : Nat) : Prop where
  fi : b.fi = a.fi + g
  le : a.en.length ≤ g + b.en.length
  en : ∀ t, g + t < a.en.length → b.en[t]? = a.en[g + t]? ∧ a.br + cntB (a.en.take (g + t + 1)) = b.br + cntB (b.en.take (t + 1))
  la : a.en.length ≤ g → a.br + cntB a.en ≤ b.br
theorem Fol.facts {a b : Lst} (h : Fol a b) : ∃ g, FolF a b g := by
  obtain ⟨_, _, S, g, h3, h4, h5, h6⟩ := h
  have hl : b.en.length = a.en.length + S.length - g := by rw [h4, List.length_drop, List.length_append]
  rw [List.length_append] at h3
  refine ⟨g, h5, by omega, fun t ht => ⟨?_, ?_⟩, fun hg => ?_⟩
  · rw [h4, List.getElem?_drop, List.getElem?_append_left ht]
  · rw [h6, h4]
    have e : (a.en ++ S).take (g + (t + 1)) = a.en.take (g + t + 1) := by
      rw [← Nat.add_assoc, List.take_append_of_le_length (by omega)]
    rw [← e, List.take_add, cntB_app]
    omega
  · rw [h6]
    have e : (a.en ++ S).take g = a.en ++ S.take (g - a.en.length) := by
      rw [List.take_append, List.take_of_length_le hg]
    rw [e, cntB_app]
    have := (cntB_bd (S.take (g - a.en.length))).1
    omega
theorem fol_add (l : Lst) (x : Ent) (h : l.ed = false) : Fol l { l with en := l.en ++ [x] } :=
  ⟨rfl, fun e => (by rw [h] at e; cases e), [x], 0, Nat.zero_le _, by simp, by simp, by simp [cntB]⟩
theorem fol_slide (l : Lst) (g : Nat) (h : l.ed = false) (hg : g ≤ l.en.length) : Fol l { l with fi := l.fi + g, br := l.br + cntB (l.en.take g), en := l.en.drop g } :=
  ⟨rfl, fun e => (by rw [h] at e; cases e), [], g, by simpa using hg, by simp, rfl, by simp⟩
theorem fol_end (l : Lst) : Fol l { l with ed := true } :=
  ⟨rfl, fun e => (by cases l; cases e; rfl), [], 0, Nat.zero_le _, by simp, by simp, by simp [cntB]⟩
end Go.Proofs.YtehbmnkbmgnkfaaGreatDoor

/- What happens between caches: events, asks, answers; plain. -/
import Derived.Test.YtehbmnkbmgnkfaaGreatDoorB02
import Derived.Deep.RegionHeld3
import Derived.BigQuiet
namespace Go.Proofs.YtehbmnkbmgnkfaaGreatDoor
open Go.RowKit

/-- What is known of a key. -/
structure Ans where
  ve : Int
  bo : Int
  si : Int
  no : Bool
  fr : ByteArray
instance : Inhabited Ans := ⟨⟨0, 0, 0, false, ⟨#[]⟩⟩⟩
/-- What does not change of an ask: its cache, when it was made, its key, whether there is a rule. -/
structure Akn where
  ca : Nat
  ma : Int
  ke : ByteArray
  kp : Bool
instance : Inhabited Akn := ⟨⟨0, 0, ⟨#[]⟩, false⟩⟩
/-- An event: an ask comes to its parent, or its answer back. -/
structure Evn where
  ti : Int
  bk : Bool
  ak : Nat
  an : Ans
instance : Inhabited Evn := ⟨⟨0, false, 0, default⟩⟩
def encA (x : Ans) : List Value := [.int .i64 x.ve, .int .i64 x.bo, .int .i64 x.si, .bool x.no, .string x.fr]
theorem encA_len (x : Ans) : (encA x).length = 5 := rfl
/-- Event's cells; ask j lies in block a j. -/
def encE (a : Nat → Nat) (e : Evn) : List Value := [.int .i64 e.ti, .bool e.bk, .pointer (some ⟨a e.ak, 0, none⟩), .int .i64 e.an.ve, .int .i64 e.an.bo, .int .i64 e.an.si, .bool e.an.no, .string e.an.fr]
theorem encE_len (a : Nat → Nat) (e : Evn) : (encE a e).length = 8 := rfl
theorem encE_congr {a b : Nat → Nat} {e : Evn} (h : a e.ak = b e.ak) : encE a e = encE b e := by unfold encE; rw [h]
/-- Does an event happen before another? -/
def bfr (K : Nat → Akn) (e o : Evn) : Bool :=
  if e.ti ≠ o.ti then decide (e.ti < o.ti)
  else if e.bk ≠ o.bk then e.bk
  else if (K e.ak).ca ≠ (K o.ak).ca then decide ((K e.ak).ca < (K o.ak).ca)
  else if ((K e.ak).ke.toList == (K o.ak).ke.toList) = false then Op.bytesLess (K e.ak).ke.toList (K o.ak).ke.toList
  else decide (e.ak < o.ak)

section
variable {α : Type} [Inhabited α]
/-- container/heap over lists. -/
def hat (l : List α) (i : Nat) : α := l.getD i default
def hsw (l : List α) (i j : Nat) : List α := (l.set i (hat l j)).set j (hat l i)
def hup (lt : α → α → Bool) : Nat → Nat → List α → List α
  | 0, _, l => l
  | g + 1, j, l => if j = 0 then l else if lt (hat l j) (hat l ((j - 1) / 2)) = true then hup lt g ((j - 1) / 2) (hsw l ((j - 1) / 2) j) else l
def hkid (lt : α → α → Bool) (n i : Nat) (l : List α) : Nat := if 2 * i + 2 < n ∧ lt (hat l (2 * i + 2)) (hat l (2 * i + 1)) = true then 2 * i + 2 else 2 * i + 1
def hdn (lt : α → α → Bool) (n : Nat) : Nat → Nat → List α → List α
  | 0, _, l => l
  | g + 1, i, l => if n ≤ 2 * i + 1 then l else if lt (hat l (hkid lt n i l)) (hat l i) = true then hdn lt n g (hkid lt n i l) (hsw l i (hkid lt n i l)) else l
def hpush (lt : α → α → Bool) (l : List α) (x : α) : List α := hup lt (l.length + 1) l.length (l ++ [x])
/-- What is left when the first one was taken. -/
def hpopL (lt : α → α → Bool) (l : List α) : List α := hdn lt (l.length - 1) l.length 0 (hsw l 0 (l.length - 1))
def hpop (lt : α → α → Bool) (l : List α) : α × List α := (hat (hpopL lt l) (l.length - 1), (hpopL lt l).take (l.length - 1))
theorem hsw_len (l : List α) (i j : Nat) : (hsw l i j).length = l.length := by simp [hsw]
theorem hup_len (lt : α → α → Bool) : ∀ g j (l : List α), (hup lt g j l).length = l.length
  | 0, _, _ => rfl
  | g + 1, j, l => by
    unfold hup
    split
    · rfl
    · split
      · rw [hup_len lt g, hsw_len]
      · rfl
theorem hdn_len (lt : α → α → Bool) (n : Nat) : ∀ g i (l : List α), (hdn lt n g i l).length = l.length
  | 0, _, _ => rfl
  | g + 1, i, l => by
    unfold hdn
    split
    · rfl
    · split
      · rw [hdn_len lt n g, hsw_len]
      · rfl
theorem hat_some {l : List α} {i : Nat} (h : i < l.length) : l[i]? = some (hat l i) := by
  unfold hat
  rw [List.getD_eq_getElem?_getD, List.getElem?_eq_getElem h]
  rfl
end
end Go.Proofs.YtehbmnkbmgnkfaaGreatDoor

/- One block alone may have changed. -/
namespace Go.Proofs.YtehbmnkbmgnkfaaGreatDoor
open Go.RowKit

/-- Of what was there, block P alone may have changed. -/
def Onl (P : Nat) (w w' : World) : Prop := w.grownBy w' (some P)
theorem Onl.refl (P : Nat) (w : World) : Onl P w w := ⟨rfl, rfl, rfl, Nat.le_refl _, fun _ _ _ => rfl⟩
theorem Onl.size {P : Nat} {a b : World} (h : Onl P a b) : a.heap.size ≤ b.heap.size := World.grownBy.size h
theorem Onl.trans {P : Nat} {a b c : World} (h : Onl P a b) (k : Onl P b c) : Onl P a c :=
  ⟨(World.grownBy.os k).trans (World.grownBy.os h), (World.grownBy.tape k).trans (World.grownBy.tape h), (World.grownBy.output k).trans (World.grownBy.output h), Nat.le_trans h.size k.size, fun i hi hP =>
    (World.grownBy.block k i (Nat.lt_of_lt_of_le hi h.size) hP).trans (World.grownBy.block h i hi hP)⟩
theorem Onl.of_below {P : Nat} {a b : World} (h : Below a.heap.size a b) : Onl P a b := ⟨h.os, h.tape, h.output, h.size, fun i hi _ => h.block i hi⟩
theorem Onl.below {P : Nat} {a b c : World} (h : Onl P a b) (k : Below b.heap.size b c) : Onl P a c := h.trans (.of_below k)
theorem Onl.set (P : Nat) (w : World) (o : Nat) (v : Value) : Onl P w (w.setCell ⟨P, o, none⟩ v) :=
  ⟨rfl, rfl, rfl, by simp, fun i _ hP => Below.heap_setCell w ⟨P, o, none⟩ v i (fun e => hP (by rw [e]))⟩
theorem Onl.block {P : Nat} {a b : World} (h : Onl P a b) {i : Nat} {o : Obj} (hi : a.heap[i]? = some o) (hP : i ≠ P) : b.heap[i]? = some o :=
  (World.grownBy.block h i (Array.getElem?_eq_some_iff.1 hi).1 (fun e => hP (by simpa using e))).trans hi
theorem Onl.toBelow {P B : Nat} {a b : World} (h : Onl P a b) (hB : B ≤ a.heap.size) (hP : B ≤ P) : Below B a b :=
  (Below.refl B a).grown h hB (fun k hk => by simp only [Option.some.injEq] at hk; omega)

/-- A slice that does not lie in block P. -/
def offB (P : Nat) (v : Value) : Prop := ∀ a n c, v = .slice (some a) n c → a.block ≠ P
theorem offB.nil (P : Nat) : offB P (.slice none 0 0) := fun a n c h => by simp at h
theorem offB.mk {P b o n c : Nat} (h : b ≠ P) : offB P (.slice (some ⟨b, o, none⟩) n c) := fun a n c e => by
  simp only [Value.slice.injEq, Option.some.injEq] at e
  obtain ⟨rfl, _⟩ := e
  exact h
theorem Own.offB {α : Type} {w : World} {base P : Nat} {E : TypeId} {k : Nat} {enc : α → List Value} {v : Value} {l : List α} (h : Own w base E k enc v l) (hP : P < base) : offB P v := by
  obtain ⟨_, h2⟩ := h
  rcases h2 with ⟨rfl, _⟩ | ⟨g, cap, cur, rfl, hg, _⟩
  · exact .nil P
  · exact .mk (by omega)
theorem Sl.onl {α : Type} {w w' : World} {P k : Nat} {enc : α → List Value} {v : Value} {l : List α} (h : Sl w k enc v l) (hv : offB P v) (ho : Onl P w w') : Sl w' k enc v l := by
  obtain ⟨ao, cap, rfl, h2, h3, h4, h5⟩ := h
  refine ⟨ao, cap, rfl, h2, h3, h4, fun i x hx => ?_⟩
  obtain ⟨b, off, rfl, hc⟩ := h5 i x hx
  refine ⟨b, off, rfl, fun j u hu => ?_⟩
  have hcell := hc j u hu
  exact (World.grownBy.cell ho hcell (fun e => hv _ _ _ rfl (by simpa using e)))
theorem Sl.onlE {α : Type} {w w' : World} {P k : Nat} {enc : α → List Value} {v : Value} {l : List α} (h : Sl w k enc v l) (hv : l ≠ [] → offB P v) (ho : Onl P w w') : Sl w' k enc v l := by
  by_cases e : l = []
  · subst e
    obtain ⟨ao, cap, rfl, h2, h3, h4, h5⟩ := h
    exact ⟨ao, cap, rfl, h2, h3, h4, fun i x hx => by simp at hx⟩
  · exact h.onl (hv e) ho
/-- A slice with elements lies in what was there. -/
theorem Sl.offE {α : Type} {w : World} {P k : Nat} {enc : α → List Value} {v : Value} {l : List α} (h : Sl w k enc v l) (hk : ∀ x, 0 < (enc x).length) (hP : w.heap.size ≤ P) (hne : l ≠ []) : offB P v := fun a n c hv hb => by
  obtain ⟨ao, cap, h1, _, _, _, hel⟩ := h
  obtain ⟨x, r, rfl⟩ := List.exists_cons_of_ne_nil hne
  obtain ⟨b, off, hao, hc⟩ := hel 0 x rfl
  rw [hv] at h1
  simp only [Value.slice.injEq] at h1
  obtain ⟨h1, _⟩ := h1
  rw [hao] at h1
  simp only [Option.some.injEq] at h1
  have hlt : b < w.heap.size := World.block_lt_of_cell? w _ (hc 0 _ (List.getElem?_eq_getElem (hk x)))
  rw [h1] at hb
  simp at hb
  omega
theorem lt_of_blk {w : World} {i : Nat} {o : Obj} (h : w.heap[i]? = some o) : i < w.heap.size := (Array.getElem?_eq_some_iff.1 h).1
end Go.Proofs.YtehbmnkbmgnkfaaGreatDoor

/- before: the walk. -/
namespace Go.Proofs.YtehbmnkbmgnkfaaGreatDoor
open Go.RowKit

/-- Ask j can be read in block a j: its cache, its number, its key. -/
structure AskR (W : World) (a : Nat → Nat) (K : Nat → Akn) (j : Nat) : Prop where
  c0 : W.cell? ⟨a j, 0, none⟩ = some (.int .i64 ((K j).ca : Nat))
  c1 : W.cell? ⟨a j, 1, none⟩ = some (.int .i64 (j : Nat))
  c3 : W.cell? ⟨a j, 3, none⟩ = some (.string (K j).ke)
theorem AskR.below {W W' : World} {a : Nat → Nat} {K : Nat → Akn} {j : Nat} (h : AskR W a K j) (hb : Below W.heap.size W W') : AskR W' a K j :=
  ⟨(hb.cell (p := ⟨a j, 0, none⟩) (World.block_lt_of_cell? W _ h.c0)).trans h.c0, (hb.cell (p := ⟨a j, 1, none⟩) (World.block_lt_of_cell? W _ h.c1)).trans h.c1, (hb.cell (p := ⟨a j, 3, none⟩) (World.block_lt_of_cell? W _ h.c3)).trans h.c3⟩
theorem ev_facts {w : World} {b : Nat} {T : TypeId} {x0 x1 x2 x3 x4 x5 x6 x7 : Value} (h : w.heap[b]? = some (.cells #[x0, x1, x2, x3, x4, x5, x6, x7] T (0, 0))) :
    w.cell? ⟨b, 0, none⟩ = some x0 ∧ w.cell? ⟨b, 1, none⟩ = some x1 ∧ w.cell? ⟨b, 2, none⟩ = some x2 :=
  ⟨(cell_of_block (i := 0) h).trans rfl, (cell_of_block (i := 1) h).trans rfl, (cell_of_block (i := 2) h).trans rfl⟩
set_option maxRecDepth 100000 in
set_option maxHeartbeats 2000000 in
theorem before_any (w : World) (a : Nat → Nat) (K : Nat → Akn) (e o : Evn) (he : AskR w a K e.ak) (ho : AskR w a K o.ak) :
    Calls Tryz.prog 134 #[.agg (encE a e).toArray, .agg (encE a o).toArray] w fun r w' => r = .returned (.bool (bfr K e o)) ∧ Below w.heap.size w w' := by
  obtain ⟨w2, hw2⟩ : ∃ w2, w2 = (w.alloc (.cells (encE a e).toArray 143)).alloc (.cells (encE a o).toArray 143) := ⟨_, rfl⟩
  have HB : Hid (Below w.heap.size w w2) := Lib.hid (by rw [hw2]; exact ((Below.refl _ w).alloc (Nat.le_refl _) _).alloc (by simp) _)
  have b1 : w2.heap[w.heap.size]? = some (.cells (encE a e).toArray 143 (0, 0)) := by
    have h0 := block_new w (.cells (encE a e).toArray 143 (0, 0))
    rw [hw2]
    exact (Below.heap_alloc _ _ _ (Array.getElem?_eq_some_iff.1 h0).1).trans h0
  have b2 : w2.heap[w.heap.size + 1]? = some (.cells (encE a o).toArray 143 (0, 0)) := by
    have h0 := block_new (w.alloc (.cells (encE a e).toArray 143)) (.cells (encE a o).toArray 143 (0, 0))
    rw [hw2]
    simpa using h0
  obtain ⟨p0, p1, p2⟩ := ev_facts b1
  obtain ⟨q0, q1, q2⟩ := ev_facts b2
  obtain ⟨e0, e1, e3⟩ := he.below HB.out
  obtain ⟨o0, o1, o3⟩ := ho.below HB.out
  have HV : Hid (bfr K e o = if e.ti ≠ o.ti then decide (e.ti < o.ti) else if e.bk ≠ o.bk then e.bk else if (K e.ak).ca ≠ (K o.ak).ca then decide ((K e.ak).ca < (K o.ak).ca) else if ((K e.ak).ke.toList == (K o.ak).ke.toList) = false then Op.bytesLess (K e.ak).ke.toList (K o.ak).ke.toList else decide (e.ak < o.ak)) := Lib.hid rfl
  have HW2 : Hid (w2 = (w.alloc (.cells #[.int .i64 e.ti, .bool e.bk, .pointer (some ⟨a e.ak, 0, none⟩), .int .i64 e.an.ve, .int .i64 e.an.bo, .int .i64 e.an.si, .bool e.an.no, .string e.an.fr] 143)).alloc (.cells #[.int .i64 o.ti, .bool o.bk, .pointer (some ⟨a o.ak, 0, none⟩), .int .i64 o.an.ve, .int .i64 o.an.bo, .int .i64 o.an.si, .bool o.an.no, .string o.an.fr] 143)) := Lib.hid hw2
  clear hw2 b1 b2 he ho
  show Calls Tryz.prog 134 #[.agg #[.int .i64 e.ti, .bool e.bk, .pointer (some ⟨a e.ak, 0, none⟩), .int .i64 e.an.ve, .int .i64 e.an.bo, .int .i64 e.an.si, .bool e.an.no, .string e.an.fr], .agg #[.int .i64 o.ti, .bool o.bk, .pointer (some ⟨a o.ak, 0, none⟩), .int .i64 o.an.ve, .int .i64 o.an.bo, .int .i64 o.an.si, .bool o.an.no, .string o.an.fr]] w _
  generalize bfr K e o = R at HV ⊢
  generalize (K e.ak).ca = ec at e0 HV
  generalize (K o.ak).ca = oc at o0 HV
  generalize (K e.ak).ke = ek at e3 HV
  generalize (K o.ak).ke = ok at o3 HV
  generalize a e.ak = A1 at *
  generalize a o.ak = A2 at *
  generalize e.ak = j1 at *
  generalize o.ak = j2 at *
  go_enter Tryz.func134, Tryz.ntmps134
  go_upto_region 1 with (fail)
  rw [← HW2.out]
  by_cases h1 : e.ti = o.ti
  case neg =>
    have t1 : (e.ti != o.ti) = true := by rw [bne_iff_ne]; exact h1
    have hv : Hid (decide (e.ti < o.ti) = R) := Lib.hid (by rw [HV.out, if_pos h1])
    clear h1
    go_wp2
    go_ret
    exact ⟨ret_bool hv.out, HB.out⟩
  rw [if_neg (by simp [h1])] at HV
  have t1 : (e.ti != o.ti) = false := by simp [h1]
  clear h1
  by_cases h2 : e.bk = o.bk
  case neg =>
    have t2 : (e.bk == o.bk) = false := by rw [beq_eq_false_iff_ne]; exact h2
    have hv : Hid (e.bk = R) := Lib.hid (by rw [HV.out, if_pos h2])
    clear h2
    go_wp2
    go_ret
    exact ⟨ret_bool hv.out, HB.out⟩
  rw [if_neg (by simp [h2])] at HV
  have t2 : (e.bk == o.bk) = true := by rw [beq_iff_eq]; exact h2
  clear h2
  by_cases h3 : ec = oc
  case neg =>
    have t3 : ((ec : Int) != (oc : Int)) = true := by rw [bne_iff_ne]; omega
    have hv : Hid (decide (ec < oc) = R) := Lib.hid (by rw [HV.out, if_pos h3])
    clear h3
    go_upto_region 5 with (fail)
    go_quiet (fail)
    obtain ⟨w3, hw3⟩ : ∃ w3, w3 = w2.drewN nq := ⟨_, rfl⟩
    have HB3 : Hid (Below w.heap.size w w3) := Lib.hid (by rw [hw3]; exact below_drewN HB.out nq)
    replace p2 : w3.cell? ⟨w.heap.size, 2, none⟩ = some (.pointer (some ⟨A1, 0, none⟩)) := by rw [hw3]; exact p2
    replace q2 : w3.cell? ⟨w.heap.size + 1, 2, none⟩ = some (.pointer (some ⟨A2, 0, none⟩)) := by rw [hw3]; exact q2
    replace e0 : w3.cell? ⟨A1, 0, none⟩ = some (.int .i64 (ec : Nat)) := by rw [hw3]; exact e0
    replace o0 : w3.cell? ⟨A2, 0, none⟩ = some (.int .i64 (oc : Nat)) := by rw [hw3]; exact o0
    rw [← hw3]
    clear hw3 p0 p1 q0 q1 e1 e3 o1 o3 t1 t2 t3
    go_upto_region 6 with (fail)
    go_quiet (fail)
    go_wp2
    go_ret
    exact ⟨ret_bool hv.out, below_drewN HB3.out _⟩
  rw [if_neg (by simp [h3])] at HV
  have t3 : ((ec : Int) != (oc : Int)) = false := by simp [h3]
  clear h3
  go_upto_region 5 with (fail)
  go_quiet (fail)
  obtain ⟨w3, hw3⟩ : ∃ w3, w3 = w2.drewN nq := ⟨_, rfl⟩
  have HB3 : Hid (Below w.heap.size w w3) := Lib.hid (by rw [hw3]; exact below_drewN HB.out nq)
  replace p2 : w3.cell? ⟨w.heap.size, 2, none⟩ = some (.pointer (some ⟨A1, 0, none⟩)) := by rw [hw3]; exact p2
  replace q2 : w3.cell? ⟨w.heap.size + 1, 2, none⟩ = some (.pointer (some ⟨A2, 0, none⟩)) := by rw [hw3]; exact q2
  replace e1 : w3.cell? ⟨A1, 1, none⟩ = some (.int .i64 (j1 : Nat)) := by rw [hw3]; exact e1
  replace o1 : w3.cell? ⟨A2, 1, none⟩ = some (.int .i64 (j2 : Nat)) := by rw [hw3]; exact o1
  replace e3 : w3.cell? ⟨A1, 3, none⟩ = some (.string ek) := by rw [hw3]; exact e3
  replace o3 : w3.cell? ⟨A2, 3, none⟩ = some (.string ok) := by rw [hw3]; exact o3
  rw [← hw3]
  clear hw3 p0 p1 q0 q1 e0 o0 t1 t2 t3 HB
  cases h4 : (ek.toList == ok.toList)
  case false =>
    rw [if_pos h4] at HV
    go_upto_region 7 with (fail)
    go_quiet (fail)
    obtain ⟨w4, hw4⟩ : ∃ w4, w4 = w3.drewN nq := ⟨_, rfl⟩
    have HB4 : Hid (Below w.heap.size w w4) := Lib.hid (by rw [hw4]; exact below_drewN HB3.out nq)
    replace p2 : w4.cell? ⟨w.heap.size, 2, none⟩ = some (.pointer (some ⟨A1, 0, none⟩)) := by rw [hw4]; exact p2
    replace q2 : w4.cell? ⟨w.heap.size + 1, 2, none⟩ = some (.pointer (some ⟨A2, 0, none⟩)) := by rw [hw4]; exact q2
    replace e3 : w4.cell? ⟨A1, 3, none⟩ = some (.string ek) := by rw [hw4]; exact e3
    replace o3 : w4.cell? ⟨A2, 3, none⟩ = some (.string ok) := by rw [hw4]; exact o3
    rw [← hw4]
    clear hw4 HB3 e1 o1
    go_upto_region 8 with (fail)
    go_quiet (fail)
    go_wp2
    go_ret
    exact ⟨ret_bool HV.out.symm, below_drewN HB4.out _⟩
  case true =>
    rw [if_neg (by simp [h4])] at HV
    have hv : Hid (decide (j1 < j2) = R) := Lib.hid HV.out.symm
    go_upto_region 7 with (fail)
    go_quiet (fail)
    obtain ⟨w4, hw4⟩ : ∃ w4, w4 = w3.drewN nq := ⟨_, rfl⟩
    have HB4 : Hid (Below w.heap.size w w4) := Lib.hid (by rw [hw4]; exact below_drewN HB3.out nq)
    replace p2 : w4.cell? ⟨w.heap.size, 2, none⟩ = some (.pointer (some ⟨A1, 0, none⟩)) := by rw [hw4]; exact p2
    replace q2 : w4.cell? ⟨w.heap.size + 1, 2, none⟩ = some (.pointer (some ⟨A2, 0, none⟩)) := by rw [hw4]; exact q2
    replace e1 : w4.cell? ⟨A1, 1, none⟩ = some (.int .i64 (j1 : Nat)) := by rw [hw4]; exact e1
    replace o1 : w4.cell? ⟨A2, 1, none⟩ = some (.int .i64 (j2 : Nat)) := by rw [hw4]; exact o1
    rw [← hw4]
    clear hw4 HB3 e3 o3 h4 HV
    go_upto_region 9 with (fail)
    go_quiet (fail)
    go_wp2
    go_ret
    exact ⟨ret_bool hv.out, below_drewN HB4.out _⟩
end Go.Proofs.YtehbmnkbmgnkfaaGreatDoor

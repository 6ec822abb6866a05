/- Push and Pop of container/heap at events: the walks. -/
import Derived.Test.YtehbmnkbmgnkfaaGreatDoorB07
import Derived.Test.YtehbmnkbmgnkfaaGreatDoorB02
import Derived.Laws.OwnMore
import Derived.Lib.SlicesS
namespace Go.Proofs.YtehbmnkbmgnkfaaGreatDoor
open Go.RowKit

theorem QChg.onl {Q g n c : Nat} {w w1 w2 : World} {v : Value} (h : QChg Q w w1 v (.slice (some ⟨g, 0, none⟩) n c)) (hQ : Q < w.heap.size) (ho : Onl g w1 w2) : QChg Q w w2 v (.slice (some ⟨g, 0, none⟩) n c) where
  other b h1 h2 h3 := by
    obtain ⟨p1, p2⟩ := h.other b h1 h2 h3
    have : b ≠ g := fun e => p2 _ _ _ rfl e.symm
    exact ⟨(World.grownBy.block ho b (Nat.lt_of_lt_of_le h1 h.size) (fun e => this (by simpa using e))).trans p1, p2⟩
  off := h.off
  own cs T fr hc := by
    have : Q ≠ g := fun e => h.off _ _ _ rfl e.symm
    exact (World.grownBy.block ho Q (Nat.lt_of_lt_of_le hQ h.size) (fun e => this (by simpa using e))).trans (h.own cs T fr hc)
  size := Nat.le_trans h.size ho.size
  os := (World.grownBy.os ho).trans h.os
  tape := (World.grownBy.tape ho).trans h.tape
  output := (World.grownBy.output ho).trans h.output
theorem QChg.refl {Q B : Nat} {a : Nat → Nat} {w : World} {v : Value} {l : List Evn} (h : QAt Q B a w v l) : QChg Q w w v v where
  other _ _ _ h3 := ⟨rfl, h3⟩
  off := h.off
  own cs T fr hc := by
    obtain ⟨cs', T', h1, h2⟩ := h.blk
    rw [h1] at hc
    simp only [Option.some.injEq, Obj.cells.injEq] at hc
    obtain ⟨rfl, rfl, rfl⟩ := hc
    rw [h1]
    congr 2
    have hlt := (Array.getElem?_eq_some_iff.1 h2).1
    apply Array.ext_getElem?
    intro i
    by_cases e : i = 5
    · subst e; rw [Array.getElem?_setIfInBounds_self_of_lt hlt, h2]
    · rw [Array.getElem?_setIfInBounds_ne (Ne.symm e)]
  size := Nat.le_refl _
  os := rfl
  tape := rfl
  output := rfl
set_option maxRecDepth 100000 in
set_option maxHeartbeats 2000000 in
theorem heapPush_any (w : World) (Q B : Nat) (a : Nat → Nat) (K : Nat → Akn) (v : Value) (l : List Evn) (e : Evn) (h : QAt Q B a w v l) (hl : l.length ≤ 999999) (ha : ∀ x, x ∈ l ++ [e] → AskR w a K x.ak ∧ offB (a x.ak) v ∧ a x.ak ≠ Q) :
    Calls Tryz.prog 96 #[.iface 145 (.pointer (some ⟨Q, 5, none⟩)), .iface 143 (.agg (encE a e).toArray)] w fun r w' => r = .returned (.tuple #[]) ∧ ∃ v', QAt Q B a w' v' (hpush (bfr K) l e) ∧ QChg Q w w' v v' := by
  have HP := Lib.hid (evPush_any w Q B a v l e h (by omega))
  have HA := Lib.hid ha
  have HQL := Lib.hid h.lt
  have h1 := fun w => mPush w Q
  have h2 := fun w => nPush w Q
  have h3 := fun w => nLen w Q
  have hE : Hid (hpush (bfr K) l e = hup (bfr K) (l.length + 1) l.length (l ++ [e])) := Lib.hid rfl
  clear h ha
  obtain ⟨X, hX⟩ : ∃ X, X = (encE a e).toArray := ⟨_, rfl⟩
  rw [← hX] at HP ⊢
  clear hX
  go_enter Tryz.func96, Tryz.ntmps96
  go_wp2_with fail
  refine HP.out.mono ?_
  rintro r w1 ⟨rfl, v1, hq1, hc1⟩
  have hne : l ++ [e] ≠ [] := by simp
  obtain ⟨g, cap, rfl, -, -, -, -, -, -⟩ := Own.getk (encE_len a) hq1.own hne
  have hlen : (l ++ [e]).length = l.length + 1 := by simp
  rw [hlen] at hq1 hc1
  have HQ1 := Lib.hid hq1
  have HC1 := Lib.hid hc1
  have hm1 := mLen hq1.cell.1
  have e1 : ((l.length + 1 : Nat) : Int) - 1 = (l.length : Int) := by omega
  have HU := Lib.hid (up_any w1 Q B g (l.length + 1) cap a K (l ++ [e]) l.length hq1 (by simp) (by simp; omega) (by simp) (fun x hx => by
    obtain ⟨k1, k2, k3⟩ := HA.out x hx
    obtain ⟨p1, p2⟩ := hc1.other _ k1.lt k3 k2
    exact ⟨k1.blk p1, fun e => p2 _ _ _ rfl e.symm⟩))
  clear hq1 hc1 hne hlen
  go_wp2_with fail
  refine (len_any w1 _ _ _).mono ?_
  rintro r w2 ⟨rfl, rfl⟩
  go_wp2_with fail
  refine HU.out.mono ?_
  rintro r w3 ⟨rfl, hq3, ho3⟩
  have HQ3 := Lib.hid hq3
  have HC3 := Lib.hid (HC1.out.onl HQL.out ho3)
  clear hq3 ho3 hm1
  go_wp2_with fail
  go_end0
  exact ⟨rfl, _, by rw [hE.out]; exact HQ3.out, HC3.out⟩
set_option maxRecDepth 100000 in
set_option maxHeartbeats 2000000 in
theorem heapPop_any (w : World) (Q B : Nat) (a : Nat → Nat) (K : Nat → Akn) (v : Value) (l : List Evn) (h : QAt Q B a w v l) (hl : l.length ≤ 1000000) (h0 : 0 < l.length) (ha : ∀ x, x ∈ l → AskR w a K x.ak ∧ offB (a x.ak) v ∧ a x.ak ≠ Q) :
    Calls Tryz.prog 66 #[.iface 145 (.pointer (some ⟨Q, 5, none⟩))] w fun r w' => r = .returned (.iface 143 (.agg (encE a (hpop (bfr K) l).1).toArray)) ∧ ∃ v', QAt Q B a w' v' (hpop (bfr K) l).2 ∧ QChg Q w w' v v' := by
  have hne : l ≠ [] := fun e => by rw [e] at h0; simp at h0
  obtain ⟨g, cap, rfl, -, -, -, -, -, -⟩ := Own.getk (encE_len a) h.own hne
  obtain ⟨k, hk⟩ : ∃ k, k = l.length - 1 := ⟨_, rfl⟩
  have HC0 := Lib.hid (QChg.refl h)
  have HQL := Lib.hid h.lt
  have hm0 := mLen h.cell.1
  have hs0 := mSwap h.cell.1
  have HSW := Lib.hid (swap_any w B g cap a l 0 k h.own (by omega) (by omega))
  have HD := Lib.hid (fun (W : World) (ho : Own W B 143 8 (encE a) (.slice (some ⟨g, 0, none⟩) l.length cap) (hsw l 0 k)) (hn : Onl g w W) => down_any W Q B g l.length cap a K (hsw l 0 k) k (h.onl hn ho) (by rw [hsw_len]) (by rw [hsw_len]; exact hl) (by omega) h0 (fun x hx => by
    obtain ⟨k1, k2, k3⟩ := ha x (hsw_mem h0 (by omega) hx)
    have hg : a x.ak ≠ g := fun e => k2 _ _ _ rfl e.symm
    exact ⟨k1.onl hn hg, hg⟩))
  have HPL : Hid (hdn (bfr K) k (hsw l 0 k).length 0 (hsw l 0 k) = hpopL (bfr K) l) := Lib.hid (by rw [hsw_len, hk]; rfl)
  have HLEN : Hid ((hpopL (bfr K) l).length = l.length) := Lib.hid (by unfold hpopL; rw [hdn_len, hsw_len])
  have HPP : Hid ((hpop (bfr K) l).1 = hat (hpopL (bfr K) l) (l.length - 1) ∧ (hpop (bfr K) l).2 = (hpopL (bfr K) l).take (l.length - 1)) := Lib.hid ⟨rfl, rfl⟩
  rw [HPL.out] at HD
  have e1 : (l.length : Int) - 1 = (k : Int) := by omega
  have h1 := fun w => mPop w Q
  have h2 := fun w => nPop w Q
  have h3 := fun w => nLen w Q
  have h4 := fun w => nSwap w Q
  obtain ⟨X, hX⟩ : ∃ X, X = (encE a (hpop (bfr K) l).1).toArray := ⟨_, rfl⟩
  rw [← hX]
  have HX := Lib.hid hX
  clear hk h ha hne hX
  go_enter Tryz.func66, Tryz.ntmps66
  go_wp2_with fail
  refine (len_any w _ _ _).mono ?_
  rintro r w0 ⟨rfl, rfl⟩
  go_wp2_with fail
  refine HSW.out.mono ?_
  rintro r w1 ⟨rfl, ho1, hn1⟩
  have HD1 := Lib.hid (HD.out w1 ho1 hn1)
  have HN1 := Lib.hid hn1
  clear ho1 hn1 hm0 hs0
  go_wp2_with fail
  refine HD1.out.mono ?_
  rintro r w2 ⟨⟨bb, rfl⟩, hq2, hn2⟩
  have HC2 := Lib.hid (HC0.out.onl HQL.out (HN1.out.trans hn2))
  have HPO := evPop_any w2 Q B a _ _ hq2 (by rw [HLEN.out]; exact hl) (by rw [HLEN.out]; exact h0)
  rw [HLEN.out, ← HPP.out.1, ← HPP.out.2, ← HX.out] at HPO
  have HPO := Lib.hid HPO
  clear hq2 hn2
  go_wp2_with fail
  refine HPO.out.mono ?_
  rintro r w3 ⟨rfl, v3, hq3, hc3⟩
  have HQ3 := Lib.hid hq3
  have HC3 := Lib.hid (HC2.out.trans hc3)
  clear hq3 hc3
  go_wp2_with fail
  go_ret
  exact ⟨rfl, _, HQ3.out, HC3.out⟩
end Go.Proofs.YtehbmnkbmgnkfaaGreatDoor

/- Arrays of ints that a call has made; rows. -/
namespace Go.Proofs.YtehbmnkbmgnkfaaGreatDoor
open Go.RowKit

/-- Block g is an array of ints. -/
def Arr (w : World) (g : Nat) (m : List Int) : Prop := w.heap[g]? = some (.cells (m.map (Value.int .i64)).toArray 3 (0, 0))
theorem Arr.cell {w : World} {g : Nat} {m : List Int} (h : Arr w g m) {i : Nat} {x : Int} (hx : m[i]? = some x) : w.cell? ⟨g, i, none⟩ = some (.int .i64 x) := by
  rw [cell_of_block h]; simp [hx]
theorem Arr.free {w : World} {g : Nat} {m : List Int} (h : Arr w g m) (i : Nat) : w.frozen? ⟨g, i, none⟩ = false := by
  unfold Arr at h; simp [World.frozen?, h]
theorem Arr.lt {w : World} {g : Nat} {m : List Int} (h : Arr w g m) : g < w.heap.size := (Array.getElem?_eq_some_iff.1 h).1
theorem Arr.set {w : World} {g : Nat} {m : List Int} (h : Arr w g m) (i : Nat) (y : Int) : Arr (w.setCell ⟨g, i, none⟩ (.int .i64 y)) g (m.set i y) := by
  have h1 := heap_setCell_same w g i _ _ (.int .i64 y) h
  unfold Arr
  rw [h1, List.map_set]
  simp
theorem Arr.other {w : World} {g g' : Nat} {m : List Int} (h : Arr w g m) (hne : g ≠ g') (i : Nat) (y : Value) : Arr (w.setCell ⟨g', i, none⟩ y) g m := (Below.heap_setCell w ⟨g', i, none⟩ y g hne).trans h
theorem Arr.belowB {w w' : World} {g B : Nat} {m : List Int} (h : Arr w g m) (hb : Below B w w') (hg : g < B) : Arr w' g m := (hb.block g hg).trans h
theorem Arr.below {w w' : World} {g : Nat} {m : List Int} (h : Arr w g m) (hb : Below w.heap.size w w') : Arr w' g m := h.belowB hb h.lt
theorem Arr.made (w : World) (m : List Int) : Arr (w.alloc (.cells (m.map (Value.int .i64)).toArray 3)) w.heap.size m := block_new w _
theorem made_ints (n : Nat) : madeCells #[Value.int .i64 0] (n * 1) = ((List.replicate n (0 : Int)).map (Value.int .i64)).toArray := by
  have h := toList_madeCells_one (Value.int .i64 0) n
  rw [Nat.mul_one]
  apply Array.toList_inj.1
  rw [h]
  simp
theorem make_ints (n : Nat) (hn : n ≤ 1000) (w : World) : (Instr.makeSlice 28 (.int .i64 (n : Int)) (.int .i64 (n : Int))).run Tryz.prog w = .ok (.slice (some ⟨w.heap.size, 0, none⟩) n n) (w.alloc (.cells ((List.replicate n (0 : Int)).map (Value.int .i64)).toArray 3)) := by
  obtain ⟨i, z, ht, hi, hz, hs, hb, _⟩ := slI
  obtain ⟨i0, hi0, hz0, hz1, hz2⟩ := info_parts infoI
  have hr := run_make (P := Tryz.prog) w 28 3 i0 _ ht hi0 hz0 .i64 .i64 n n (by omega) (Int.le_refl _) (by rw [hz2]; omega) (by omega)
  rw [hr, hz1]
  simp only [Int.toNat_natCast]
  rw [show (Value.int IntKind.i64 0).cells = #[Value.int .i64 0] from rfl, made_ints]
/-- A row, in which numbers below k are done, and one is under way. -/
def rowC (f : Nat → Int) (k : Nat) (z : Int) (m : Nat) : List Int := (List.range m).map fun j => if j < k then f j else if j = k then z else 0
def rowF (f : Nat → Int) (m : Nat) : List Int := (List.range m).map f
theorem rowC_len (f : Nat → Int) (k : Nat) (z : Int) (m : Nat) : (rowC f k z m).length = m := by simp [rowC]
theorem rowC_get {f : Nat → Int} {k m : Nat} {z : Int} (h : k < m) : (rowC f k z m)[k]? = some z := by simp [rowC, h]
theorem rowC_set (f : Nat → Int) (k : Nat) (z y : Int) (m : Nat) : (rowC f k z m).set k y = rowC f k y m := by
  apply List.ext_getElem
  · simp [rowC]
  · intro i h1 h2
    rw [List.getElem_set]
    simp only [rowC, List.getElem_map, List.getElem_range]
    by_cases e : k = i
    · subst e; simp
    · have e' : ¬ i = k := fun h => e h.symm
      rw [if_neg e]
      simp [e']
theorem rowC_next (f : Nat → Int) (k m : Nat) : rowC f k (f k) m = rowC f (k + 1) 0 m := by
  unfold rowC
  refine List.map_congr_left fun j _ => ?_
  by_cases h1 : j < k
  · rw [if_pos h1, if_pos (by omega)]
  · by_cases h2 : j = k
    · subst h2; rw [if_neg h1, if_pos rfl, if_pos (by omega)]
    · rw [if_neg h1, if_neg h2, if_neg (by omega)]; split <;> rfl
theorem rowC_zero (f : Nat → Int) (m : Nat) : List.replicate m (0 : Int) = rowC f 0 0 m := by
  apply List.ext_getElem
  · simp [rowC]
  · intro i h1 h2
    simp [rowC]
theorem rowC_all (f : Nat → Int) (z : Int) (m : Nat) : rowC f m z m = rowF f m := by
  unfold rowC rowF
  refine List.map_congr_left fun j hj => ?_
  rw [List.mem_range] at hj
  rw [if_pos hj]
theorem rowF_get {f : Nat → Int} {m k : Nat} (h : k < m) : (rowF f m)[k]? = some (f k) := by simp [rowF, h]

/-- A list of which those below i are done. -/
def mixL {α : Type} (f g : Nat → α) (i n : Nat) : List α := (List.range n).map fun j => if j < i then f j else g j
theorem mixL_len {α : Type} (f g : Nat → α) (i n : Nat) : (mixL f g i n).length = n := by simp [mixL]
theorem mixL_get {α : Type} {f g : Nat → α} {i n j : Nat} (h : j < n) : (mixL f g i n)[j]? = some (if j < i then f j else g j) := by simp [mixL, h]
theorem mixL_zero {α : Type} (f g : Nat → α) (n : Nat) : mixL f g 0 n = (List.range n).map g := by simp [mixL]
theorem mixL_all {α : Type} (f g : Nat → α) (n : Nat) : mixL f g n n = (List.range n).map f := by
  unfold mixL
  refine List.map_congr_left fun j hj => ?_
  rw [List.mem_range] at hj
  rw [if_pos hj]
theorem mixL_set {α : Type} (f g : Nat → α) (i n : Nat) : (mixL f g i n).set i (f i) = mixL f g (i + 1) n := by
  apply List.ext_getElem
  · simp [mixL]
  · intro j h1 h2
    rw [List.getElem_set]
    simp only [mixL, List.getElem_map, List.getElem_range]
    by_cases e : i = j
    · subst e; simp
    · rw [if_neg e]
      by_cases h : j < i
      · rw [if_pos h, if_pos (by omega)]
      · rw [if_neg h, if_neg (by omega)]
theorem mixL_self {α : Type} (f g : Nat → α) (i n : Nat) : (mixL f g i n).set i (g i) = mixL f g i n := by
  apply List.ext_getElem
  · simp [mixL]
  · intro j h1 h2
    rw [List.getElem_set]
    by_cases e : i = j
    · subst e
      simp [mixL]
    · rw [if_neg e]
theorem mixL_cur {α : Type} {f g : Nat → α} {i n : Nat} {z : α} (h : i < n) : ((mixL f g i n).set i z)[i]? = some z := by
  rw [List.getElem?_set_self (by rw [mixL_len]; exact h)]
end Go.Proofs.YtehbmnkbmgnkfaaGreatDoor

/- Curve: what it counts: plain. -/
namespace Go.Proofs.YtehbmnkbmgnkfaaGreatDoor
open Go.RowKit

def keyA (K : List ByteArray) (i : Nat) : ByteArray := K.getD i ⟨#[]⟩
/-- What was asked for, the last one first. -/
def recK (K : List ByteArray) : Nat → List ByteArray
  | 0 => []
  | i + 1 => keyA K i :: (if 0 ≤ Lib.idxOfS (recK K i) (keyA K i) then (recK K i).eraseIdx (Lib.idxOfS (recK K i) (keyA K i)).toNat else recK K i)
def atK (K : List ByteArray) (i : Nat) : Int := Lib.idxOfS (recK K i) (keyA K i)
theorem recK_next (K : List ByteArray) (i : Nat) : recK K (i + 1) = keyA K i :: (if 0 ≤ atK K i then (recK K i).eraseIdx (atK K i).toNat else recK K i) := rfl
theorem idxS_bd (x : ByteArray) : ∀ (L : List ByteArray) (k : Nat), Lib.idxFromS L x k = -1 ∨ ∃ j : Nat, k ≤ j ∧ j < k + L.length ∧ Lib.idxFromS L x k = (j : Int)
  | [], k => Or.inl rfl
  | z :: r, k => by
    by_cases h : z = x
    · right
      refine ⟨k, Nat.le_refl _, by simp, ?_⟩
      simp [Lib.idxFromS, h]
    · have e : Lib.idxFromS (z :: r) x k = Lib.idxFromS r x (k + 1) := by simp [Lib.idxFromS, h]
      rw [e]
      rcases idxS_bd x r (k + 1) with h2 | ⟨j, h2, h3, h4⟩
      · exact Or.inl h2
      · exact Or.inr ⟨j, by omega, by simp only [List.length_cons]; omega, h4⟩
theorem atK_bd (K : List ByteArray) (i : Nat) : atK K i = -1 ∨ ∃ j : Nat, j < (recK K i).length ∧ atK K i = (j : Int) := by
  rcases idxS_bd (keyA K i) (recK K i) 0 with h | ⟨j, _, h2, h3⟩
  · exact Or.inl h
  · exact Or.inr ⟨j, by omega, h3⟩
theorem recK_len (K : List ByteArray) : ∀ i, (recK K i).length ≤ i
  | 0 => Nat.le_refl _
  | i + 1 => by
    have ih := recK_len K i
    rw [recK_next]
    split
    · have := List.length_eraseIdx_le (recK K i) (atK K i).toNat
      simp only [List.length_cons]
      omega
    · simp only [List.length_cons]
      omega
/-- How many were found at a place; at most at a place. -/
def cntP (K : List ByteArray) (p : Nat) : Nat → Int
  | 0 => 0
  | i + 1 => cntP K p i + if atK K i = (p : Int) then 1 else 0
def cntQ (K : List ByteArray) (p : Nat) : Nat → Int
  | 0 => 0
  | i + 1 => cntQ K p i + if 0 ≤ atK K i ∧ atK K i ≤ (p : Int) then 1 else 0
theorem cntP_bd (K : List ByteArray) (p : Nat) : ∀ i, 0 ≤ cntP K p i ∧ cntP K p i ≤ i
  | 0 => ⟨Int.le_refl _, Int.le_refl _⟩
  | i + 1 => by
    have ih := cntP_bd K p i
    unfold cntP
    split <;> omega
theorem cntQ_bd (K : List ByteArray) (p : Nat) : ∀ i, 0 ≤ cntQ K p i ∧ cntQ K p i ≤ i
  | 0 => ⟨Int.le_refl _, Int.le_refl _⟩
  | i + 1 => by
    have ih := cntQ_bd K p i
    unfold cntQ
    split <;> omega
theorem cntQ_zero (K : List ByteArray) : ∀ i, cntQ K 0 i = cntP K 0 i
  | 0 => rfl
  | i + 1 => by
    unfold cntQ cntP
    rw [cntQ_zero K i]
    by_cases h : atK K i = 0
    · rw [if_pos (by omega), if_pos (by omega)]
    · rw [if_neg (by omega), if_neg (by omega)]
theorem cntQ_next (K : List ByteArray) (p : Nat) : ∀ i, cntQ K (p + 1) i = cntP K (p + 1) i + cntQ K p i
  | 0 => rfl
  | i + 1 => by
    have ih := cntQ_next K p i
    unfold cntQ cntP
    rw [ih]
    have hb := atK_bd K i
    by_cases h1 : 0 ≤ atK K i ∧ atK K i ≤ (p : Int)
    · rw [if_pos h1, if_pos (by omega), if_neg (by omega)]; omega
    · by_cases h2 : atK K i = ((p + 1 : Nat) : Int)
      · rw [if_neg h1, if_pos (by omega), if_pos h2]; omega
      · rw [if_neg h1, if_neg (by omega), if_neg h2]; omega
def crvL (K : List ByteArray) (M : Nat) : List Int := rowF (fun p => cntQ K p K.length) M
theorem rowP_skip {K : List ByteArray} {i M : Nat} (h : ∀ p, p < M → atK K i ≠ (p : Int)) : rowF (fun p => cntP K p (i + 1)) M = rowF (fun p => cntP K p i) M := by
  unfold rowF
  refine List.map_congr_left fun p hp => ?_
  rw [List.mem_range] at hp
  show cntP K p i + (if atK K i = (p : Int) then 1 else 0) = _
  rw [if_neg (h p hp)]
  omega
theorem rowP_set {K : List ByteArray} {i M a : Nat} (h : atK K i = (a : Int)) : (rowF (fun p => cntP K p i) M).set a (cntP K a i + 1) = rowF (fun p => cntP K p (i + 1)) M := by
  apply List.ext_getElem
  · simp [rowF]
  · intro p h1 h2
    rw [List.getElem_set]
    simp only [rowF, List.getElem_map, List.getElem_range]
    by_cases e : a = p
    · subst e
      rw [if_pos rfl, show cntP K a (i + 1) = cntP K a i + (if atK K i = (a : Int) then 1 else 0) from rfl, if_pos h]
    · rw [if_neg e, show cntP K p (i + 1) = cntP K p i + (if atK K i = (p : Int) then 1 else 0) from rfl, if_neg (by rw [h]; omega)]
      omega
theorem mixP_start (K : List ByteArray) (n M : Nat) : rowF (fun p => cntP K p n) M = mixL (fun p => cntQ K p n) (fun p => cntP K p n) 1 M := by
  unfold rowF mixL
  refine List.map_congr_left fun p _ => ?_
  by_cases h : p < 1
  · obtain rfl : p = 0 := by omega
    rw [if_pos h]
    exact (cntQ_zero K n).symm
  · rw [if_neg h]
theorem mixP_end (K : List ByteArray) {M p : Nat} (h : M ≤ p) : mixL (fun p => cntQ K p K.length) (fun p => cntP K p K.length) p M = crvL K M := by
  unfold crvL rowF mixL
  refine List.map_congr_left fun q hq => ?_
  rw [List.mem_range] at hq
  rw [if_pos (by omega)]
/-- The reference's row, in which places below n are done. -/
def rowQ (K : List ByteArray) (i M n : Nat) : List Int := (List.range M).map fun j => cntQ K j i + if 0 ≤ atK K i ∧ atK K i ≤ (j : Int) ∧ j + 1 < n then 1 else 0
theorem rowQ_start {K : List ByteArray} {i M n : Nat} (h : (n : Int) ≤ atK K i + 1) : rowQ K i M n = rowF (fun p => cntQ K p i) M := by
  unfold rowQ rowF
  refine List.map_congr_left fun j _ => ?_
  rw [if_neg (by omega)]
  omega
theorem rowQ_end {K : List ByteArray} {i M n : Nat} (h : atK K i < 0 ∨ M < n) : rowQ K i M n = rowF (fun p => cntQ K p (i + 1)) M := by
  unfold rowQ rowF
  refine List.map_congr_left fun j hj => ?_
  rw [List.mem_range] at hj
  show _ = cntQ K j i + (if 0 ≤ atK K i ∧ atK K i ≤ (j : Int) then 1 else 0)
  by_cases h2 : 0 ≤ atK K i ∧ atK K i ≤ (j : Int)
  · rw [if_pos ⟨h2.1, h2.2, by omega⟩, if_pos h2]
  · rw [if_neg (fun h3 => h2 ⟨h3.1, h3.2.1⟩), if_neg h2]
theorem rowQ_get {K : List ByteArray} {i M n : Nat} (hn : n < M) : (rowQ K i M (n + 1))[n]? = some (cntQ K n i) := by
  unfold rowQ
  rw [List.getElem?_map, List.getElem?_range hn]
  show some (cntQ K n i + if 0 ≤ atK K i ∧ atK K i ≤ (n : Int) ∧ n + 1 < n + 1 then 1 else 0) = some (cntQ K n i)
  rw [if_neg (by omega), Int.add_zero]
theorem rowQ_set {K : List ByteArray} {i M n : Nat} (h0 : 0 ≤ atK K i) (h : atK K i ≤ (n : Int)) : (rowQ K i M (n + 1)).set n (cntQ K n i + 1) = rowQ K i M (n + 2) := by
  apply List.ext_getElem
  · simp [rowQ]
  · intro p h1 h2
    rw [List.getElem_set]
    simp only [rowQ, List.getElem_map, List.getElem_range]
    by_cases e : n = p
    · subst e
      rw [if_pos rfl, if_pos ⟨h0, h, by omega⟩]
    · rw [if_neg e]
      by_cases h3 : 0 ≤ atK K i ∧ atK K i ≤ (p : Int) ∧ p + 1 < n + 1
      · rw [if_pos h3, if_pos ⟨h3.1, h3.2.1, by omega⟩]
      · rw [if_neg h3, if_neg (fun h4 => h3 ⟨h4.1, h4.2.1, by omega⟩)]
end Go.Proofs.YtehbmnkbmgnkfaaGreatDoor

/- Normal, of a request without %, with fewer than 20 parts: the walk; awake. -/
import Derived.Test.YtgohddfnhofjhaaGreatDoorC06
import Derived.Test.YtgohddfnhofjhaaGreatDoorC30
import Derived.Lib.OwnBridge
namespace Go.Proofs.YtgohddfnhofjhaaGreatDoor
open Go.RowKit Go.Lib Go.Sort Go.Shelf
def nameP (s : ByteArray) : ByteArray := ⟨(Lib.cut s.data.toList [61]).1.toArray⟩
theorem nameOf_any (s : ByteArray) (m : Int) (w : World) (hs : s.size ≤ 1000) (hm : w.cell? ⟨0, 0, none⟩ = some (.int .i64 m)) :
 Calls Tryz.prog 56 #[.string s] w fun e w' => e = .returned (.string (nameP s)) ∧ ∃ n, w' = w.drewN n := by
 have h := cut_any s ⟨#[61]⟩ m w (by omega) hm
 obtain ⟨X, hX⟩ : ∃ X, X = nameP s := ⟨_, rfl⟩
 have e : (⟨(Lib.cut s.data.toList (⟨#[61]⟩ : ByteArray).data.toList).1.toArray⟩ : ByteArray) = X := by rw [hX]; rfl
 rw [e] at h
 rw [← hX]
 generalize (⟨(Lib.cut s.data.toList (⟨#[61]⟩ : ByteArray).data.toList).2.1.toArray⟩ : ByteArray) = Y at h
 generalize (Lib.cut s.data.toList (⟨#[61]⟩ : ByteArray).data.toList).2.2 = Z at h
 have H := Lib.hid h
 clear h hX e
 go_enter Tryz.func56, Tryz.ntmps56
 go_wp2_with (go_at_call 53; refine (H.out).mono ?_; rintro e w2 ⟨rfl, n, rfl⟩)
 go_ret
 exact ⟨rfl, n, rfl⟩
def Pt : Type := { s : ByteArray // s.size ≤ 1000 }
instance : Inhabited Pt := ⟨⟨⟨#[]⟩, by decide⟩⟩
def encPt (x : Pt) : Value := .string x.1
def cmpP (a b : ByteArray) : Int := Lib.compareBytes (nameP a).data.toList (nameP b).data.toList
set_option maxRecDepth 100000 in
theorem cmp_any (a b : ByteArray) (m : Int) (w : World) (ha : a.size ≤ 1000) (hb : b.size ≤ 1000) (hm : w.cell? ⟨0, 0, none⟩ = some (.int .i64 m)) :
 Calls Tryz.prog 58 #[.string a, .string b] w fun e w' => e = .returned (.int .i64 (cmpP a b)) ∧ ∃ n, w' = w.drewN n := by
 have h1 := Lib.hid (nameOf_any a m w ha hm)
 have h2 := Lib.hid (fun n => nameOf_any b m (w.drewN n) hb hm)
 have h3 := Lib.hid (fun W => Tryz.strings_Compare (nameP a) (nameP b) W)
 obtain ⟨X, hX⟩ : ∃ X, X = nameP a := ⟨_, rfl⟩
 obtain ⟨Y, hY⟩ : ∃ Y, Y = nameP b := ⟨_, rfl⟩
 obtain ⟨Z, hZ⟩ : ∃ Z, Z = cmpP a b := ⟨_, rfl⟩
 have e : Lib.compareBytes X.data.toList Y.data.toList = Z := by rw [hX, hY, hZ]; rfl
 rw [← hX] at h1 h3
 rw [← hY] at h2 h3
 rw [← hZ]
 rw [e] at h3
 clear hX hY hZ e hm
 go_enter Tryz.func58, Tryz.ntmps58
 go_wp2_with fail
 refine (h1.out).mono ?_
 rintro e w2 ⟨rfl, n, rfl⟩
 go_wp2_with fail
 refine (h2.out n).mono ?_
 rintro e w2 ⟨rfl, k, rfl⟩
 go_wp2_with fail
 refine (h3.out _).mono ?_
 rintro e w2 ⟨rfl, rfl⟩
 go_wp2
 go_ret
 exact ⟨rfl, n + k, rfl⟩
theorem cell_sort (w : World) (blk m : Nat) (dk : Array Pt) (os : Array Obj) (hb : 0 < blk) {v : Value} (h0 : 0 < w.heap.size) (h : w.cell? ⟨0, 0, none⟩ = some v) : (sortWorld encPt w blk 0 m dk os).cell? ⟨0, 0, none⟩ = some v := by
 unfold sortWorld
 rw [cell?_grow _ _ _ (by rw [size_putRow]; exact h0), cell?_putRow_other _ _ _ _ _ _ (Or.inl (by show (0 : Nat) ≠ blk; omega))]
 exact h
theorem cmp_reads (w : World) (m : Int) (blk size : Nat) (hb : 0 < blk) (hm : w.cell? ⟨0, 0, none⟩ = some (.int .i64 m)) :
 CmpReads Tryz.prog 58 #[] encPt (fun a b => cmpP a.1 b.1) blk 0 size w := fun k os dk _ x y =>
 cmp_any x.1 y.1 m _ x.2 y.2 (cell_sort w blk k dk os hb (World.block_lt_of_cell? w _ hm) hm)
def insP (L : List Pt) : List Pt := (Sort.insertionSort (ltOf fun a b : Pt => cmpP a.1 b.1) L.toArray 0 L.length).toList
theorem inner_size {α : Type} [Inhabited α] (lt : α → α → Bool) (a : Nat) : ∀ (j : Nat) (d : Array α), (insInner lt a j d).size = d.size := by
 intro j
 induction j with
 | zero => intro d; rfl
 | succ j ih =>
  intro d
  unfold insInner
  split
  ·rw [ih, size_swp]
  ·rfl
theorem outer_size {α : Type} [Inhabited α] (lt : α → α → Bool) (a b : Nat) : ∀ (n i : Nat) (d : Array α), b - i ≤ n → (insOuter lt a b i d).size = d.size := by
 intro n
 induction n with
 | zero => intro i d h; rw [insOuter, if_neg (by omega)]
 | succ n ih =>
  intro i d h
  by_cases hi : i < b
  ·rw [insOuter_go _ _ _ _ _ hi, ih _ _ (by omega), inner_size]
  ·rw [insOuter, if_neg hi]
theorem insP_len (L : List Pt) : (insP L).length = L.length := by
 unfold insP Sort.insertionSort
 rw [Array.length_toList, outer_size _ _ _ _ _ _ (Nat.le_refl _)]
 simp
abbrev encP1 (x : Pt) : List Value := [.string x.1]
theorem flatP (L : List Pt) : L.flatMap encP1 = L.map encPt := by
 induction L with
 | nil => rfl
 | cons x r ih => rw [List.flatMap_cons, ih]; rfl
theorem stable_of (w : World) (v : Value) (ao : Option Addr) (n cap : Nat) (Q : World → Prop) (hv : v = .slice ao n cap) (hn : n < 20)
 (HC : Hid (Calls Tryz.prog 138 #[.slice ao n cap, .int .i64 0, .int .i64 n, .func (.func 58) #[] #[]] w fun e w' => e = .returned (.tuple #[]) ∧ Q w')) :
 Calls Tryz.prog 57 #[v, .func (.func 58) #[] #[]] w fun e w' => e = .returned (.tuple #[]) ∧ Q w' := by
 subst hv
 have h1 : ¬ (20 : Int) ≤ (n : Int) := by omega
 have h2 : ¬ (20 : Int) < (n : Int) := by omega
 have H1 : Hid (Calls Tryz.prog 89 #[.slice ao n cap, .int .i64 n, .func (.func 58) #[] #[]] w fun e w' => e = .returned (.tuple #[]) ∧ Q w') := Lib.hid (by
  go_enter Tryz.func89, Tryz.ntmps89
  go_wp2_with fail
  refine wp_loop_rounds 1 ?_
  rw [rounds_succ]
  go_wp2_with fail
  refine HC.out.mono ?_
  rintro e w' ⟨rfl, hq⟩
  have HQ := Lib.hid hq
  clear hq
  go_wp2_with fail
  refine wp_loop_rounds 1 ?_
  rw [rounds_succ]
  go_wp2_with fail
  go_end0
  exact ⟨rfl, HQ.out⟩)
 go_enter Tryz.func57, Tryz.ntmps57
 go_wp2_with fail
 refine H1.out.mono ?_
 rintro e w' ⟨rfl, hq⟩
 have HQ := Lib.hid hq
 clear hq
 go_wp2_with fail
 go_end0
 exact ⟨rfl, HQ.out⟩
theorem insNil_any (w : World) (ao : Option Addr) (cap : Nat) (f : Value) :
 Calls Tryz.prog 138 #[.slice ao 0 cap, .int .i64 0, .int .i64 0, f] w fun e w' => e = .returned (.tuple #[]) ∧ w' = w := by
 go_enter Tryz.func138, Tryz.ntmps138
 go_wp2_with fail
 refine wp_loop_rounds 1 ?_
 rw [rounds_succ]
 go_wp2_with fail
 go_end0
 exact ⟨rfl, rfl⟩
theorem insP_nil : insP [] = [] := List.length_eq_zero_iff.1 (insP_len [])
theorem stable_any (w : World) (base : Nat) (v : Value) (L : List Pt) (m : Int) (hb0 : 0 < base) (hm : w.cell? ⟨0, 0, none⟩ = some (.int .i64 m)) (h : Own w base 9 1 encP1 v L) (hn : L.length < 20) :
 Calls Tryz.prog 57 #[v, .func (.func 58) #[] #[]] w fun e w' => e = .returned (.tuple #[]) ∧ Own w' base 9 1 encP1 v (insP L) ∧ Below base w w' := by
 have eg : ∀ args w, (callFunc 58 args).run Tryz.prog w = .ok (.enter 58 args) w := enters_of Tryz.func58 (by kernel_rfl) rfl
 by_cases hL : L = []
 ·subst hL
  obtain ⟨ao, cap, rfl, _⟩ := h.sl (fun _ => rfl)
  rw [insP_nil]
  exact stable_of w _ ao 0 cap _ rfl (by decide) (Lib.hid ((insNil_any w ao cap _).mono fun e w' ⟨h1, h2⟩ => ⟨h1, by rw [h2]; exact h, by rw [h2]; exact Below.refl _ _⟩))
 unfold Own at h
 rw [flatP] at h
 obtain ⟨g, cap, rfl, hg1, hg2, hnc, hcm, hl, hH⟩ := holds_of_ownsRow h (by
  rintro rfl
  rcases h.2 with ⟨_, h2⟩ | ⟨g, cap, cur, hv, _⟩
  ·exact hL (List.length_eq_zero_iff.1 h2)
  ·cases hv)
 have hc := Any.insertionSortCmpFunc_one Tryz.laysIns encPt (fun _ => rfl) (fun a b => cmpP a.1 b.1) 58 #[] g 0 cap 0 L.length L.toArray w eg (cmp_reads w m g _ (by omega) hm) hH (Nat.zero_le _) (by simp) (by simp; omega)
 change Calls Tryz.prog 138 _ _ _ at hc
 have hsz : L.toArray.size = L.length := by simp
 rw [hsz] at hc
 have HC : Hid (Calls Tryz.prog 138 #[.slice (some ⟨g, 0, none⟩) L.length cap, .int .i64 0, .int .i64 L.length, .func (.func 58) #[] #[]] w fun e w' => e = .returned (.tuple #[]) ∧ Own w' base 9 1 encP1 (.slice (some ⟨g, 0, none⟩) L.length cap) (insP L) ∧ Below base w w') := Lib.hid (hc.mono (by
  rintro e w' ⟨rfl, n, rfl⟩
  have e2 : Sort.insertionSort (ltOf fun a b : Pt => cmpP a.1 b.1) L.toArray 0 L.length = (insP L).toArray := by simp [insP]
  rw [e2]
  refine ⟨rfl, ?_, ?_⟩
  ·have h3 := ownsRow_putRow (q := 0) (k := L.length) h (insP_len L) (Nat.le_refl _)
   rw [List.take_of_length_le (Nat.le_of_eq (insP_len L))] at h3
   unfold Own
   rw [flatP, insP_len]
   exact h3
  ·exact below_drewN (below_putRow (q := 0) (Below.refl base w) hg1) n))
 exact stable_of w _ (some ⟨g, 0, none⟩) L.length cap _ rfl hn HC
end Go.Proofs.YtgohddfnhofjhaaGreatDoor
namespace Go.Proofs.YtgohddfnhofjhaaGreatDoor
open Go.RowKit Go.Lib Go.Sort Go.Shelf
def keepP (D : List ByteArray) (x : ByteArray) : Bool := !decide (x = ⟨#[]⟩) && !containsS D (nameP x)
def parF (W D : List ByteArray) : Nat → List ByteArray
 | 0 => []
 | n + 1 => if keepP D (W.getD n ⟨#[]⟩) = true then parF W D n ++ [W.getD n ⟨#[]⟩] else parF W D n
theorem parF_next {W D : List ByteArray} {n : Nat} {x : ByteArray} (hx : W[n]? = some x) : parF W D (n + 1) = if keepP D x = true then parF W D n ++ [x] else parF W D n := by
 rw [parF, List.getD_eq_getElem?_getD, hx, Option.getD_some]
theorem parF_len (W D : List ByteArray) : ∀ n, (parF W D n).length ≤ n
 | 0 => Nat.le_refl _
 | n + 1 => by
  have := parF_len W D n
  unfold parF
  split
  ·simp; omega
  ·omega
theorem parF_mem (W D : List ByteArray) : ∀ n, n ≤ W.length → ∀ x, x ∈ parF W D n → x ∈ W
 | 0, _, x, h => by simp [parF] at h
 | n + 1, hn, x, h => by
  have ih := parF_mem W D n (by omega)
  unfold parF at h
  split at h
  ·rw [List.mem_append, List.mem_singleton] at h
   rcases h with h | rfl
   ·exact ih x h
   ·rw [List.getD_eq_getElem?_getD, List.getElem?_eq_getElem (by omega), Option.getD_some]
    exact List.getElem_mem _
  ·exact ih x h
def toPt (x : ByteArray) : Pt := if h : x.size ≤ 1000 then ⟨x, h⟩ else default
theorem toPt_val {x : ByteArray} (h : x.size ≤ 1000) : (toPt x).1 = x := by simp [toPt, h]
def sortB (L : List ByteArray) : List ByteArray := (insP (L.map toPt)).map (·.1)
theorem flat_pt {L : List ByteArray} (h : ∀ x, x ∈ L → x.size ≤ 1000) : (L.map toPt).flatMap encP1 = L.flatMap encS := by
 induction L with
 | nil => rfl
 | cons x r ih =>
  rw [List.map_cons, List.flatMap_cons, List.flatMap_cons, ih (fun y hy => h y (by simp [hy]))]
  show [Value.string (toPt x).1] ++ _ = _
  rw [toPt_val (h x (by simp))]
  rfl
theorem flat_val (L : List Pt) : (L.map (·.1)).flatMap encS = L.flatMap encP1 := by
 induction L with
 | nil => rfl
 | cons x r ih => rw [List.map_cons, List.flatMap_cons, List.flatMap_cons, ih]; rfl
theorem sortB_len (L : List ByteArray) : (sortB L).length = L.length := by simp [sortB, insP_len]
theorem sortB_any (w : World) (base : Nat) (v : Value) (L : List ByteArray) (m : Int) (hb0 : 0 < base) (hm : w.cell? ⟨0, 0, none⟩ = some (.int .i64 m)) (h : Own w base 9 1 encS v L) (hs : ∀ x, x ∈ L → x.size ≤ 1000) (hn : L.length < 20) :
 Calls Tryz.prog 57 #[v, .func (.func 58) #[] #[]] w fun e w' => e = .returned (.tuple #[]) ∧ Own w' base 9 1 encS v (sortB L) ∧ Below base w w' := by
 have h2 : Own w base 9 1 encP1 v (L.map toPt) := by
  unfold Own at h ⊢
  rw [flat_pt hs, List.length_map]
  exact h
 refine (stable_any w base v (L.map toPt) m hb0 hm h2 (by simpa using hn)).mono ?_
 rintro e w' ⟨h3, h4, h5⟩
 refine ⟨h3, ?_, h5⟩
 unfold Own at h4 ⊢
 unfold sortB
 rw [flat_val, List.length_map]
 exact h4
def cutP (s sep : ByteArray) : ByteArray := ⟨(Lib.cut s.data.toList sep.data.toList).1.toArray⟩
def cutQ (s sep : ByteArray) : ByteArray := ⟨(Lib.cut s.data.toList sep.data.toList).2.1.toArray⟩
def partsQ (s : ByteArray) (D : List ByteArray) : List ByteArray := parF (wordsB (cutQ s ⟨#[63]⟩) ⟨#[38]⟩) D (wordsB (cutQ s ⟨#[63]⟩) ⟨#[38]⟩).length
def normB (s : ByteArray) (D : List ByteArray) : ByteArray :=
 if 0 < (partsQ s D).length then tidyB (wordsB (cutP s ⟨#[63]⟩) ⟨#[47]⟩) ++ (⟨#[63]⟩ ++ joinB (sortB (partsQ s D)) ⟨#[38]⟩) else tidyB (wordsB (cutP s ⟨#[63]⟩) ⟨#[47]⟩)
theorem joinB_size {L : List ByteArray} {sep : ByteArray} (h : ∀ x, x ∈ L → x.size ≤ 1000) (hL : L.length ≤ 1000) (hs : sep.size ≤ 10) : (joinB L sep).size ≤ 1010000 := by
 have h1 := joinB_len (sep := sep) h
 have h2 : (1000 + sep.size) * L.length ≤ 1010 * 1000 := Nat.mul_le_mul (by omega) hL
 unfold joinB
 rw [mk_size]
 omega
theorem tidyB_size {ps : List ByteArray} (h : ∀ x, x ∈ ps → x.size ≤ 1000) (hl : ps.length ≤ 1000) : (tidyB ps).size ≤ 1010002 := by
 have h1 := joinB_size (L := tidL ps ps.length) (sep := ⟨#[47]⟩) (fun x hx => h x (tidL_mem ps _ (Nat.le_refl _) x hx)) (by have := tidL_len ps ps.length; omega) (by decide)
 have h2 : (⟨#[47]⟩ : ByteArray).size = 1 := rfl
 unfold tidyB
 split
 ·rw [ByteArray.size_append, ByteArray.size_append]; omega
 ·rw [ByteArray.size_append]; omega
theorem sortB_mem {L : List ByteArray} {x : ByteArray} (h : x ∈ sortB L) : x.size ≤ 1000 := by
 unfold sortB at h
 rw [List.mem_map] at h
 obtain ⟨y, _, rfl⟩ := h
 exact y.2
theorem contains_any (D : List ByteArray) (x : ByteArray) (v : Value) (w : World) (h : Sl w 1 encS v D) :
 Calls Tryz.prog 55 #[v, .string x] w fun e w' => e = .returned (.bool (containsS D x)) ∧ w' = w := by
 obtain ⟨ao, cap, rfl, hcap, hmax, hnil, hel⟩ := h
 unfold maxLen at hmax
 by_cases he : D = []
 ·subst he
  have hc : containsS [] x = false := rfl
  rw [hc]
  exact Tryz.slices_Contains_string_empty ao cap x w
 ·have h0 : 0 < D.length := List.length_pos_iff.2 he
  obtain ⟨b, off, rfl, _⟩ := hel 0 D[0] (by simp)
  have h2 := Tryz.slices_Contains_string b off D.length cap D x w (Nat.le_refl _) (by omega) (fun j hj => by
   obtain ⟨b', off', e, hc⟩ := hel j D[j] (by simp)
   simp only [Option.some.injEq, Addr.mk.injEq, and_true] at e
   obtain ⟨rfl, rfl⟩ := e
   have := hc 0 _ rfl
   simp only [Nat.mul_one, Nat.add_zero] at this
   rw [this]
   simp [List.getD_eq_getElem?_getD, hj])
  rw [List.take_length] at h2
  exact h2
end Go.Proofs.YtgohddfnhofjhaaGreatDoor
namespace Go.Proofs.YtgohddfnhofjhaaGreatDoor
open Go.RowKit Go.Lib Go.Sort Go.Shelf
theorem ret_two {a b : ByteArray} {f : Value} (h : a = b) : Ending.returned (.tuple #[.string a, f]) = .returned (.tuple #[.string b, f]) := by rw [h]
set_option maxRecDepth 100000 in
set_option maxHeartbeats 4000000 in
theorem normal0_any (s : ByteArray) (D : List ByteArray) (v : Value) (w : World) (m : Int) (hr : reqB s = true) (h37 : ∀ i, i < s.size → ¬ chr s i = 37) (hD : Sl w 1 encS v D) (hD20 : D.length ≤ 20) (hm : w.cell? ⟨0, 0, none⟩ = some (.int .i64 m)) (hn : (partsQ s D).length < 20) :
 Calls Tryz.prog 32 #[.string s, v] w fun e w' => e = .returned (.tuple #[.string (normB s D), .int .i64 0]) ∧ Below w.heap.size w w' := by
 obtain ⟨_, hs, _, _⟩ := reqB_true hr
 have HI := Lib.hid (isReq_any s w (by omega))
 rw [hr] at HI
 have HDC := Lib.hid (fun W => decoded0_any s W hs h37)
 have HM := Lib.hid hm
 have h0 := World.block_lt_of_cell? w _ hm
 have HCU := Lib.hid (fun W h => cut_any s ⟨#[63]⟩ m W (by omega) h)
 have hc1 := (cut_size s ⟨#[63]⟩).1
 have hc2 := (cut_size s ⟨#[63]⟩).2
 have HN : Hid (normB s D = if 0 < (partsQ s D).length then tidyB (wordsB (cutP s ⟨#[63]⟩) ⟨#[47]⟩) ++ (⟨#[63]⟩ ++ joinB (sortB (partsQ s D)) ⟨#[38]⟩) else tidyB (wordsB (cutP s ⟨#[63]⟩) ⟨#[47]⟩)) := Lib.hid rfl
 have HPQ : Hid (partsQ s D = parF (wordsB (cutQ s ⟨#[63]⟩) ⟨#[38]⟩) D (wordsB (cutQ s ⟨#[63]⟩) ⟨#[38]⟩).length) := Lib.hid rfl
 obtain ⟨R, hR⟩ : ∃ R, R = normB s D := ⟨_, rfl⟩
 obtain ⟨P, hP⟩ : ∃ P, P = cutP s ⟨#[63]⟩ := ⟨_, rfl⟩
 obtain ⟨Q, hQ⟩ : ∃ Q, Q = cutQ s ⟨#[63]⟩ := ⟨_, rfl⟩
 have eP : (⟨(Lib.cut s.data.toList (⟨#[63]⟩ : ByteArray).data.toList).1.toArray⟩ : ByteArray) = P := by rw [hP]; rfl
 have eQ : (⟨(Lib.cut s.data.toList (⟨#[63]⟩ : ByteArray).data.toList).2.1.toArray⟩ : ByteArray) = Q := by rw [hQ]; rfl
 rw [eP] at hc1
 rw [eQ] at hc2
 rw [eP, eQ] at HCU
 rw [← hR] at HN ⊢
 rw [← hP] at HN
 rw [← hQ] at HPQ
 generalize (Lib.cut s.data.toList (⟨#[63]⟩ : ByteArray).data.toList).2.2 = Z at HCU
 obtain ⟨W, hW⟩ : ∃ W, W = wordsB Q ⟨#[38]⟩ := ⟨_, rfl⟩
 have HSP := Lib.hid (fun w' h => split_any Q ⟨#[38]⟩ m w' (by omega) h (by decide))
 have hWL := words_many Q ⟨#[38]⟩ (by decide)
 have HWS := Lib.hid (fun x h => @words_size Q ⟨#[38]⟩ x h)
 have HTD := Lib.hid (fun w' h => tidy_any P w' m (by omega) h (by have := words_many P ⟨#[47]⟩ (by decide); omega) (fun x hx => by have := words_size hx; omega))
 rw [← hW] at HPQ HSP hWL HWS
 have HTS := Lib.hid (tidyB_size (ps := wordsB P ⟨#[47]⟩) (fun x hx => by have := words_size hx; omega) (by have := words_many P ⟨#[47]⟩ (by decide); omega))
 obtain ⟨TD, hTD⟩ : ∃ T, T = tidyB (wordsB P ⟨#[47]⟩) := ⟨_, rfl⟩
 rw [← hTD] at HN HTD HTS
 obtain ⟨PA, hPA⟩ : ∃ P, P = partsQ s D := ⟨_, rfl⟩
 rw [← hPA] at HN HPQ hn
 clear eP eQ hR hP hQ hW hTD hPA hr h37 hm
 have HDS := Lib.hid hD
 have HQS : Hid (Q.size ≤ 300) := Lib.hid (by omega)
 obtain ⟨dao, dcap, rfl, hdc, hdm, _, _⟩ := hD
 unfold maxLen at hdm
 have hW301 : W.length ≤ 301 := by have := HQS.out; omega
 clear hc1 hc2 hs hWL
 go_enter Tryz.func32, Tryz.ntmps32
 go_wp2_with fail
 refine HI.out.mono ?_
 rintro e w1 ⟨rfl, rfl⟩
 go_wp2_with fail
 refine (HDC.out _).mono ?_
 rintro e w1 ⟨rfl, hb1⟩
 have HB1 := Lib.hid hb1
 have HM1 := Lib.hid ((hb1.cell (p := ⟨0, 0, none⟩) h0).trans HM.out)
 clear hb1
 go_wp2_with fail
 refine (HCU.out _ HM1.out).mono ?_
 rintro e w2 ⟨rfl, nn, rfl⟩
 have HM2 : Hid ((w1.drewN nn).cell? ⟨0, 0, none⟩ = some (.int .i64 m)) := HM1
 have HB2 := Lib.hid (below_drewN HB1.out nn)
 clear HB1
 obtain ⟨w2, hw2⟩ : ∃ w2, w2 = w1.drewN nn := ⟨_, rfl⟩
 rw [← hw2] at HM2 HB2 ⊢
 clear hw2 HM1
 go_wp2_with fail
 refine (HSP.out _ HM2.out).mono ?_
 rintro e w3 ⟨rfl, hw3⟩
 have HEL : Hid (∀ (k : Nat) (x : ByteArray), W[k]? = some x → w3.cell? ⟨w2.heap.size, k, none⟩ = some (.string x)) := Lib.hid (fun k x hx => by
  rw [hw3, cell_of_block (block_new w2 _)]
  simp [hx])
 have hb3 : Below w2.heap.size w2 w3 := by rw [hw3]; exact (Below.refl _ _).alloc (Nat.le_refl _) _
 have hsz3 : w3.heap.size = w2.heap.size + 1 := by rw [hw3]; simp
 have hsz2 := HB2.out.size
 have HB3 := Lib.hid (HB2.out.trans (hb3.mono hsz2))
 have HM3 := Lib.hid ((hb3.cell (p := ⟨0, 0, none⟩) (show 0 < w2.heap.size by omega)).trans HM2.out)
 obtain ⟨A0, hA0⟩ : ∃ A0, A0 = w2.heap.size := ⟨_, rfl⟩
 rw [← hA0] at HEL hsz3 ⊢
 have hA3 : A0 < w3.heap.size := by omega
 clear hw3 hb3 hsz3 hA0 HM2 HB2
 go_wp2
 go_loopg [11, 39] W.length (fun gg s11 s39 wr => ∃ kk : Nat, kk ≤ W.length ∧ W.length - kk ≤ gg ∧ s39 = .int .i64 kk ∧ Aside (Own wr w3.heap.size 9 1 encS s11 (parF W D kk)) ∧ Aside (Below w3.heap.size w3 wr))
 case atStart => exact ⟨0, Nat.zero_le _, by omega, by go_num, Own.nil, Below.refl _ _⟩
 case round =>
  obtain ⟨kk, hkk, hg, rfl, OW, BW⟩ := hrel
  have HOW := Lib.hid OW.out
  have HBW := Lib.hid BW.out
  have hszw := HBW.out.size
  have HMR := Lib.hid ((HBW.out.cell (p := ⟨0, 0, none⟩) (show 0 < w3.heap.size by omega)).trans HM3.out)
  obtain ⟨T, hT⟩ : ∃ T, T = parF W D kk := ⟨_, rfl⟩
  have hTL := parF_len W D kk
  rw [← hT] at HOW hTL
  have HT := Lib.hid hT
  clear hT OW BW
  obtain ⟨ao5, cp5, rfl, hcap5, hmax5, _, _⟩ := Own.sl HOW.out encS_len
  unfold maxLen at hmax5
  by_cases hlt : kk < W.length
  ·have hltz : (kk : Int) < (W.length : Int) := by omega
   obtain ⟨x, hx⟩ : ∃ x, W[kk]? = some x := ⟨W[kk], by simp [hlt]⟩
   have c0 : wr.cell? ⟨A0, kk, none⟩ = some (.string x) := (HBW.out.cell (p := ⟨A0, kk, none⟩) hA3).trans (HEL.out kk x hx)
   have HTN := Lib.hid (parF_next (D := D) hx)
   rw [← HT.out] at HTN
   have HXS : Hid (x.size ≤ 1000) := Lib.hid (Nat.le_trans (HWS.out x (List.mem_of_getElem? hx)) (Nat.le_trans HQS.out (by decide)))
   clear hx
   by_cases e1 : x = ⟨#[]⟩
   ·subst e1
    have HN2 : Hid (parF W D (kk + 1) = T) := Lib.hid (by rw [HTN.out]; simp [keepP])
    go_wp2
    go_roundg (W.length - (kk + 1))
    case measure => omega
    case rel => exact ⟨kk + 1, by omega, by omega, by go_num, (show Own _ _ _ _ _ _ _ by rw [HN2.out]; exact HOW.out), HBW.out⟩
   ·have hke : Hid (keepP D x = !containsS D (nameP x)) := Lib.hid (by simp [keepP, e1])
    have f1 : (x.toList == []) = false := str_ne e1
    have HNO := Lib.hid (nameOf_any x m wr HXS.out HMR.out)
    have HCO := Lib.hid (fun n => contains_any D (nameP x) _ (wr.drewN n) ((HDS.out.below (HB3.out) (Nat.le_refl _)).below (below_drewN HBW.out n) (Nat.le_refl _)))
    obtain ⟨c, hc⟩ : ∃ c, c = containsS D (nameP x) := ⟨_, rfl⟩
    rw [← hc] at hke HCO
    obtain ⟨nx, hnx⟩ : ∃ c, c = nameP x := ⟨_, rfl⟩
    rw [← hnx] at HCO HNO
    clear e1 hc hnx
    cases c
    case true =>
     have HN2 : Hid (parF W D (kk + 1) = T) := Lib.hid (by rw [HTN.out, hke.out]; simp)
     go_wp2_with fail
     refine HNO.out.mono ?_
     rintro e w5 ⟨rfl, n5, rfl⟩
     go_wp2_with fail
     refine (HCO.out n5).mono ?_
     rintro e w6 ⟨rfl, rfl⟩
     go_wp2
     go_roundg (W.length - (kk + 1))
     case measure => omega
     case rel => exact ⟨kk + 1, by omega, by omega, by go_num, (show Own _ _ _ _ _ _ _ by rw [HN2.out]; exact HOW.out), below_drewN HBW.out _⟩
    case false =>
     have HN2 : Hid (parF W D (kk + 1) = T ++ [x]) := Lib.hid (by rw [HTN.out, hke.out]; simp)
     have HK : Hid ((T.length + 1) * 16 ≤ 140737488355328) := Lib.hid (by omega)
     go_wp2_with fail
     refine HNO.out.mono ?_
     rintro e w5 ⟨rfl, n5, rfl⟩
     go_wp2_with fail
     refine (HCO.out n5).mono ?_
     rintro e w6 ⟨rfl, rfl⟩
     have HOW5 := Lib.hid (HOW.out.drewN n5)
     have HBW5 := Lib.hid (below_drewN HBW.out n5)
     obtain ⟨w5, hw5⟩ : ∃ w5, w5 = wr.drewN n5 := ⟨_, rfl⟩
     rw [← hw5] at HOW5 HBW5 ⊢
     have hsz5 := HBW5.out.size
     clear hw5 HOW HBW
     go_wp2_with (at_builtin; refine wpList_push rfl _ _ 114 rfl slS rfl rfl x rfl rfl rfl HOW5.out rfl HK.out hsz5 ?_; intro v5 w5 ho5 hb5; obtain ⟨ao6, cp6, rfl, hcap6, hmax6, _, _⟩ := Own.sl ho5 encS_len; have HO5 := Lib.hid ho5; have HB5 := Lib.hid (HBW5.out.trans hb5); clear ho5 hb5)
     go_roundg (W.length - (kk + 1))
     case measure => omega
     case rel => exact ⟨kk + 1, by omega, by omega, by go_num, (show Own _ _ _ _ _ _ _ by rw [HN2.out]; have h := HO5.out; rw [List.length_append] at h; exact h), HB5.out⟩
  ·obtain rfl : kk = W.length := by omega
   have hltz : ¬ (W.length : Int) < (W.length : Int) := by omega
   have hTP : T = PA := by rw [HT.out, HPQ.out]
   subst hTP
   have HSO := Lib.hid (sortB_any wr w3.heap.size _ T m (by omega) HMR.out HOW.out (fun x hx => by
    have h1 := parF_mem W D W.length (Nat.le_refl _) x (by rw [← HT.out]; exact hx)
    exact Nat.le_trans (HWS.out x h1) (Nat.le_trans HQS.out (by decide))) hn)
   go_wp2_with fail
   refine HSO.out.mono ?_
   rintro e w6 ⟨rfl, ho6, hb6⟩
   have HO6 := Lib.hid ho6
   have HB6 := Lib.hid ((HB3.out.trans (HBW.out.mono (HB3.out.size))).trans (hb6.mono (HB3.out.size)))
   have HM6 := Lib.hid ((hb6.cell (p := ⟨0, 0, none⟩) (show 0 < w3.heap.size by omega)).trans HMR.out)
   clear ho6 hb6
   go_wp2_with fail
   refine (HTD.out _ HM6.out).mono ?_
   rintro e w7 ⟨rfl, hb7⟩
   have HB7 := Lib.hid (HB6.out.trans (hb7.mono HB6.out.size))
   have HSL7 := Lib.hid ((HO6.out.sl encS_len).below hb7 (Nat.le_refl _))
   clear hb7
   have HJ := Lib.hid (join_any (sortB T) ⟨#[38]⟩ _ w7 HSL7.out (fun x hx => sortB_mem hx) (by rw [sortB_len]; omega) (by decide))
   have hJs := joinB_size (L := sortB T) (sep := ⟨#[38]⟩) (fun x hx => sortB_mem hx) (by rw [sortB_len]; omega) (by decide)
   have hts := HTS.out
   by_cases hT0 : 0 < T.length
   ·have hTz : (0 : Int) < (T.length : Int) := by omega
    have HNN : Hid (TD ++ (⟨#[63]⟩ ++ joinB (sortB T) ⟨#[38]⟩) = R) := Lib.hid (by rw [HN.out, if_pos hT0])
    generalize joinB (sortB T) ⟨#[38]⟩ = J at HJ hJs HNN
    have hsz1 : ((⟨#[63]⟩ : ByteArray) ++ J).size = 1 + J.size := by rw [ByteArray.size_append]; rfl
    clear hT0
    go_wp2_with fail
    refine HJ.out.mono ?_
    rintro e w8 ⟨rfl, hb8⟩
    have HB8 := Lib.hid (HB7.out.trans (hb8.mono HB7.out.size))
    clear hb8
    go_wp2
    go_ret2
    exact ⟨ret_two HNN.out, HB8.out⟩
   ·have hTz : ¬ (0 : Int) < (T.length : Int) := by omega
    have HNN : Hid (TD = R) := Lib.hid (by rw [HN.out, if_neg hT0])
    clear hT0
    go_wp2
    go_ret2
    exact ⟨ret_two HNN.out, HB7.out⟩
theorem awake_key : normB ⟨#[47, 97, 47, 46, 46, 47, 98, 63, 121, 61, 50, 38, 120, 61, 49]⟩ [] = ⟨#[47, 98, 63, 120, 61, 49, 38, 121, 61, 50]⟩ := by decide +kernel
theorem awake_many : (partsQ ⟨#[47, 97, 47, 46, 46, 47, 98, 63, 121, 61, 50, 38, 120, 61, 49]⟩ []).length < 20 := by decide +kernel
theorem awake_req : reqB ⟨#[47, 97, 47, 46, 46, 47, 98, 63, 121, 61, 50, 38, 120, 61, 49]⟩ = true := by decide +kernel
theorem awake_37 : ∀ i, i < (⟨#[47, 97, 47, 46, 46, 47, 98, 63, 121, 61, 50, 38, 120, 61, 49]⟩ : ByteArray).size → ¬ chr ⟨#[47, 97, 47, 46, 46, 47, 98, 63, 121, 61, 50, 38, 120, 61, 49]⟩ i = 37 := by decide +kernel
set_option maxRecDepth 100000 in
theorem awakeE_any (w : World) (m : Int) (hm : w.cell? ⟨0, 0, none⟩ = some (.int .i64 m)) :
 Calls Tryz.prog 11 #[] w fun e w' => e = .returned (.bool true) ∧ Below w.heap.size w w' := by
 have h := normal0_any ⟨#[47, 97, 47, 46, 46, 47, 98, 63, 121, 61, 50, 38, 120, 61, 49]⟩ [] (.slice none 0 0) w m awake_req awake_37 Sl.nil (by decide) hm awake_many
 rw [awake_key] at h
 have H := Lib.hid h
 clear h hm
 go_enter Tryz.func11, Tryz.ntmps11
 go_wp2_with fail
 refine H.out.mono ?_
 rintro e w1 ⟨rfl, hb⟩
 have HB := Lib.hid hb
 clear hb
 go_wp2
 go_ret
 exact ⟨rfl, HB.out⟩
end Go.Proofs.YtgohddfnhofjhaaGreatDoor

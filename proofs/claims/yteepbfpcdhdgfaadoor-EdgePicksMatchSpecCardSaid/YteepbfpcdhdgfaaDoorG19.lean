/- Contracts of the library, laid by the shelf at this seat. -/
import Derived.Shelf.SlSortCmp.Insertion
import Derived.Test.YteepbfpcdhdgfaaDoorProg
import Derived.Test.YteepbfpcdhdgfaaDoorG05
import Derived.Lib.OwnBridge
namespace Go.Proofs
open Go.Shelf
def Tryd.laysIns_ren : Go.Shelf.Ren := ⟨fun | 20 => 65 | n => n, fun | 24 => 9 | 22 => 22 | 3 => 3 | 25 => 53 | 4 => 4 | 0 => 0 | n => n, fun | n => n⟩
theorem Tryd.laysIns : Go.Proofs.SlLaysF.n20 Tryd.prog Tryd.laysIns_ren := {
  mixed := by kernel_rfl
  f20 := ⟨Tryd.f65.name, by decide, Tryd.func65.trans (congrArg some (by kernel_rfl))⟩
  t0 := Tryd.underlying0
  a0 := Tryd.isAgg0
  z0 := Tryd.sizeOf0
  v0 := Tryd.zeroValue0
  t3 := Tryd.underlying3
  a3 := Tryd.isAgg3
  z3 := Tryd.sizeOf3
  v3 := Tryd.zeroValue3
  t4 := Tryd.underlying4
  a4 := Tryd.isAgg4
  z4 := Tryd.sizeOf4
  v4 := Tryd.zeroValue4
  t22 := Tryd.underlying22
  a22 := Tryd.isAgg22
  z22 := Tryd.sizeOf22
  v22 := Tryd.zeroValue22
  a24 := Tryd.isAgg9
  z24 := Tryd.sizeOf9
  t25 := Tryd.underlying53
  a25 := Tryd.isAgg53
  z25 := Tryd.sizeOf53
  v25 := Tryd.zeroValue53 }
end Go.Proofs

/- nameOf, the comparison of two parts, and the stable sort of at most 20 parts. -/
namespace Go.Proofs.YteepbfpcdhdgfaaDoor
open Go.RowKit Go.Lib Go.Sort Go.Shelf

def nameP (s : ByteArray) : ByteArray := ⟨(Lib.cut s.data.toList [61]).1.toArray⟩
theorem nameOf_any (s : ByteArray) (m : Int) (w : World) (hs : s.size ≤ 1000) (hm : w.cell? ⟨0, 0, none⟩ = some (.int .i64 m)) :
    Calls Tryd.prog 33 #[.string s] w fun e w' => e = .returned (.string (nameP s)) ∧ ∃ n, w' = w.drewN n := by
  have h := cut_any s ⟨#[61]⟩ m w (by omega) hm
  obtain ⟨X, hX⟩ : ∃ X, X = nameP s := ⟨_, rfl⟩
  have e : (⟨(Lib.cut s.data.toList (⟨#[61]⟩ : ByteArray).data.toList).1.toArray⟩ : ByteArray) = X := by rw [hX]; rfl
  rw [e] at h
  rw [← hX]
  generalize (⟨(Lib.cut s.data.toList (⟨#[61]⟩ : ByteArray).data.toList).2.1.toArray⟩ : ByteArray) = Y at h
  generalize (Lib.cut s.data.toList (⟨#[61]⟩ : ByteArray).data.toList).2.2 = Z at h
  have H := Lib.hid h
  clear h hX e
  go_enter Tryd.func33, Tryd.ntmps33
  go_wp2_with (go_at_call 30; refine (H.out).mono ?_; rintro e w2 ⟨rfl, n, rfl⟩)
  go_ret
  exact ⟨rfl, n, rfl⟩

/-- A part of at most 1000 bytes. -/
def Pt : Type := { s : ByteArray // s.size ≤ 1000 }
instance : Inhabited Pt := ⟨⟨⟨#[]⟩, by decide⟩⟩
def encPt (x : Pt) : Value := .string x.1
def cmpP (a b : ByteArray) : Int := Lib.compareBytes (nameP a).data.toList (nameP b).data.toList

set_option maxRecDepth 100000 in
theorem cmp_any (a b : ByteArray) (m : Int) (w : World) (ha : a.size ≤ 1000) (hb : b.size ≤ 1000) (hm : w.cell? ⟨0, 0, none⟩ = some (.int .i64 m)) :
    Calls Tryd.prog 35 #[.string a, .string b] w fun e w' => e = .returned (.int .i64 (cmpP a b)) ∧ ∃ n, w' = w.drewN n := by
  have h1 := Lib.hid (nameOf_any a m w ha hm)
  have h2 := Lib.hid (fun n => nameOf_any b m (w.drewN n) hb hm)
  have h3 := Lib.hid (fun W => Tryd.strings_Compare (nameP a) (nameP b) W)
  obtain ⟨X, hX⟩ : ∃ X, X = nameP a := ⟨_, rfl⟩
  obtain ⟨Y, hY⟩ : ∃ Y, Y = nameP b := ⟨_, rfl⟩
  obtain ⟨Z, hZ⟩ : ∃ Z, Z = cmpP a b := ⟨_, rfl⟩
  have e : Lib.compareBytes X.data.toList Y.data.toList = Z := by rw [hX, hY, hZ]; rfl
  rw [← hX] at h1 h3
  rw [← hY] at h2 h3
  rw [← hZ]
  rw [e] at h3
  clear hX hY hZ e hm
  go_enter Tryd.func35, Tryd.ntmps35
  go_wp2_with fail
  refine (h1.out).mono ?_
  rintro e w2 ⟨rfl, n, rfl⟩
  go_wp2_with fail
  refine (h2.out n).mono ?_
  rintro e w2 ⟨rfl, k, rfl⟩
  go_wp2_with fail
  refine (h3.out _).mono ?_
  rintro e w2 ⟨rfl, rfl⟩
  go_wp2
  go_ret
  exact ⟨rfl, n + k, rfl⟩

theorem cell_sort (w : World) (blk m : Nat) (dk : Array Pt) (os : Array Obj) (hb : 0 < blk) {v : Value} (h0 : 0 < w.heap.size) (h : w.cell? ⟨0, 0, none⟩ = some v) : (sortWorld encPt w blk 0 m dk os).cell? ⟨0, 0, none⟩ = some v := by
  unfold sortWorld
  rw [cell?_grow _ _ _ (by rw [size_putRow]; exact h0), cell?_putRow_other _ _ _ _ _ _ (Or.inl (by show (0 : Nat) ≠ blk; omega))]
  exact h
theorem cmp_reads (w : World) (m : Int) (blk size : Nat) (hb : 0 < blk) (hm : w.cell? ⟨0, 0, none⟩ = some (.int .i64 m)) :
    CmpReads Tryd.prog 35 #[] encPt (fun a b => cmpP a.1 b.1) blk 0 size w := fun k os dk _ x y =>
  cmp_any x.1 y.1 m _ x.2 y.2 (cell_sort w blk k dk os hb (World.block_lt_of_cell? w _ hm) hm)

/-- Parts in the order of their names, those of one name as they were. -/
def insP (L : List Pt) : List Pt := (Sort.insertionSort (ltOf fun a b : Pt => cmpP a.1 b.1) L.toArray 0 L.length).toList
theorem inner_size {α : Type} [Inhabited α] (lt : α → α → Bool) (a : Nat) : ∀ (j : Nat) (d : Array α), (insInner lt a j d).size = d.size := by
  intro j
  induction j with
  | zero => intro d; rfl
  | succ j ih =>
    intro d
    unfold insInner
    split
    · rw [ih, size_swp]
    · rfl
theorem outer_size {α : Type} [Inhabited α] (lt : α → α → Bool) (a b : Nat) : ∀ (n i : Nat) (d : Array α), b - i ≤ n → (insOuter lt a b i d).size = d.size := by
  intro n
  induction n with
  | zero => intro i d h; rw [insOuter, if_neg (by omega)]
  | succ n ih =>
    intro i d h
    by_cases hi : i < b
    · rw [insOuter_go _ _ _ _ _ hi, ih _ _ (by omega), inner_size]
    · rw [insOuter, if_neg hi]
theorem insP_len (L : List Pt) : (insP L).length = L.length := by
  unfold insP Sort.insertionSort
  rw [Array.length_toList, outer_size _ _ _ _ _ _ (Nat.le_refl _)]
  simp
abbrev encP1 (x : Pt) : List Value := [.string x.1]
theorem flatP (L : List Pt) : L.flatMap encP1 = L.map encPt := by
  induction L with
  | nil => rfl
  | cons x r ih => rw [List.flatMap_cons, ih]; rfl
/-- SortStableFunc of fewer than 20, over the insertion sort. -/
theorem stable_of (w : World) (v : Value) (ao : Option Addr) (n cap : Nat) (Q : World → Prop) (hv : v = .slice ao n cap) (hn : n < 20)
    (HC : Hid (Calls Tryd.prog 65 #[.slice ao n cap, .int .i64 0, .int .i64 n, .func (.func 35) #[] #[]] w fun e w' => e = .returned (.tuple #[]) ∧ Q w')) :
    Calls Tryd.prog 34 #[v, .func (.func 35) #[] #[]] w fun e w' => e = .returned (.tuple #[]) ∧ Q w' := by
  subst hv
  have h1 : ¬ (20 : Int) ≤ (n : Int) := by omega
  have h2 : ¬ (20 : Int) < (n : Int) := by omega
  have H1 : Hid (Calls Tryd.prog 51 #[.slice ao n cap, .int .i64 n, .func (.func 35) #[] #[]] w fun e w' => e = .returned (.tuple #[]) ∧ Q w') := Lib.hid (by
    go_enter Tryd.func51, Tryd.ntmps51
    go_wp2_with fail
    refine wp_loop_rounds 1 ?_
    rw [rounds_succ]
    go_wp2_with fail
    refine HC.out.mono ?_
    rintro e w' ⟨rfl, hq⟩
    have HQ := Lib.hid hq
    clear hq
    go_wp2_with fail
    refine wp_loop_rounds 1 ?_
    rw [rounds_succ]
    go_wp2_with fail
    go_end0
    exact ⟨rfl, HQ.out⟩)
  go_enter Tryd.func34, Tryd.ntmps34
  go_wp2_with fail
  refine H1.out.mono ?_
  rintro e w' ⟨rfl, hq⟩
  have HQ := Lib.hid hq
  clear hq
  go_wp2_with fail
  go_end0
  exact ⟨rfl, HQ.out⟩
theorem insNil_any (w : World) (ao : Option Addr) (cap : Nat) (f : Value) :
    Calls Tryd.prog 65 #[.slice ao 0 cap, .int .i64 0, .int .i64 0, f] w fun e w' => e = .returned (.tuple #[]) ∧ w' = w := by
  go_enter Tryd.func65, Tryd.ntmps65
  go_wp2_with fail
  refine wp_loop_rounds 1 ?_
  rw [rounds_succ]
  go_wp2_with fail
  go_end0
  exact ⟨rfl, rfl⟩
theorem insP_nil : insP [] = [] := List.length_eq_zero_iff.1 (insP_len [])
theorem stable_any (w : World) (base : Nat) (v : Value) (L : List Pt) (m : Int) (hb0 : 0 < base) (hm : w.cell? ⟨0, 0, none⟩ = some (.int .i64 m)) (h : Own w base 9 1 encP1 v L) (hn : L.length < 20) :
    Calls Tryd.prog 34 #[v, .func (.func 35) #[] #[]] w fun e w' => e = .returned (.tuple #[]) ∧ Own w' base 9 1 encP1 v (insP L) ∧ Below base w w' := by
  have eg : ∀ args w, (callFunc 35 args).run Tryd.prog w = .ok (.enter 35 args) w := enters_of Tryd.func35 (by kernel_rfl) rfl
  by_cases hL : L = []
  · subst hL
    obtain ⟨ao, cap, rfl, _⟩ := h.sl (fun _ => rfl)
    rw [insP_nil]
    exact stable_of w _ ao 0 cap _ rfl (by decide) (Lib.hid ((insNil_any w ao cap _).mono fun e w' ⟨h1, h2⟩ => ⟨h1, by rw [h2]; exact h, by rw [h2]; exact Below.refl _ _⟩))
  unfold Own at h
  rw [flatP] at h
  obtain ⟨g, cap, rfl, hg1, hg2, hnc, hcm, hl, hH⟩ := holds_of_ownsRow h (by
    rintro rfl
    rcases h.2 with ⟨_, h2⟩ | ⟨g, cap, cur, hv, _⟩
    · exact hL (List.length_eq_zero_iff.1 h2)
    · cases hv)
  have hc := Any.insertionSortCmpFunc_one Tryd.laysIns encPt (fun _ => rfl) (fun a b => cmpP a.1 b.1) 35 #[] g 0 cap 0 L.length L.toArray w eg (cmp_reads w m g _ (by omega) hm) hH (Nat.zero_le _) (by simp) (by simp; omega)
  change Calls Tryd.prog 65 _ _ _ at hc
  have hsz : L.toArray.size = L.length := by simp
  rw [hsz] at hc
  have HC : Hid (Calls Tryd.prog 65 #[.slice (some ⟨g, 0, none⟩) L.length cap, .int .i64 0, .int .i64 L.length, .func (.func 35) #[] #[]] w fun e w' => e = .returned (.tuple #[]) ∧ Own w' base 9 1 encP1 (.slice (some ⟨g, 0, none⟩) L.length cap) (insP L) ∧ Below base w w') := Lib.hid (hc.mono (by
    rintro e w' ⟨rfl, n, rfl⟩
    have e2 : Sort.insertionSort (ltOf fun a b : Pt => cmpP a.1 b.1) L.toArray 0 L.length = (insP L).toArray := by simp [insP]
    rw [e2]
    refine ⟨rfl, ?_, ?_⟩
    · have h3 := ownsRow_putRow (q := 0) (k := L.length) h (insP_len L) (Nat.le_refl _)
      rw [List.take_of_length_le (Nat.le_of_eq (insP_len L))] at h3
      unfold Own
      rw [flatP, insP_len]
      exact h3
    · exact below_drewN (below_putRow (q := 0) (Below.refl base w) hg1) n))
  exact stable_of w _ (some ⟨g, 0, none⟩) L.length cap _ rfl hn HC
end Go.Proofs.YteepbfpcdhdgfaaDoor

/- Normal, of a request without %, with fewer than 20 parts. -/
namespace Go.Proofs.YteepbfpcdhdgfaaDoor
open Go.RowKit Go.Lib Go.Sort Go.Shelf

def keepP (D : List ByteArray) (x : ByteArray) : Bool := !decide (x = ⟨#[]⟩) && !containsS D (nameP x)
/-- The parts among the first n words that are kept. -/
def parF (W D : List ByteArray) : Nat → List ByteArray
  | 0 => []
  | n + 1 => if keepP D (W.getD n ⟨#[]⟩) = true then parF W D n ++ [W.getD n ⟨#[]⟩] else parF W D n
theorem parF_next {W D : List ByteArray} {n : Nat} {x : ByteArray} (hx : W[n]? = some x) : parF W D (n + 1) = if keepP D x = true then parF W D n ++ [x] else parF W D n := by
  rw [parF, List.getD_eq_getElem?_getD, hx, Option.getD_some]
theorem parF_len (W D : List ByteArray) : ∀ n, (parF W D n).length ≤ n
  | 0 => Nat.le_refl _
  | n + 1 => by
    have := parF_len W D n
    unfold parF
    split
    · simp; omega
    · omega
theorem parF_mem (W D : List ByteArray) : ∀ n, n ≤ W.length → ∀ x, x ∈ parF W D n → x ∈ W
  | 0, _, x, h => by simp [parF] at h
  | n + 1, hn, x, h => by
    have ih := parF_mem W D n (by omega)
    unfold parF at h
    split at h
    · rw [List.mem_append, List.mem_singleton] at h
      rcases h with h | rfl
      · exact ih x h
      · rw [List.getD_eq_getElem?_getD, List.getElem?_eq_getElem (by omega), Option.getD_some]
        exact List.getElem_mem _
    · exact ih x h
/-- Strings as parts. -/
def toPt (x : ByteArray) : Pt := if h : x.size ≤ 1000 then ⟨x, h⟩ else default
theorem toPt_val {x : ByteArray} (h : x.size ≤ 1000) : (toPt x).1 = x := by simp [toPt, h]
def sortB (L : List ByteArray) : List ByteArray := (insP (L.map toPt)).map (·.1)
theorem flat_pt {L : List ByteArray} (h : ∀ x, x ∈ L → x.size ≤ 1000) : (L.map toPt).flatMap encP1 = L.flatMap encS := by
  induction L with
  | nil => rfl
  | cons x r ih =>
    rw [List.map_cons, List.flatMap_cons, List.flatMap_cons, ih (fun y hy => h y (by simp [hy]))]
    show [Value.string (toPt x).1] ++ _ = _
    rw [toPt_val (h x (by simp))]
    rfl
theorem flat_val (L : List Pt) : (L.map (·.1)).flatMap encS = L.flatMap encP1 := by
  induction L with
  | nil => rfl
  | cons x r ih => rw [List.map_cons, List.flatMap_cons, List.flatMap_cons, ih]; rfl
theorem sortB_len (L : List ByteArray) : (sortB L).length = L.length := by simp [sortB, insP_len]
/-- SortStableFunc of fewer than 20 parts. -/
theorem sortB_any (w : World) (base : Nat) (v : Value) (L : List ByteArray) (m : Int) (hb0 : 0 < base) (hm : w.cell? ⟨0, 0, none⟩ = some (.int .i64 m)) (h : Own w base 9 1 encS v L) (hs : ∀ x, x ∈ L → x.size ≤ 1000) (hn : L.length < 20) :
    Calls Tryd.prog 34 #[v, .func (.func 35) #[] #[]] w fun e w' => e = .returned (.tuple #[]) ∧ Own w' base 9 1 encS v (sortB L) ∧ Below base w w' := by
  have h2 : Own w base 9 1 encP1 v (L.map toPt) := by
    unfold Own at h ⊢
    rw [flat_pt hs, List.length_map]
    exact h
  refine (stable_any w base v (L.map toPt) m hb0 hm h2 (by simpa using hn)).mono ?_
  rintro e w' ⟨h3, h4, h5⟩
  refine ⟨h3, ?_, h5⟩
  unfold Own at h4 ⊢
  unfold sortB
  rw [flat_val, List.length_map]
  exact h4

def cutP (s sep : ByteArray) : ByteArray := ⟨(Lib.cut s.data.toList sep.data.toList).1.toArray⟩
def cutQ (s sep : ByteArray) : ByteArray := ⟨(Lib.cut s.data.toList sep.data.toList).2.1.toArray⟩
/-- The parts of the query of a request that are kept. -/
def partsQ (s : ByteArray) (D : List ByteArray) : List ByteArray := parF (wordsB (cutQ s ⟨#[63]⟩) ⟨#[38]⟩) D (wordsB (cutQ s ⟨#[63]⟩) ⟨#[38]⟩).length
/-- The key of a decoded request. -/
def normB (s : ByteArray) (D : List ByteArray) : ByteArray :=
  if 0 < (partsQ s D).length then tidyB (wordsB (cutP s ⟨#[63]⟩) ⟨#[47]⟩) ++ (⟨#[63]⟩ ++ joinB (sortB (partsQ s D)) ⟨#[38]⟩) else tidyB (wordsB (cutP s ⟨#[63]⟩) ⟨#[47]⟩)

theorem joinB_size {L : List ByteArray} {sep : ByteArray} (h : ∀ x, x ∈ L → x.size ≤ 1000) (hL : L.length ≤ 1000) (hs : sep.size ≤ 10) : (joinB L sep).size ≤ 1010000 := by
  have h1 := joinB_len (sep := sep) h
  have h2 : (1000 + sep.size) * L.length ≤ 1010 * 1000 := Nat.mul_le_mul (by omega) hL
  unfold joinB
  rw [mk_size]
  omega
theorem tidyB_size {ps : List ByteArray} (h : ∀ x, x ∈ ps → x.size ≤ 1000) (hl : ps.length ≤ 1000) : (tidyB ps).size ≤ 1010002 := by
  have h1 := joinB_size (L := tidL ps ps.length) (sep := ⟨#[47]⟩) (fun x hx => h x (tidL_mem ps _ (Nat.le_refl _) x hx)) (by have := tidL_len ps ps.length; omega) (by decide)
  have h2 : (⟨#[47]⟩ : ByteArray).size = 1 := rfl
  unfold tidyB
  split
  · rw [ByteArray.size_append, ByteArray.size_append]; omega
  · rw [ByteArray.size_append]; omega
theorem sortB_mem {L : List ByteArray} {x : ByteArray} (h : x ∈ sortB L) : x.size ≤ 1000 := by
  unfold sortB at h
  rw [List.mem_map] at h
  obtain ⟨y, _, rfl⟩ := h
  exact y.2
theorem contains_any (D : List ByteArray) (x : ByteArray) (v : Value) (w : World) (h : Sl w 1 encS v D) :
    Calls Tryd.prog 32 #[v, .string x] w fun e w' => e = .returned (.bool (containsS D x)) ∧ w' = w := by
  obtain ⟨ao, cap, rfl, hcap, hmax, hnil, hel⟩ := h
  unfold maxLen at hmax
  by_cases he : D = []
  · subst he
    have hc : containsS [] x = false := rfl
    rw [hc]
    exact Tryd.slices_Contains_string_empty ao cap x w
  · have h0 : 0 < D.length := List.length_pos_iff.2 he
    obtain ⟨b, off, rfl, _⟩ := hel 0 D[0] (by simp)
    have h2 := Tryd.slices_Contains_string b off D.length cap D x w (Nat.le_refl _) (by omega) (fun j hj => by
      obtain ⟨b', off', e, hc⟩ := hel j D[j] (by simp)
      simp only [Option.some.injEq, Addr.mk.injEq, and_true] at e
      obtain ⟨rfl, rfl⟩ := e
      have := hc 0 _ rfl
      simp only [Nat.mul_one, Nat.add_zero] at this
      rw [this]
      simp [List.getD_eq_getElem?_getD, hj])
    rw [List.take_length] at h2
    exact h2
end Go.Proofs.YteepbfpcdhdgfaaDoor

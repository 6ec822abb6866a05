/- nameOf, the comparison of two parts, and the stable sort of at most 20 parts. -/
import Derived.Test.YtmgbmoiefgfemaaDoorTidy
import Derived.Test.YtmgbmoiefgfemaaDoorSrtI
import Derived.Lib.OwnBridge
namespace Go.Proofs.YtmgbmoiefgfemaaDoor
open Go.RowKit Go.Lib Go.Sort Go.Shelf

def nameP (s : ByteArray) : ByteArray := ⟨(Lib.cut s.data.toList [61]).1.toArray⟩
theorem nameOf_any (s : ByteArray) (m : Int) (w : World) (hs : s.size ≤ 1000) (hm : w.cell? ⟨0, 0, none⟩ = some (.int .i64 m)) :
    Calls Tryd.prog 55 #[.string s] w fun e w' => e = .returned (.string (nameP s)) ∧ ∃ n, w' = w.drewN n := by
  have h := cut_any s ⟨#[61]⟩ m w (by omega) hm
  obtain ⟨X, hX⟩ : ∃ X, X = nameP s := ⟨_, rfl⟩
  have e : (⟨(Lib.cut s.data.toList (⟨#[61]⟩ : ByteArray).data.toList).1.toArray⟩ : ByteArray) = X := by rw [hX]; rfl
  rw [e] at h
  rw [← hX]
  generalize (⟨(Lib.cut s.data.toList (⟨#[61]⟩ : ByteArray).data.toList).2.1.toArray⟩ : ByteArray) = Y at h
  generalize (Lib.cut s.data.toList (⟨#[61]⟩ : ByteArray).data.toList).2.2 = Z at h
  have H := Lib.hid h
  clear h hX e
  go_enter Tryd.func55, Tryd.ntmps55
  go_wp2_with (go_at_call 52; refine (H.out).mono ?_; rintro e w2 ⟨rfl, n, rfl⟩)
  go_ret
  exact ⟨rfl, n, rfl⟩

/-- A part of at most 1000 bytes. -/
def Pt : Type := { s : ByteArray // s.size ≤ 1000 }
instance : Inhabited Pt := ⟨⟨⟨#[]⟩, by decide⟩⟩
def encPt (x : Pt) : Value := .string x.1
def cmpP (a b : ByteArray) : Int := Lib.compareBytes (nameP a).data.toList (nameP b).data.toList

set_option maxRecDepth 100000 in
theorem cmp_any (a b : ByteArray) (m : Int) (w : World) (ha : a.size ≤ 1000) (hb : b.size ≤ 1000) (hm : w.cell? ⟨0, 0, none⟩ = some (.int .i64 m)) :
    Calls Tryd.prog 57 #[.string a, .string b] w fun e w' => e = .returned (.int .i64 (cmpP a b)) ∧ ∃ n, w' = w.drewN n := by
  have h1 := Lib.hid (nameOf_any a m w ha hm)
  have h2 := Lib.hid (fun n => nameOf_any b m (w.drewN n) hb hm)
  have h3 := Lib.hid (fun W => Tryd.strings_Compare (nameP a) (nameP b) W)
  obtain ⟨X, hX⟩ : ∃ X, X = nameP a := ⟨_, rfl⟩
  obtain ⟨Y, hY⟩ : ∃ Y, Y = nameP b := ⟨_, rfl⟩
  obtain ⟨Z, hZ⟩ : ∃ Z, Z = cmpP a b := ⟨_, rfl⟩
  have e : Lib.compareBytes X.data.toList Y.data.toList = Z := by rw [hX, hY, hZ]; rfl
  rw [← hX] at h1 h3
  rw [← hY] at h2 h3
  rw [← hZ]
  rw [e] at h3
  clear hX hY hZ e hm
  go_enter Tryd.func57, Tryd.ntmps57
  go_wp2_with fail
  refine (h1.out).mono ?_
  rintro e w2 ⟨rfl, n, rfl⟩
  go_wp2_with fail
  refine (h2.out n).mono ?_
  rintro e w2 ⟨rfl, k, rfl⟩
  go_wp2_with fail
  refine (h3.out _).mono ?_
  rintro e w2 ⟨rfl, rfl⟩
  go_wp2
  go_ret
  exact ⟨rfl, n + k, rfl⟩

theorem cell_sort (w : World) (blk m : Nat) (dk : Array Pt) (os : Array Obj) (hb : 0 < blk) {v : Value} (h0 : 0 < w.heap.size) (h : w.cell? ⟨0, 0, none⟩ = some v) : (sortWorld encPt w blk 0 m dk os).cell? ⟨0, 0, none⟩ = some v := by
  unfold sortWorld
  rw [cell?_grow _ _ _ (by rw [size_putRow]; exact h0), cell?_putRow_other _ _ _ _ _ _ (Or.inl (by show (0 : Nat) ≠ blk; omega))]
  exact h
theorem cmp_reads (w : World) (m : Int) (blk size : Nat) (hb : 0 < blk) (hm : w.cell? ⟨0, 0, none⟩ = some (.int .i64 m)) :
    CmpReads Tryd.prog 57 #[] encPt (fun a b => cmpP a.1 b.1) blk 0 size w := fun k os dk _ x y =>
  cmp_any x.1 y.1 m _ x.2 y.2 (cell_sort w blk k dk os hb (World.block_lt_of_cell? w _ hm) hm)

/-- Parts in the order of their names, those of one name as they were. -/
def insP (L : List Pt) : List Pt := (Sort.insertionSort (ltOf fun a b : Pt => cmpP a.1 b.1) L.toArray 0 L.length).toList
theorem inner_size {α : Type} [Inhabited α] (lt : α → α → Bool) (a : Nat) : ∀ (j : Nat) (d : Array α), (insInner lt a j d).size = d.size := by
  intro j
  induction j with
  | zero => intro d; rfl
  | succ j ih =>
    intro d
    unfold insInner
    split
    · rw [ih, size_swp]
    · rfl
theorem outer_size {α : Type} [Inhabited α] (lt : α → α → Bool) (a b : Nat) : ∀ (n i : Nat) (d : Array α), b - i ≤ n → (insOuter lt a b i d).size = d.size := by
  intro n
  induction n with
  | zero => intro i d h; rw [insOuter, if_neg (by omega)]
  | succ n ih =>
    intro i d h
    by_cases hi : i < b
    · rw [insOuter_go _ _ _ _ _ hi, ih _ _ (by omega), inner_size]
    · rw [insOuter, if_neg hi]
theorem insP_len (L : List Pt) : (insP L).length = L.length := by
  unfold insP Sort.insertionSort
  rw [Array.length_toList, outer_size _ _ _ _ _ _ (Nat.le_refl _)]
  simp
abbrev encP1 (x : Pt) : List Value := [.string x.1]
theorem flatP (L : List Pt) : L.flatMap encP1 = L.map encPt := by
  induction L with
  | nil => rfl
  | cons x r ih => rw [List.flatMap_cons, ih]; rfl
/-- SortStableFunc of fewer than 20, over the insertion sort. -/
theorem stable_of (w : World) (v : Value) (ao : Option Addr) (n cap : Nat) (Q : World → Prop) (hv : v = .slice ao n cap) (hn : n < 20)
    (HC : Hid (Calls Tryd.prog 107 #[.slice ao n cap, .int .i64 0, .int .i64 n, .func (.func 57) #[] #[]] w fun e w' => e = .returned (.tuple #[]) ∧ Q w')) :
    Calls Tryd.prog 56 #[v, .func (.func 57) #[] #[]] w fun e w' => e = .returned (.tuple #[]) ∧ Q w' := by
  subst hv
  have h1 : ¬ (20 : Int) ≤ (n : Int) := by omega
  have h2 : ¬ (20 : Int) < (n : Int) := by omega
  have H1 : Hid (Calls Tryd.prog 90 #[.slice ao n cap, .int .i64 n, .func (.func 57) #[] #[]] w fun e w' => e = .returned (.tuple #[]) ∧ Q w') := Lib.hid (by
    go_enter Tryd.func90, Tryd.ntmps90
    go_wp2_with fail
    refine wp_loop_rounds 1 ?_
    rw [rounds_succ]
    go_wp2_with fail
    refine HC.out.mono ?_
    rintro e w' ⟨rfl, hq⟩
    have HQ := Lib.hid hq
    clear hq
    go_wp2_with fail
    refine wp_loop_rounds 1 ?_
    rw [rounds_succ]
    go_wp2_with fail
    go_end0
    exact ⟨rfl, HQ.out⟩)
  go_enter Tryd.func56, Tryd.ntmps56
  go_wp2_with fail
  refine H1.out.mono ?_
  rintro e w' ⟨rfl, hq⟩
  have HQ := Lib.hid hq
  clear hq
  go_wp2_with fail
  go_end0
  exact ⟨rfl, HQ.out⟩
theorem insNil_any (w : World) (ao : Option Addr) (cap : Nat) (f : Value) :
    Calls Tryd.prog 107 #[.slice ao 0 cap, .int .i64 0, .int .i64 0, f] w fun e w' => e = .returned (.tuple #[]) ∧ w' = w := by
  go_enter Tryd.func107, Tryd.ntmps107
  go_wp2_with fail
  refine wp_loop_rounds 1 ?_
  rw [rounds_succ]
  go_wp2_with fail
  go_end0
  exact ⟨rfl, rfl⟩
theorem insP_nil : insP [] = [] := List.length_eq_zero_iff.1 (insP_len [])
theorem stable_any (w : World) (base : Nat) (v : Value) (L : List Pt) (m : Int) (hb0 : 0 < base) (hm : w.cell? ⟨0, 0, none⟩ = some (.int .i64 m)) (h : Own w base 9 1 encP1 v L) (hn : L.length < 20) :
    Calls Tryd.prog 56 #[v, .func (.func 57) #[] #[]] w fun e w' => e = .returned (.tuple #[]) ∧ Own w' base 9 1 encP1 v (insP L) ∧ Below base w w' := by
  have eg : ∀ args w, (callFunc 57 args).run Tryd.prog w = .ok (.enter 57 args) w := enters_of Tryd.func57 (by kernel_rfl) rfl
  by_cases hL : L = []
  · subst hL
    obtain ⟨ao, cap, rfl, _⟩ := h.sl (fun _ => rfl)
    rw [insP_nil]
    exact stable_of w _ ao 0 cap _ rfl (by decide) (Lib.hid ((insNil_any w ao cap _).mono fun e w' ⟨h1, h2⟩ => ⟨h1, by rw [h2]; exact h, by rw [h2]; exact Below.refl _ _⟩))
  unfold Own at h
  rw [flatP] at h
  obtain ⟨g, cap, rfl, hg1, hg2, hnc, hcm, hl, hH⟩ := holds_of_ownsRow h (by
    rintro rfl
    rcases h.2 with ⟨_, h2⟩ | ⟨g, cap, cur, hv, _⟩
    · exact hL (List.length_eq_zero_iff.1 h2)
    · cases hv)
  have hc := Any.insertionSortCmpFunc_one Tryd.laysIns encPt (fun _ => rfl) (fun a b => cmpP a.1 b.1) 57 #[] g 0 cap 0 L.length L.toArray w eg (cmp_reads w m g _ (by omega) hm) hH (Nat.zero_le _) (by simp) (by simp; omega)
  change Calls Tryd.prog 107 _ _ _ at hc
  have hsz : L.toArray.size = L.length := by simp
  rw [hsz] at hc
  have HC : Hid (Calls Tryd.prog 107 #[.slice (some ⟨g, 0, none⟩) L.length cap, .int .i64 0, .int .i64 L.length, .func (.func 57) #[] #[]] w fun e w' => e = .returned (.tuple #[]) ∧ Own w' base 9 1 encP1 (.slice (some ⟨g, 0, none⟩) L.length cap) (insP L) ∧ Below base w w') := Lib.hid (hc.mono (by
    rintro e w' ⟨rfl, n, rfl⟩
    have e2 : Sort.insertionSort (ltOf fun a b : Pt => cmpP a.1 b.1) L.toArray 0 L.length = (insP L).toArray := by simp [insP]
    rw [e2]
    refine ⟨rfl, ?_, ?_⟩
    · have h3 := ownsRow_putRow (q := 0) (k := L.length) h (insP_len L) (Nat.le_refl _)
      rw [List.take_of_length_le (Nat.le_of_eq (insP_len L))] at h3
      unfold Own
      rw [flatP, insP_len]
      exact h3
    · exact below_drewN (below_putRow (q := 0) (Below.refl base w) hg1) n))
  exact stable_of w _ (some ⟨g, 0, none⟩) L.length cap _ rfl hn HC
end Go.Proofs.YtmgbmoiefgfemaaDoor

/- Along: rows of numbers, weights: plain. -/
import Derived.Test.YtfkmdojnkdoffaaBoth
import Derived.Laws.OwnMore
namespace Go.Proofs.Ytfkmdojnkdoffaa
open Go.RowKit

/-- Block g is an array of ints. -/
def Arr (w : World) (g : Nat) (m : List Int) : Prop := w.heap[g]? = some (.cells (m.map (Value.int .i64)).toArray 3 (0, 0))
theorem Arr.cell {w : World} {g : Nat} {m : List Int} (h : Arr w g m) {i : Nat} {x : Int} (hx : m[i]? = some x) : w.cell? ⟨g, i, none⟩ = some (.int .i64 x) := by
  rw [cell_of_block h]; simp [hx]
theorem Arr.free {w : World} {g : Nat} {m : List Int} (h : Arr w g m) (i : Nat) : w.frozen? ⟨g, i, none⟩ = false := by
  unfold Arr at h; simp [World.frozen?, h]
theorem Arr.lt {w : World} {g : Nat} {m : List Int} (h : Arr w g m) : g < w.heap.size := (Array.getElem?_eq_some_iff.1 h).1
theorem Arr.set {w : World} {g : Nat} {m : List Int} (h : Arr w g m) (i : Nat) (y : Int) : Arr (w.setCell ⟨g, i, none⟩ (.int .i64 y)) g (m.set i y) := by
  have h1 := heap_setCell_same w g i _ _ (.int .i64 y) h
  unfold Arr
  rw [h1, List.map_set]
  simp
theorem Arr.other {w : World} {g g' : Nat} {m : List Int} (h : Arr w g m) (hne : g ≠ g') (i : Nat) (y : Value) : Arr (w.setCell ⟨g', i, none⟩ y) g m := (Below.heap_setCell w ⟨g', i, none⟩ y g hne).trans h
theorem Arr.belowB {w w' : World} {g B : Nat} {m : List Int} (h : Arr w g m) (hb : Below B w w') (hg : g < B) : Arr w' g m := (hb.block g hg).trans h
theorem Arr.below {w w' : World} {g : Nat} {m : List Int} (h : Arr w g m) (hb : Below w.heap.size w w') : Arr w' g m := h.belowB hb h.lt
theorem Arr.made (w : World) (m : List Int) : Arr (w.alloc (.cells (m.map (Value.int .i64)).toArray 3)) w.heap.size m := block_new w _
theorem made_ints (n : Nat) : madeCells #[Value.int .i64 0] (n * 1) = ((List.replicate n (0 : Int)).map (Value.int .i64)).toArray := by
  have h := toList_madeCells_one (Value.int .i64 0) n
  rw [Nat.mul_one]
  apply Array.toList_inj.1
  rw [h]
  simp
theorem make_ints (n : Nat) (hn : n ≤ 1000) (w : World) : (Instr.makeSlice 24 (.int .i64 (n : Int)) (.int .i64 (n : Int))).run Try.prog w = .ok (.slice (some ⟨w.heap.size, 0, none⟩) n n) (w.alloc (.cells ((List.replicate n (0 : Int)).map (Value.int .i64)).toArray 3)) := by
  obtain ⟨i, z, ht, hi, hz, hs, hb, _⟩ := slI
  obtain ⟨i0, hi0, hz0, hz1, hz2⟩ := info_parts infoI
  have hr := run_make (P := Try.prog) w 24 3 i0 _ ht hi0 hz0 .i64 .i64 n n (by omega) (Int.le_refl _) (by rw [hz2]; omega) (by omega)
  rw [hr, hz1]
  simp only [Int.toNat_natCast]
  rw [show (Value.int IntKind.i64 0).cells = #[Value.int .i64 0] from rfl, made_ints]
/-- Block g is an array of slices of ints. -/
def ArrV (w : World) (g : Nat) (m : List Value) : Prop := w.heap[g]? = some (.cells m.toArray 24 (0, 0))
theorem ArrV.cell {w : World} {g : Nat} {m : List Value} (h : ArrV w g m) {i : Nat} {x : Value} (hx : m[i]? = some x) : w.cell? ⟨g, i, none⟩ = some x := by
  rw [cell_of_block h]; simp [hx]
theorem ArrV.free {w : World} {g : Nat} {m : List Value} (h : ArrV w g m) (i : Nat) : w.frozen? ⟨g, i, none⟩ = false := by
  unfold ArrV at h; simp [World.frozen?, h]
theorem ArrV.lt {w : World} {g : Nat} {m : List Value} (h : ArrV w g m) : g < w.heap.size := (Array.getElem?_eq_some_iff.1 h).1
theorem ArrV.set {w : World} {g : Nat} {m : List Value} (h : ArrV w g m) (i : Nat) (y : Value) : ArrV (w.setCell ⟨g, i, none⟩ y) g (m.set i y) := by
  have h1 := heap_setCell_same w g i _ _ y h
  unfold ArrV
  rw [h1]
  simp
theorem ArrV.belowB {w w' : World} {g B : Nat} {m : List Value} (h : ArrV w g m) (hb : Below B w w') (hg : g < B) : ArrV w' g m := (hb.block g hg).trans h
theorem infoSI : (Try.prog.info? 24).map (fun i => (i.zero, i.size, i.bytes)) = some (some (.slice none 0 0), 1, 24) := by kernel_rfl
theorem make_rows (n : Nat) (hn : n ≤ 1000) (w : World) : (Instr.makeSlice 60 (.int .i64 (n : Int)) (.int .i64 (n : Int))).run Try.prog w = .ok (.slice (some ⟨w.heap.size, 0, none⟩) n n) (w.alloc (.cells (List.replicate n (Value.slice none 0 0)).toArray 24)) := by
  obtain ⟨i0, hi0, hz0, hz1, hz2⟩ := info_parts infoSI
  have hr := run_make (P := Try.prog) w 60 24 i0 _ Try.underlying60 hi0 hz0 .i64 .i64 n n (by omega) (Int.le_refl _) (by rw [hz2]; omega) (by omega)
  rw [hr, hz1]
  simp only [Int.toNat_natCast]
  rw [show (Value.slice none 0 0).cells = #[Value.slice none 0 0] from rfl]
  have h := toList_madeCells_one (Value.slice none 0 0) n
  rw [Nat.mul_one]
  have e : madeCells #[Value.slice none 0 0] n = (List.replicate n (Value.slice none 0 0)).toArray := by
    apply Array.toList_inj.1
    rw [h]
  rw [e]
/-- A row, in which numbers below k are done, and one is under way. -/
def rowC (f : Nat → Int) (k : Nat) (z : Int) (m : Nat) : List Int := (List.range m).map fun j => if j < k then f j else if j = k then z else 0
def rowF (f : Nat → Int) (m : Nat) : List Int := (List.range m).map f
theorem rowC_len (f : Nat → Int) (k : Nat) (z : Int) (m : Nat) : (rowC f k z m).length = m := by simp [rowC]
theorem rowC_get {f : Nat → Int} {k m : Nat} {z : Int} (h : k < m) : (rowC f k z m)[k]? = some z := by simp [rowC, h]
theorem rowC_set (f : Nat → Int) (k : Nat) (z y : Int) (m : Nat) : (rowC f k z m).set k y = rowC f k y m := by
  apply List.ext_getElem
  · simp [rowC]
  · intro i h1 h2
    rw [List.getElem_set]
    simp only [rowC, List.getElem_map, List.getElem_range]
    by_cases e : k = i
    · subst e; simp
    · have e' : ¬ i = k := fun h => e h.symm
      rw [if_neg e]
      simp [e']
theorem rowC_next (f : Nat → Int) (k m : Nat) : rowC f k (f k) m = rowC f (k + 1) 0 m := by
  unfold rowC
  refine List.map_congr_left fun j _ => ?_
  by_cases h1 : j < k
  · rw [if_pos h1, if_pos (by omega)]
  · by_cases h2 : j = k
    · subst h2; rw [if_neg h1, if_pos rfl, if_pos (by omega)]
    · rw [if_neg h1, if_neg h2, if_neg (by omega)]; split <;> rfl
theorem rowC_zero (f : Nat → Int) (m : Nat) : List.replicate m (0 : Int) = rowC f 0 0 m := by
  apply List.ext_getElem
  · simp [rowC]
  · intro i h1 h2
    simp [rowC]
theorem rowC_all (f : Nat → Int) (z : Int) (m : Nat) : rowC f m z m = rowF f m := by
  unfold rowC rowF
  refine List.map_congr_left fun j hj => ?_
  rw [List.mem_range] at hj
  rw [if_pos hj]
theorem rowF_get {f : Nat → Int} {m k : Nat} (h : k < m) : (rowF f m)[k]? = some (f k) := by simp [rowF, h]

/-- The weight of viewers with a rate from lo up to, without, hi. -/
def wg1 (lo hi : Int) (v : Vw) : Int := if lo ≤ v.ra ∧ v.ra < hi then v.we else 0
def wgA (c : List Vw) (lo hi : Int) : Nat → Int
  | 0 => 0
  | n + 1 => wgA c lo hi n + wg1 lo hi (c.getD n default)
def wg (c : List Vw) (lo hi : Int) : Int := wgA c lo hi c.length
theorem wgA_next {c : List Vw} {lo hi : Int} {t : Nat} {v : Vw} (hv : c[t]? = some v) : wgA c lo hi (t + 1) = wgA c lo hi t + wg1 lo hi v := by
  show _ + wg1 lo hi (c.getD t default) = _
  rw [getD_of hv]
theorem wgA_bd {c : List Vw} {lo hi : Int} (hc : ∀ v, v ∈ c → 1 ≤ v.we ∧ v.we ≤ 1000000) : ∀ t, t ≤ c.length → 0 ≤ wgA c lo hi t ∧ wgA c lo hi t ≤ t * 1000000
  | 0, _ => ⟨Int.le_refl _, by simp [wgA]⟩
  | t + 1, h => by
    obtain ⟨v, hv⟩ : ∃ v, c[t]? = some v := ⟨c[t], by simp⟩
    rw [wgA_next hv]
    have ih := wgA_bd hc (lo := lo) (hi := hi) t (by omega)
    have hb := hc v (List.mem_of_getElem? hv)
    unfold wg1
    split <;> omega
theorem wg_bd {c : List Vw} {lo hi : Int} (hc : ∀ v, v ∈ c → 1 ≤ v.we ∧ v.we ≤ 1000000) (hl : c.length ≤ 200) : 0 ≤ wg c lo hi ∧ wg c lo hi ≤ 200000000 := by
  have := wgA_bd hc (lo := lo) (hi := hi) c.length (Nat.le_refl _)
  unfold wg
  omega
/-- The rate of a rendition; behind them all: more than any viewer has. -/
def raK (l : List Rng) (k : Nat) : Int := if k < l.length then (l.getD k default).ra else 1000000001
def Wt (l : List Rng) (c : List Vw) (i k : Nat) : Int := wg c (l.getD i default).ra (raK l k)
/-- Block g is what weights builds. -/
def Mat (w : World) (g n m : Nat) (f : Nat → Nat → Int) : Prop := ∀ i, i < n → ∃ b, w.cell? ⟨g, i, none⟩ = some (.slice (some ⟨b, 0, none⟩) m m) ∧ Arr w b (rowF (f i) m)
/-- A choice behind a rendition. -/
structure Rst where
  wo : Int
  nx : Int
deriving Inhabited
def encT (r : Rst) : List Value := [.int .i64 r.wo, .int .i64 r.nx]
theorem encT_len (r : Rst) : (encT r).length = 2 := rfl
/-- A list of which those below i are done. -/
def mixL {α : Type} (f g : Nat → α) (i n : Nat) : List α := (List.range n).map fun j => if j < i then f j else g j
theorem mixL_len {α : Type} (f g : Nat → α) (i n : Nat) : (mixL f g i n).length = n := by simp [mixL]
theorem mixL_get {α : Type} {f g : Nat → α} {i n j : Nat} (h : j < n) : (mixL f g i n)[j]? = some (if j < i then f j else g j) := by simp [mixL, h]
theorem mixL_zero {α : Type} (f g : Nat → α) (n : Nat) : mixL f g 0 n = (List.range n).map g := by simp [mixL]
theorem mixL_all {α : Type} (f g : Nat → α) (n : Nat) : mixL f g n n = (List.range n).map f := by
  unfold mixL
  refine List.map_congr_left fun j hj => ?_
  rw [List.mem_range] at hj
  rw [if_pos hj]
theorem mixL_set {α : Type} (f g : Nat → α) (i n : Nat) : (mixL f g i n).set i (f i) = mixL f g (i + 1) n := by
  apply List.ext_getElem
  · simp [mixL]
  · intro j h1 h2
    rw [List.getElem_set]
    simp only [mixL, List.getElem_map, List.getElem_range]
    by_cases e : i = j
    · subst e; simp
    · rw [if_neg e]
      by_cases h : j < i
      · rw [if_pos h, if_pos (by omega)]
      · rw [if_neg h, if_neg (by omega)]
theorem mixL_self {α : Type} (f g : Nat → α) (i n : Nat) : (mixL f g i n).set i (g i) = mixL f g i n := by
  apply List.ext_getElem
  · simp [mixL]
  · intro j h1 h2
    rw [List.getElem_set]
    by_cases e : i = j
    · subst e
      simp [mixL]
    · rw [if_neg e]
theorem mixL_cur {α : Type} {f g : Nat → α} {i n : Nat} {z : α} (h : i < n) : ((mixL f g i n).set i z)[i]? = some z := by
  rw [List.getElem?_set_self (by rw [mixL_len]; exact h)]
theorem Own.of_row {α : Type} {w : World} {base : Nat} {E : TypeId} {k : Nat} {enc : α → List Value} {m : List α} {g cap : Nat} {cur : Array Value} (hk : ∀ x, (enc x).length = k) (hg : base ≤ g) (hh : w.heap[g]? = some (.cells cur E (0, 0))) (hs : cur.size = cap * k) (hn : m.length ≤ cap) (hm : cap ≤ maxLen) (ht : cur.toList.take (m.length * k) = m.flatMap enc) :
    Own w base E k enc (.slice (some ⟨g, 0, none⟩) m.length cap) m := ⟨flatMap_len hk m, .inr ⟨g, cap, cur, rfl, hg, hh, hn, hm, hs, ht⟩⟩

/-- The best choice behind a rendition: it alone; with those below m tried. -/
def quA (l : List Rng) (i : Nat) : Int := (l.getD i default).qu
def alnF (l : List Rng) (c : List Vw) (i : Nat) : Rst := ⟨quA l i * Wt l c i l.length, -1⟩
def tryF (l : List Rng) (c : List Vw) (last : Nat → Rst) (i m : Nat) (p : Rst) : Rst :=
  if i < m ∧ quA l i < quA l m ∧ p.wo < quA l i * Wt l c i m + (last m).wo then ⟨quA l i * Wt l c i m + (last m).wo, m⟩ else p
def bstF (l : List Rng) (c : List Vw) (last : Nat → Rst) (i : Nat) : Nat → Rst
  | 0 => alnF l c i
  | m + 1 => tryF l c last i m (bstF l c last i m)
/-- The layers. -/
def layF (l : List Rng) (c : List Vw) : Nat → Nat → Rst
  | 0 => alnF l c
  | m + 1 => fun i => bstF l c (layF l c m) i l.length
def layL (l : List Rng) (c : List Vw) (m : Nat) : List Rst := (List.range l.length).map (layF l c m)
theorem bstF_below (l : List Rng) (c : List Vw) (last : Nat → Rst) (i : Nat) : ∀ m, m ≤ i + 1 → bstF l c last i m = alnF l c i
  | 0, _ => rfl
  | m + 1, h => by
    show tryF l c last i m (bstF l c last i m) = _
    rw [bstF_below l c last i m (by omega)]
    unfold tryF
    rw [if_neg (by omega)]
/-- All numbers stay small. -/
def QuOk (l : List Rng) : Prop := ∀ x, x ∈ l → 0 ≤ x.qu ∧ x.qu ≤ 1000000
theorem quA_bd {l : List Rng} (h : QuOk l) {i : Nat} (hi : i < l.length) : 0 ≤ quA l i ∧ quA l i ≤ 1000000 := by
  unfold quA
  rw [getD_of (show l[i]? = some l[i] by simp [hi])]
  exact h _ (List.getElem_mem hi)
theorem prod_bd {a b A B : Int} (h1 : 0 ≤ a) (h2 : a ≤ A) (h3 : 0 ≤ b) (h4 : b ≤ B) : 0 ≤ a * b ∧ a * b ≤ A * B := by
  refine ⟨Int.mul_nonneg h1 h3, Int.le_trans (Int.mul_le_mul_of_nonneg_left h4 h1) (Int.mul_le_mul_of_nonneg_right h2 (by omega))⟩
theorem step_bd {l : List Rng} {c : List Vw} (h : QuOk l) (hc : ∀ v, v ∈ c → 1 ≤ v.we ∧ v.we ≤ 1000000) (hl : c.length ≤ 200) {i : Nat} (hi : i < l.length) (k : Nat) : 0 ≤ quA l i * Wt l c i k ∧ quA l i * Wt l c i k ≤ 200000000000000 := by
  obtain ⟨h1, h2⟩ := quA_bd h hi
  obtain ⟨h3, h4⟩ := wg_bd (lo := (l.getD i default).ra) (hi := raK l k) hc hl
  have := prod_bd h1 h2 h3 h4
  exact this
theorem bstF_bd {l : List Rng} {c : List Vw} (h : QuOk l) (hc : ∀ v, v ∈ c → 1 ≤ v.we ∧ v.we ≤ 1000000) (hl : c.length ≤ 200) {last : Nat → Rst} {B : Int} (hB : 0 ≤ B) (hlast : ∀ k, k < l.length → 0 ≤ (last k).wo ∧ (last k).wo ≤ B) {i : Nat} (hi : i < l.length) : ∀ m, m ≤ l.length → 0 ≤ (bstF l c last i m).wo ∧ (bstF l c last i m).wo ≤ B + 200000000000000
  | 0, _ => by
    have := step_bd h hc hl hi l.length
    show 0 ≤ quA l i * Wt l c i l.length ∧ quA l i * Wt l c i l.length ≤ _
    omega
  | m + 1, hm => by
    have ih := bstF_bd h hc hl hB hlast hi m (by omega)
    rw [show bstF l c last i (m + 1) = tryF l c last i m (bstF l c last i m) from rfl]
    unfold tryF
    split
    · have h1 := step_bd h hc hl hi m
      have h2 := hlast m (by omega)
      generalize quA l i * Wt l c i m = P at h1 ⊢
      exact ⟨by show 0 ≤ P + (last m).wo; omega, by show P + (last m).wo ≤ _; omega⟩
    · exact ih
theorem layF_bd {l : List Rng} {c : List Vw} (h : QuOk l) (hc : ∀ v, v ∈ c → 1 ≤ v.we ∧ v.we ≤ 1000000) (hl : c.length ≤ 200) : ∀ m i, i < l.length → 0 ≤ (layF l c m i).wo ∧ (layF l c m i).wo ≤ (m + 1) * 200000000000000
  | 0, i, hi => by
    have := step_bd h hc hl hi l.length
    show 0 ≤ quA l i * Wt l c i l.length ∧ quA l i * Wt l c i l.length ≤ _
    omega
  | m + 1, i, hi => by
    have := bstF_bd h hc hl (B := (m + 1) * 200000000000000) (by omega) (layF_bd h hc hl m) hi l.length (Nat.le_refl _)
    show 0 ≤ (bstF l c (layF l c m) i l.length).wo ∧ (bstF l c (layF l c m) i l.length).wo ≤ _
    push_cast
    omega
end Go.Proofs.Ytfkmdojnkdoffaa

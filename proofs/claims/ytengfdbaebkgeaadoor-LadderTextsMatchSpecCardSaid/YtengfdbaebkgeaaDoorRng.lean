/- A line of the program: rung. -/
import Derived.Test.YtengfdbaebkgeaaDoorNumT
import Derived.Test.YtengfdbaebkgeaaDoorBk4
import Derived.Test.YtengfdbaebkgeaaDoorLibL
namespace Go.Proofs.YtengfdbaebkgeaaDoor
open Go.RowKit

abbrev aggR (x : Rng) : Value := .agg #[.string x.na, .int .i64 x.ra, .int .i64 x.he, .int .i64 x.qu]
abbrev BkR (w : World) (g : Nat) (x : Rng) : Prop := Bk4 w g 28 (.string x.na) (.int .i64 x.ra) (.int .i64 x.he) (.int .i64 x.qu)

/-- Behind the split: the result's box, and the words. -/
structure RgS (w wr : World) (W : List ByteArray) : Prop where
  bel : Below w.heap.size w wr
  box : BkR wr w.heap.size default
  wds : wr.heap[w.heap.size + 1]? = some (.cells (W.map Value.string).toArray 9 (0, 0))
theorem RgS.start (w : World) (W : List ByteArray) : RgS w ((w.alloc (.cells #[.string ⟨#[]⟩, .int .i64 0, .int .i64 0, .int .i64 0] 28)).alloc (.cells (W.map Value.string).toArray 9)) W := by
  refine ⟨((Below.refl _ _).alloc (Nat.le_refl _) _).alloc (by simp) _, ?_, ?_⟩
  · have h : BkR (w.alloc (.cells #[.string ⟨#[]⟩, .int .i64 0, .int .i64 0, .int .i64 0] 28)) w.heap.size default := block_new w _
    exact h.below (B := (w.alloc (.cells #[.string ⟨#[]⟩, .int .i64 0, .int .i64 0, .int .i64 0] 28)).heap.size) ((Below.refl _ _).alloc (Nat.le_refl _) _) (by simp)
  · have e : w.heap.size + 1 = (w.alloc (.cells #[.string ⟨#[]⟩, .int .i64 0, .int .i64 0, .int .i64 0] 28)).heap.size := by simp
    rw [e]
    exact block_new _ _
theorem RgS.word {w wr : World} {W : List ByteArray} (h : RgS w wr W) {i : Nat} {x : ByteArray} (hx : W[i]? = some x) : wr.cell? ⟨w.heap.size + 1, i, none⟩ = some (.string x) := by
  rw [cell_of_block h.wds]
  simp [hx]

/-- In the loop: the rendition's box too, and the pointers to its fields. -/
structure RgT (w wr : World) (G : Nat) (W : List ByteArray) (r : Rng) : Prop extends RgS w wr W where
  rr : BkR wr G r
  ptr : wr.heap[G + 1]? = some (.cells #[.pointer (some ⟨G, 1, none⟩), .pointer (some ⟨G, 2, none⟩), .pointer (some ⟨G, 3, none⟩)] 49 (0, 0))
theorem RgT.start {w wr : World} {W : List ByteArray} (h : RgS w wr W) (r : Rng) : RgT w ((wr.alloc (.cells #[.string r.na, .int .i64 r.ra, .int .i64 r.he, .int .i64 r.qu] 28)).alloc (.cells #[.pointer (some ⟨wr.heap.size, 1, none⟩), .pointer (some ⟨wr.heap.size, 2, none⟩), .pointer (some ⟨wr.heap.size, 3, none⟩)] 49)) wr.heap.size W r := by
  have hs := h.bel.size
  have hb : Below wr.heap.size wr ((wr.alloc (.cells #[.string r.na, .int .i64 r.ra, .int .i64 r.he, .int .i64 r.qu] 28)).alloc (.cells #[.pointer (some ⟨wr.heap.size, 1, none⟩), .pointer (some ⟨wr.heap.size, 2, none⟩), .pointer (some ⟨wr.heap.size, 3, none⟩)] 49)) := ((Below.refl _ _).alloc (Nat.le_refl _) _).alloc (by simp) _
  have hl := lt_of_blk h.wds
  refine ⟨⟨h.bel.trans (hb.mono hs), h.box.below hb h.box.lt, (hb.block _ hl).trans h.wds⟩, ?_, ?_⟩
  · have h2 : BkR (wr.alloc (.cells #[.string r.na, .int .i64 r.ra, .int .i64 r.he, .int .i64 r.qu] 28)) wr.heap.size r := block_new wr _
    exact h2.below (B := (wr.alloc (.cells #[.string r.na, .int .i64 r.ra, .int .i64 r.he, .int .i64 r.qu] 28)).heap.size) ((Below.refl _ _).alloc (Nat.le_refl _) _) (by simp)
  · have e : wr.heap.size + 1 = (wr.alloc (.cells #[.string r.na, .int .i64 r.ra, .int .i64 r.he, .int .i64 r.qu] 28)).heap.size := by simp
    rw [e]
    exact block_new _ _
theorem RgT.set {w wr : World} {G : Nat} {W : List ByteArray} {r r' : Rng} (h : RgT w wr G W r) (hG : w.heap.size + 1 < G) (i : Nat) (v : Value)
    (hr : (#[.string r.na, .int .i64 r.ra, .int .i64 r.he, .int .i64 r.qu] : Array Value).setIfInBounds i v = #[.string r'.na, .int .i64 r'.ra, .int .i64 r'.he, .int .i64 r'.qu]) : RgT w (wr.setCell ⟨G, i, none⟩ v) G W r' := by
  refine ⟨⟨h.bel.setCell (p := ⟨G, i, none⟩) (by show w.heap.size ≤ G; omega) _, (Below.heap_setCell _ ⟨G, i, none⟩ _ _ (by show w.heap.size ≠ G; omega)).trans h.box, (Below.heap_setCell _ ⟨G, i, none⟩ _ _ (by show w.heap.size + 1 ≠ G; omega)).trans h.wds⟩, ?_, (Below.heap_setCell _ ⟨G, i, none⟩ _ _ (by show G + 1 ≠ G; omega)).trans h.ptr⟩
  have := heap_setCell_same wr G i _ _ v h.rr
  rw [hr] at this
  exact this

theorem rungO_no {s : ByteArray} (h : ¬ (wordsB s ⟨#[32]⟩).length = 4) : rungO s = none := by
  unfold rungO
  split
  · rename_i a b c d e
    rw [e] at h
    simp at h
  · rfl
theorem rungO_four {s a b c d : ByteArray} (h : wordsB s ⟨#[32]⟩ = [a, b, c, d]) : rungO s = if (decide (0 < a.size) && numOk b && numOk c && numOk d) = true then some ⟨a, numR b, numR c, numR d⟩ else none := by
  unfold rungO
  rw [h]
theorem words_four {l : List ByteArray} (h : l.length = 4) : ∃ a b c d, l = [a, b, c, d] := by
  match l, h with
  | [a, b, c, d], _ => exact ⟨a, b, c, d, rfl⟩

set_option maxRecDepth 100000 in
set_option maxHeartbeats 4000000 in
theorem rung_any (s : ByteArray) (w : World) (m : Int) (hs : s.size ≤ 100000) (hm : w.cell? ⟨0, 0, none⟩ = some (.int .i64 m)) :
    Calls Tryd.prog 12 #[.string s] w fun e w' => e = .returned (.tuple #[aggR ((rungO s).getD default), .bool (rungO s).isSome]) ∧ Below w.heap.size w w' := by
  obtain ⟨W, hW⟩ : ∃ W, W = wordsB s ⟨#[32]⟩ := ⟨_, rfl⟩
  have hb0 : Below w.heap.size w (w.alloc (.cells #[.string ⟨#[]⟩, .int .i64 0, .int .i64 0, .int .i64 0] 28)) := (Below.refl _ _).alloc (Nat.le_refl _) _
  have HSP : Hid (Calls Tryd.prog 14 #[.string s, .string ⟨#[32]⟩] (w.alloc (.cells #[.string ⟨#[]⟩, .int .i64 0, .int .i64 0, .int .i64 0] 28)) fun e w' => e = .returned (.slice (some ⟨w.heap.size + 1, 0, none⟩) W.length W.length) ∧ RgS w w' W) := Lib.hid (by
    have h := split_any s ⟨#[32]⟩ m (w.alloc (.cells #[.string ⟨#[]⟩, .int .i64 0, .int .i64 0, .int .i64 0] 28)) (by omega) ((hb0.cell (p := ⟨0, 0, none⟩) (World.block_lt_of_cell? w _ hm)).trans hm) (by decide)
    rw [← hW] at h
    refine h.mono ?_
    rintro e w' ⟨rfl, rfl⟩
    exact ⟨by simp, RgS.start w W⟩)
  obtain ⟨O, hO⟩ : ∃ O, O = rungO s := ⟨_, rfl⟩
  rw [← hO]
  by_cases h4 : W.length = 4
  case neg =>
    obtain rfl : O = none := by rw [hO]; exact rungO_no (by rw [← hW]; exact h4)
    have h4z : ((W.length : Int) == 4) = false := by rw [beq_eq_false_iff_ne]; omega
    have h4y : ¬ (W.length : Int) = 4 := by omega
    clear hO hm hW hb0
    go_enter Tryd.func12, Tryd.ntmps12
    go_wp2_with fail
    refine (HSP.out).mono ?_
    rintro e w2 ⟨rfl, RS⟩
    have RS := Lib.hid RS
    obtain ⟨z0, z1, z2, z3⟩ := RS.out.box.cells
    have zf0 := RS.out.box.frz 0
    have zf1 := RS.out.box.frz 1
    have zf2 := RS.out.box.frz 2
    have zf3 := RS.out.box.frz 3
    go_upto_region 3 with (fail)
    repeat (first | go_values | go_skip | go_guarded | go_step | go_upon)
    exact bodyPost_ret (v := .tuple #[.agg #[.string ⟨#[]⟩, .int .i64 0, .int .i64 0, .int .i64 0], .bool false]) (by simp [results, Tryd.results12, go_sem, z0, z1, z2, z3]) rfl ⟨rfl, below_set4 RS.out.bel (Nat.le_refl _) _ _ _ _⟩
  obtain ⟨a, b, c, d, rfl⟩ := words_four h4
  have HF := Lib.hid (rungO_four hW.symm)
  rw [← hO] at HF
  by_cases ha : a = ⟨#[]⟩
  · subst ha
    obtain rfl : O = none := by rw [HF.out]; simp [show (⟨#[]⟩ : ByteArray).size = 0 from rfl]
    clear hO hm hW hb0 HF
    go_enter Tryd.func12, Tryd.ntmps12
    go_wp2_with fail
    refine (HSP.out).mono ?_
    rintro e w2 ⟨rfl, RS⟩
    have RS := Lib.hid RS
    have w0 := RS.out.word (i := 0) rfl
    obtain ⟨z0, z1, z2, z3⟩ := RS.out.box.cells
    have zf0 := RS.out.box.frz 0
    have zf1 := RS.out.box.frz 1
    have zf2 := RS.out.box.frz 2
    have zf3 := RS.out.box.frz 3
    go_upto_region 3 with (fail)
    repeat (first | go_values | go_skip | go_guarded | go_step | go_upon)
    exact bodyPost_ret (v := .tuple #[.agg #[.string ⟨#[]⟩, .int .i64 0, .int .i64 0, .int .i64 0], .bool false]) (by simp [results, Tryd.results12, go_sem, z0, z1, z2, z3]) rfl ⟨rfl, below_set4 RS.out.bel (Nat.le_refl _) _ _ _ _⟩
  have ha0 : 0 < a.size := by
    rcases Nat.eq_zero_or_pos a.size with h | h
    · exact absurd (bytes_ext (List.length_eq_zero_iff.1 (by rw [← Lib.size_eq]; exact h))) ha
    · exact h
  have haL : a.toList ≠ [] := by
    rw [ByteArray.toList_eq]
    intro h
    have := Lib.size_eq a
    rw [h] at this
    simp only [List.length_nil] at this
    omega
  have haz : (a.toList == []) = false := by rw [beq_eq_false_iff_ne]; exact haL
  have hae : a.toList.isEmpty = false := by simp [haL]
  have HF2 : Hid (O = if (numOk b && numOk c && numOk d) = true then some ⟨a, numR b, numR c, numR d⟩ else none) := Lib.hid (by rw [HF.out]; simp [ha0])
  have hbs : ∀ x, x ∈ wordsB s ⟨#[32]⟩ → x.size ≤ 9223372036854775807 := fun x hx => by have := words_size hx; omega
  rw [← hW] at hbs
  have hb1 := hbs b (by simp)
  have hb2 := hbs c (by simp)
  have hb3 := hbs d (by simp)
  clear hO hm hW hb0 HF hbs ha
  have NB := Lib.hid (fun W => number_any b W hb1)
  have NC := Lib.hid (fun W => number_any c W hb2)
  have ND := Lib.hid (fun W => number_any d W hb3)
  obtain ⟨x, hx⟩ : ∃ x, x = numR b := ⟨_, rfl⟩
  obtain ⟨y, hy⟩ : ∃ y, y = numR c := ⟨_, rfl⟩
  obtain ⟨z, hz⟩ : ∃ z, z = numR d := ⟨_, rfl⟩
  obtain ⟨p, hp⟩ : ∃ p, p = numOk b := ⟨_, rfl⟩
  obtain ⟨q, hq⟩ : ∃ q, q = numOk c := ⟨_, rfl⟩
  obtain ⟨r, hr⟩ : ∃ r, r = numOk d := ⟨_, rfl⟩
  rw [← hx, ← hp] at NB
  rw [← hy, ← hq] at NC
  rw [← hz, ← hr] at ND
  rw [← hx, ← hy, ← hz, ← hp, ← hq, ← hr] at HF2
  clear hx hy hz hp hq hr hb1 hb2 hb3
  go_enter Tryd.func12, Tryd.ntmps12
  go_wp2_with fail
  refine (HSP.out).mono ?_
  rintro e w2 ⟨rfl, RS⟩
  have RS := Lib.hid RS
  have w0 := RS.out.word (i := 0) rfl
  have hws := lt_of_blk RS.out.wds
  have HT0 := Lib.hid (RgT.start RS.out ⟨a, 0, 0, 0⟩)
  go_wp2_with fail
  have hGG := RS.out.bel.size
  obtain ⟨G, hG⟩ : ∃ G, G = w2.heap.size := ⟨_, rfl⟩
  rw [← hG] at HT0 hws hGG ⊢
  clear hG
  go_loopg [31] 3 (fun gg s31 wr => ∃ k : Nat, k ≤ 3 ∧ 3 - k ≤ gg ∧ s31 = .int .i64 k ∧ Aside ((1 ≤ k → p = true) ∧ (2 ≤ k → q = true) ∧ (3 ≤ k → r = true)) ∧ Aside (RgT w wr G [a, b, c, d] ⟨a, if 1 ≤ k then x else 0, if 2 ≤ k then y else 0, if 3 ≤ k then z else 0⟩))
  case atStart => exact ⟨0, by decide, by omega, rfl, ⟨fun h => absurd h (by decide), fun h => absurd h (by decide), fun h => absurd h (by decide)⟩, HT0.out⟩
  case round =>
    obtain ⟨k, hk, hg, rfl, OK, RT⟩ := hrel
    have OK := Lib.hid OK.out
    have RT := Lib.hid RT.out
    clear HT0
    have hsw := RT.out.bel.size
    have hlG := lt_of_blk RT.out.ptr
    obtain ⟨z0, z1, z2, z3⟩ := RT.out.box.cells
    have zf0 := RT.out.box.frz 0
    have zf1 := RT.out.box.frz 1
    have zf2 := RT.out.box.frz 2
    have zf3 := RT.out.box.frz 3
    obtain ⟨r0, r1, r2, r3⟩ := RT.out.rr.cells
    have rf1 := RT.out.rr.frz 1
    have rf2 := RT.out.rr.frz 2
    have rf3 := RT.out.rr.frz 3
    by_cases hk0 : k = 0
    · subst hk0
      have q0 := (cell_of_block (i := 0) RT.out.ptr).trans rfl
      have w1 := RT.out.word (i := 1) rfl
      have RT2 : Hid (RgT w wr G [a, b, c, d] ⟨a, 0, 0, 0⟩) := Lib.hid (by simpa using RT.out)
      cases p
      case false =>
        obtain rfl : O = none := by rw [HF2.out]; simp
        go_wp2_with fail
        refine (NB.out _).mono ?_
        rintro e w5 ⟨rfl, rfl⟩
        go_upto_region 10 with (fail)
        repeat (first | go_values | go_skip | go_guarded | go_step | go_upon)
        exact bodyPost_ret (v := .tuple #[.agg #[.string ⟨#[]⟩, .int .i64 0, .int .i64 0, .int .i64 0], .bool false]) (by simp [results, Tryd.results12, go_sem, z0, z1, z2, z3]) rfl ⟨rfl, below_set4 RT.out.bel (Nat.le_refl _) _ _ _ _⟩
      case true =>
        have HN := Lib.hid (RgT.set (r' := ⟨a, x, 0, 0⟩) RT2.out hws 1 (.int .i64 x) rfl)
        go_wp2_with fail
        refine (NB.out _).mono ?_
        rintro e w5 ⟨rfl, rfl⟩
        go_wp2_with fail
        go_roundg (3 - 1)
        case measure => omega
        case rel => exact ⟨1, by decide, by omega, by go_num, ⟨fun _ => by simp, fun h => absurd h (by decide), fun h => absurd h (by decide)⟩, (show RgT _ _ _ _ _ by simpa using HN.out)⟩
    by_cases hk1 : k = 1
    · subst hk1
      have q0 := (cell_of_block (i := 1) RT.out.ptr).trans rfl
      have w1 := RT.out.word (i := 2) rfl
      have RT2 : Hid (RgT w wr G [a, b, c, d] ⟨a, x, 0, 0⟩) := Lib.hid (by simpa using RT.out)
      cases q
      case false =>
        obtain rfl : O = none := by rw [HF2.out]; simp
        go_wp2_with fail
        refine (NC.out _).mono ?_
        rintro e w5 ⟨rfl, rfl⟩
        go_upto_region 10 with (fail)
        repeat (first | go_values | go_skip | go_guarded | go_step | go_upon)
        exact bodyPost_ret (v := .tuple #[.agg #[.string ⟨#[]⟩, .int .i64 0, .int .i64 0, .int .i64 0], .bool false]) (by simp [results, Tryd.results12, go_sem, z0, z1, z2, z3]) rfl ⟨rfl, below_set4 RT.out.bel (Nat.le_refl _) _ _ _ _⟩
      case true =>
        have HN := Lib.hid (RgT.set (r' := ⟨a, x, y, 0⟩) RT2.out hws 2 (.int .i64 y) rfl)
        go_wp2_with fail
        refine (NC.out _).mono ?_
        rintro e w5 ⟨rfl, rfl⟩
        go_wp2_with fail
        go_roundg (3 - 2)
        case measure => omega
        case rel => exact ⟨2, by decide, by omega, by go_num, ⟨fun _ => OK.out.1 (by decide), fun _ => by simp, fun h => absurd h (by decide)⟩, (show RgT _ _ _ _ _ by simpa using HN.out)⟩
    by_cases hk2 : k = 2
    · subst hk2
      have q0 := (cell_of_block (i := 2) RT.out.ptr).trans rfl
      have w1 := RT.out.word (i := 3) rfl
      have RT2 : Hid (RgT w wr G [a, b, c, d] ⟨a, x, y, 0⟩) := Lib.hid (by simpa using RT.out)
      cases r
      case false =>
        obtain rfl : O = none := by rw [HF2.out]; simp
        go_wp2_with fail
        refine (ND.out _).mono ?_
        rintro e w5 ⟨rfl, rfl⟩
        go_upto_region 10 with (fail)
        repeat (first | go_values | go_skip | go_guarded | go_step | go_upon)
        exact bodyPost_ret (v := .tuple #[.agg #[.string ⟨#[]⟩, .int .i64 0, .int .i64 0, .int .i64 0], .bool false]) (by simp [results, Tryd.results12, go_sem, z0, z1, z2, z3]) rfl ⟨rfl, below_set4 RT.out.bel (Nat.le_refl _) _ _ _ _⟩
      case true =>
        have HN := Lib.hid (RgT.set (r' := ⟨a, x, y, z⟩) RT2.out hws 3 (.int .i64 z) rfl)
        go_wp2_with fail
        refine (ND.out _).mono ?_
        rintro e w5 ⟨rfl, rfl⟩
        go_wp2_with fail
        go_roundg (3 - 3)
        case measure => omega
        case rel => exact ⟨3, by decide, by omega, by go_num, ⟨fun _ => OK.out.1 (by decide), fun _ => OK.out.2.1 (by decide), fun _ => by simp⟩, (show RgT _ _ _ _ _ by simpa using HN.out)⟩
    obtain rfl : k = 3 := by omega
    have hp := OK.out.1 (by decide)
    have hq := OK.out.2.1 (by decide)
    have hr := OK.out.2.2 (by decide)
    subst hp hq hr
    obtain rfl : O = some ⟨a, x, y, z⟩ := by rw [HF2.out]; rfl
    simp only [if_pos (show 1 ≤ 3 by decide), if_pos (show 2 ≤ 3 by decide), if_pos (show 3 ≤ 3 by decide)] at r1 r2 r3
    clear hk0 hk1 hk2
    go_upto_region 13 with (fail)
    repeat (first | go_values | go_skip | go_guarded | go_step | go_upon)
    exact bodyPost_ret (v := .tuple #[aggR ⟨a, x, y, z⟩, .bool true]) (by simp [results, Tryd.results12, go_sem, z0, z1, z2, z3]) rfl ⟨rfl, below_set4 RT.out.bel (Nat.le_refl _) _ _ _ _⟩
end Go.Proofs.YtengfdbaebkgeaaDoor

/- swapRange and rotate of slices.SortStableFunc at strings, over whatever the strings stand for. -/
import Derived.Test.YtmgbmoiefgfemaaDoorStbU
import Derived.Test.YtmgbmoiefgfemaaDoorOnl
import Derived.BigRegion
import Derived.BigQuiet
namespace Go.Proofs.YtmgbmoiefgfemaaDoor
open Go.RowKit
set_option linter.unusedSectionVars false

section
variable {α : Type} [Inhabited α]

def encST (st : α → ByteArray) (x : α) : List Value := [.string (st x)]
theorem encST_len (st : α → ByteArray) (x : α) : (encST st x).length = 1 := rfl
/-- A row of strings while it is sorted. -/
structure StW (pr : α → Prop) (st : α → ByteArray) (w0 : World) (base blk cap n : Nat) (L : List α) (W : World) : Prop where
  own : Own W base 9 1 (encST st) (.slice (some ⟨blk, 0, none⟩) n cap) L
  onl : Onl blk w0 W
  len : L.length = n
  ok : ∀ x, x ∈ L → pr x
variable {pr : α → Prop} {st : α → ByteArray} {w0 W : World} {base blk cap n : Nat} {L : List α}

theorem StW.below {W' : World} (h : StW pr st w0 base blk cap n L W) (hb : Below W.heap.size W W') : StW pr st w0 base blk cap n L W' := ⟨h.own.below hb (Nat.le_refl _), h.onl.below hb, h.len, h.ok⟩
theorem StW.drew (h : StW pr st w0 base blk cap n L W) : StW pr st w0 base blk cap n L W.drew := h.below (Below.refl _ W).drew
theorem StW.drewN (h : StW pr st w0 base blk cap n L W) (k : Nat) : StW pr st w0 base blk cap n L (W.drewN k) := h.below (below_drewN (Below.refl _ W) k)
theorem at_some {L : List α} {i : Nat} (hi : i < L.length) : L[i]? = some (at_ L i) := by
  unfold at_
  rw [List.getD_eq_getElem?_getD, List.getElem?_eq_getElem hi]
  rfl
theorem at_mem {L : List α} {i : Nat} (hi : i < L.length) : at_ L i ∈ L := List.mem_of_getElem? (at_some hi)
theorem StW.cell (h : StW pr st w0 base blk cap n L W) {i : Nat} (hi : i < n) : W.cell? ⟨blk, i, none⟩ = some (.string (st (at_ L i))) ∧ W.frozen? ⟨blk, i, none⟩ = false := by
  have hl := h.len
  have hne : L ≠ [] := fun e => by rw [e] at hl; simp at hl; omega
  obtain ⟨g, cp, hv, _, _, _, _, hc, hf⟩ := Own.getk (encST_len st) h.own hne
  simp only [Value.slice.injEq, Option.some.injEq, Addr.mk.injEq, and_true] at hv
  obtain ⟨rfl, _, _⟩ := hv
  have h1 := hc i _ 0 _ (at_some (L := L) (by omega)) rfl
  exact ⟨by simpa using h1, hf i⟩
theorem StW.lt (h : StW pr st w0 base blk cap n L W) (hn : 0 < n) : blk < W.heap.size := by
  have := (h.cell (i := 0) hn).1
  exact World.block_lt_of_cell? W ⟨blk, 0, none⟩ this
theorem swL_mem {L : List α} {i j : Nat} (hi : i < L.length) (hj : j < L.length) {x : α} (h : x ∈ swL L i j) : x ∈ L := by
  unfold swL at h
  rcases List.mem_or_eq_of_mem_set h with h | h
  · rcases List.mem_or_eq_of_mem_set h with h | h
    · exact h
    · rw [h]; exact at_mem hj
  · rw [h]; exact at_mem hi
theorem StW.swap (h : StW pr st w0 base blk cap n L W) {i j : Nat} (hi : i < n) (hj : j < n) (hij : i ≠ j) {u v : ByteArray} (hu : u = st (at_ L j)) (hv : v = st (at_ L i)) :
    StW pr st w0 base blk cap n (swL L i j) ((W.setCell ⟨blk, i, none⟩ (.string u)).setCell ⟨blk, j, none⟩ (.string v)) := by
  have hl := h.len
  subst hu hv
  refine ⟨?_, (h.onl.trans (Onl.set blk W i _)).trans (Onl.set blk _ j _), by rw [swL_len, hl], fun x hx => h.ok x (swL_mem (by omega) (by omega) hx)⟩
  have h1 := Own.store (i := i) (j := 0) (x := at_ L i) (y := at_ L j) (u := .string (st (at_ L j))) (encST_len st) h.own hl.symm (at_some (by omega)) (by decide) rfl
  have h2 := Own.store (i := j) (j := 0) (x := at_ L j) (y := at_ L i) (u := .string (st (at_ L i))) (encST_len st) h1 (by simp [hl]) (by rw [List.getElem?_set_ne hij]; exact at_some (by omega)) (by decide) rfl
  show Own _ base 9 1 (encST st) _ ((L.set i (at_ L j)).set j (at_ L i))
  simpa using h2
/-- What a call on the row leaves. -/
def StP (pr : α → Prop) (st : α → ByteArray) (w0 : World) (base blk cap n : Nat) (L : List α) : Ending → World → Prop := fun e w' => e = .returned (.tuple #[]) ∧ StW pr st w0 base blk cap n L w'

theorem wrapAdd (a b : Nat) (h : a + b ≤ 4000000000000000000) : IntKind.i64.wrap ((a : Int) + (b : Int)) = ((a + b : Nat) : Int) := by
  rw [show (a : Int) + (b : Int) = ((a + b : Nat) : Int) by omega]; exact IntWalk.i64_in _ (by omega)
theorem wrapSub (a b : Nat) (hb : b ≤ a) (h : a ≤ 4000000000000000000) : IntKind.i64.wrap ((a : Int) - (b : Int)) = ((a - b : Nat) : Int) := by
  rw [show (a : Int) - (b : Int) = ((a - b : Nat) : Int) by omega]; exact IntWalk.i64_in _ (by omega)

set_option maxRecDepth 100000 in
set_option maxHeartbeats 4000000 in
theorem swapRange_st (h : StW pr st w0 base blk cap n L W) (a b c : Nat) (hab : a + c ≤ b) (hb : b + c ≤ n) (hsz : n ≤ 1000000) (f : Value) :
    Calls Tryd.prog 148 #[.slice (some ⟨blk, 0, none⟩) n cap, .int .i64 a, .int .i64 b, .int .i64 c, f] W (StP pr st w0 base blk cap n (swR L a b c)) := by
  have HH := Lib.hid h
  clear h
  go_enter Tryd.func148, Tryd.ntmps148
  go_wp2
  go_loopg [10] c (fun gg s10 wr => ∃ i : Nat, i ≤ c ∧ c - i ≤ gg ∧ s10 = .int .i64 i ∧ Aside (StW pr st w0 base blk cap n (swR L a b i) wr))
  case atStart => exact ⟨0, Nat.zero_le _, by omega, rfl, HH.out⟩
  case round =>
    obtain ⟨wq, rfl⟩ : ∃ wq : World, wq = wr := ⟨_, rfl⟩
    obtain ⟨i, hi, hgi, rfl, HE⟩ := hrel
    by_cases hil : i < c
    · have hiz : (i : Int) < (c : Int) := by omega
      obtain ⟨ca, fa⟩ := HE.out.cell (i := a + i) (by omega)
      obtain ⟨cb, fb⟩ := HE.out.cell (i := b + i) (by omega)
      have HSW := Lib.hid (fun u v hu hv => HE.out.swap (i := a + i) (j := b + i) (u := u) (v := v) (by omega) (by omega) (by omega) hu hv)
      obtain ⟨sa, hsa⟩ : ∃ s, s = st (at_ (swR L a b i) (a + i)) := ⟨_, rfl⟩
      obtain ⟨sb, hsb⟩ : ∃ s, s = st (at_ (swR L a b i) (b + i)) := ⟨_, rfl⟩
      rw [← hsa] at ca
      rw [← hsb] at cb
      have HSW2 := Lib.hid (HSW.out sb sa hsb hsa)
      have hwa := wrapAdd a i (by omega)
      have hwb := wrapAdd b i (by omega)
      have hwi : IntKind.i64.wrap ((i : Int) + 1) = (i : Int) + 1 := IntWalk.i64_in _ (by omega)
      have hai : a + i < n := by omega
      have hbi : b + i < n := by omega
      have hne : a + i ≠ b + i := by omega
      obtain ⟨ja, hja⟩ : ∃ ja, ja = a + i := ⟨_, rfl⟩
      obtain ⟨jb, hjb⟩ : ∃ jb, jb = b + i := ⟨_, rfl⟩
      rw [← hja] at ca fa hwa hai hne HSW2
      rw [← hjb] at cb fb hwb hbi hne HSW2
      have hja0 : (0 : Int) ≤ (ja : Int) := by omega
      have hjb0 : (0 : Int) ≤ (jb : Int) := by omega
      have hjaz : (ja : Int) < (n : Int) := by omega
      have hjbz : (jb : Int) < (n : Int) := by omega
      have HJ := Lib.hid (And.intro hja hjb)
      clear hja hjb hab hb hsa hsb HSW HE
      go_upto_region 3 with (fail)
      go_big_region
      all_goals go_wp2
      all_goals
        go_roundg (c - (i + 1))
        case measure => omega
        case rel => exact ⟨i + 1, by omega, by omega, by go_num, (show Aside _ from by
          show StW pr st w0 base blk cap n (swL (swR L a b i) (a + i) (b + i)) _
          rw [← HJ.out.1, ← HJ.out.2]
          exact HSW2.out.drew)⟩
    · obtain rfl : i = c := by omega
      go_wp2
      go_end0
      exact ⟨rfl, HE.out⟩

set_option maxRecDepth 100000 in
set_option maxHeartbeats 4000000 in
theorem rotate_st (h : StW pr st w0 base blk cap n L W) (a m b : Nat) (ham : a < m) (hmb : m < b) (hb : b ≤ n) (hsz : n ≤ 1000000) (f : Value) :
    Calls Tryd.prog 132 #[.slice (some ⟨blk, 0, none⟩) n cap, .int .i64 a, .int .i64 m, .int .i64 b, f] W (StP pr st w0 base blk cap n (rotR m (b - a) (m - a) (b - m) L)) := by
  have HH := Lib.hid h
  clear h
  have hw1 := wrapSub m a (by omega) (by omega)
  have hw2 := wrapSub b m (by omega) (by omega)
  go_enter Tryd.func132, Tryd.ntmps132
  go_wp2
  go_loopg [10, 11] (b - a) (fun gg s10 s11 wr => ∃ (i j : Nat) (d' : List α), 0 < i ∧ 0 < j ∧ i ≤ m ∧ m + j ≤ n ∧ i + j ≤ gg ∧ s10 = .int .i64 i ∧ s11 = .int .i64 j ∧ Aside (StW pr st w0 base blk cap n d' wr) ∧ Aside (∃ q, i + j ≤ q ∧ rotR m q i j d' = rotR m (b - a) (m - a) (b - m) L))
  case atStart => exact ⟨m - a, b - m, L, by omega, by omega, by omega, by omega, by omega, rfl, rfl, HH.out, (show Aside _ from ⟨b - a, by omega, rfl⟩)⟩
  case round =>
    obtain ⟨wq, rfl⟩ : ∃ wq : World, wq = wr := ⟨_, rfl⟩
    obtain ⟨i, j, d', hi0, hj0, him, hjd, hg, rfl, rfl, HE, HR⟩ := hrel
    obtain ⟨q0, hq0, hR0⟩ := HR.out
    obtain ⟨s, rfl⟩ : ∃ s, q0 = s + 1 := ⟨q0 - 1, by omega⟩
    have HR1 := Lib.hid hR0
    clear HR hR0
    have hwm := wrapSub m i (by omega) (by omega)
    by_cases hij : i = j
    · subst hij
      have hii : ((i : Int) == (i : Int)) = true := by simp
      have HC := Lib.hid (fun f => swapRange_st HE.out (m - i) m i (by omega) (by omega) hsz f)
      have HF : Hid (swR d' (m - i) m i = rotR m (b - a) (m - a) (b - m) L) := Lib.hid (by
        rw [← HR1.out]
        show _ = (if i = i then _ else _)
        rw [if_pos rfl])
      clear HE HR1
      go_wp2_with (go_at_call 148; refine (HC.out _).mono ?_; rintro e w6 ⟨rfl, hq⟩; have HQ := Lib.hid hq; clear hq)
      go_end0
      exact ⟨rfl, by rw [← HF.out]; exact HQ.out⟩
    · have hne : ((i : Int) == (j : Int)) = false := by rw [beq_eq_false_iff_ne]; omega
      by_cases hlt : j < i
      · have hltz : (j : Int) < (i : Int) := by omega
        have HC := Lib.hid (fun f => swapRange_st HE.out (m - i) m j (by omega) (by omega) hsz f)
        have hwij := wrapSub i j (by omega) (by omega)
        have HF : Hid (rotR m s (i - j) j (swR d' (m - i) m j) = rotR m (b - a) (m - a) (b - m) L) := Lib.hid (by
          rw [← HR1.out]
          show _ = (if i = j then _ else if j < i then _ else _)
          rw [if_neg hij, if_pos hlt])
        clear HE HR1 hij
        go_wp2_with (go_at_call 148; refine (HC.out _).mono ?_; rintro e w6 ⟨rfl, hq⟩; have HQ := Lib.hid hq; clear hq)
        go_roundg (i - j + j)
        case measure => omega
        case rel => exact ⟨i - j, j, swR d' (m - i) m j, by omega, by omega, by omega, by omega, by omega, by go_num, rfl, HQ.out, (show Aside _ from ⟨s, by omega, HF.out⟩)⟩
      · have hltz : ¬ (j : Int) < (i : Int) := by omega
        have hltn : i < j := by omega
        have HC := Lib.hid (fun f => swapRange_st HE.out (m - i) (m + j - i) i (by omega) (by omega) hsz f)
        have hwji := wrapSub j i (by omega) (by omega)
        have hwmj : IntKind.i64.wrap ((m : Int) + (j : Int)) = (m : Int) + (j : Int) := IntWalk.i64_in _ (by omega)
        have hwmji : IntKind.i64.wrap ((m : Int) + (j : Int) - (i : Int)) = ((m + j - i : Nat) : Int) := by rw [show (m : Int) + (j : Int) - (i : Int) = ((m + j - i : Nat) : Int) by omega]; exact IntWalk.i64_in _ (by omega)
        have HF : Hid (rotR m s i (j - i) (swR d' (m - i) (m + j - i) i) = rotR m (b - a) (m - a) (b - m) L) := Lib.hid (by
          rw [← HR1.out]
          show _ = (if i = j then _ else if j < i then _ else _)
          rw [if_neg hij, if_neg hlt])
        clear HE HR1 hij
        go_wp2_with (go_at_call 148; refine (HC.out _).mono ?_; rintro e w6 ⟨rfl, hq⟩; have HQ := Lib.hid hq; clear hq)
        go_roundg (i + (j - i))
        case measure => omega
        case rel => exact ⟨i, j - i, swR d' (m - i) (m + j - i) i, by omega, by omega, by omega, by omega, by omega, rfl, by go_num, HQ.out, (show Aside _ from ⟨s, by omega, HF.out⟩)⟩
end
end Go.Proofs.YtmgbmoiefgfemaaDoor

/- pick: the walk. -/
import Derived.Test.YteepbfpcdhdgfaaDoorPikC
import Derived.Test.YteepbfpcdhdgfaaDoorStbS
import Derived.Lib.OwnBridge
namespace Go.Proofs.YteepbfpcdhdgfaaDoor
open Go.RowKit

abbrev encN (s : ByteArray) : List Value := [.string s]
theorem encN_len (s : ByteArray) : (encN s).length = 1 := rfl
theorem flatN (L : List ByteArray) : L.flatMap encN = L.map Value.string := by
  induction L with
  | nil => rfl
  | cons x r ih => rw [List.flatMap_cons, ih]; rfl
def ClnP (w : World) (K : List ByteArray) : Ending → World → Prop := fun e w' => ∃ v', e = .returned v' ∧ Own w' w.heap.size 9 1 encN v' K ∧ Below w.heap.size w w'
theorem ClnP.mk {w w' : World} {K : List ByteArray} {v' : Value} (h1 : w'.ownsRow w.heap.size 9 1 v' K.length (K.map Value.string)) (h2 : Below w.heap.size w w') : ClnP w K (.returned v') w' := ⟨v', rfl, by unfold Own; rw [flatN]; exact h1, h2⟩
theorem cloneS_any (w : World) (K : List ByteArray) (v : Value) (hl : Sl w 1 encN v K) (hn : K.length * 16 ≤ 140737488355328) :
    Calls Tryd.prog 10 #[v] w (ClnP w K) := by
  obtain ⟨ao, cap, rfl, hcap, hmax, hnil, hel⟩ := hl
  cases ao with
  | none =>
    have h0 : K = [] := List.eq_nil_of_length_eq_zero (by have := hnil rfl; omega)
    subst h0
    refine (Any.slices_Clone_string_nil Tryd.laysClnS 0 cap w).mono ?_
    rintro e w' ⟨rfl, rfl⟩
    exact ClnP.mk ⟨rfl, Or.inl ⟨rfl, rfl⟩⟩ (Below.refl _ _)
  | some a =>
    by_cases h0 : K = []
    · subst h0
      refine (Any.slices_Clone_string_zero Tryd.laysClnS a cap w).mono ?_
      rintro e w' ⟨v', rfl, h1, _, h2⟩
      exact ClnP.mk h1 h2
    · have hp : 0 < K.length := List.length_pos_iff.2 h0
      obtain ⟨b, off, hb, _⟩ := hel 0 K[0] (by simp)
      cases hb
      refine (Any.slices_Clone_string Tryd.laysClnS b off K.length cap K w (Nat.le_refl _) (by omega) (fun j hj => ?_)).mono ?_
      · obtain ⟨b', off', e, hc⟩ := hel j K[j] (by simp [hj])
        cases e
        have := hc 0 _ rfl
        rw [List.getD_eq_getElem?_getD, List.getElem?_eq_getElem hj]
        simpa using this
      · rintro e w' ⟨v', rfl, h1, _, h2⟩
        rw [List.take_length] at h1
        exact ClnP.mk h1 h2
theorem insNil_st (w : World) (ao : Option Addr) (cap : Nat) (f : Value) :
    Calls Tryd.prog 65 #[.slice ao 0 cap, .int .i64 0, .int .i64 0, f] w fun e w' => e = .returned (.tuple #[]) ∧ w' = w := by
  go_enter Tryd.func65, Tryd.ntmps65
  go_wp2_with fail
  refine wp_loop_rounds 1 ?_
  rw [rounds_succ]
  go_wp2_with fail
  go_end0
  exact ⟨rfl, rfl⟩
theorem sortNil_any (w : World) (ao : Option Addr) (cap : Nat) (f : Value) :
    Calls Tryd.prog 34 #[.slice ao 0 cap, f] w fun e w' => e = .returned (.tuple #[]) ∧ w' = w := by
  have HC := Lib.hid (insNil_st w ao cap f)
  have H1 : Hid (Calls Tryd.prog 51 #[.slice ao 0 cap, .int .i64 0, f] w fun e w' => e = .returned (.tuple #[]) ∧ w' = w) := Lib.hid (by
    go_enter Tryd.func51, Tryd.ntmps51
    go_wp2_with fail
    refine wp_loop_rounds 1 ?_
    rw [rounds_succ]
    go_wp2_with fail
    refine HC.out.mono ?_
    rintro e w' ⟨rfl, hq⟩
    subst hq
    go_wp2_with fail
    refine wp_loop_rounds 1 ?_
    rw [rounds_succ]
    go_wp2_with fail
    go_end0
    exact ⟨rfl, rfl⟩)
  go_enter Tryd.func34, Tryd.ntmps34
  go_wp2_with fail
  refine H1.out.mono ?_
  rintro e w' ⟨rfl, hq⟩
  subst hq
  go_wp2_with fail
  go_end0
  exact ⟨rfl, rfl⟩
/-- Caches in the order of their weights for a key. -/
def pickL (k : ByteArray) (L : List ByteArray) : List ByteArray := stR (ltI (cmpK k)) L
theorem pickL_nil (k : ByteArray) : pickL k [] = [] := rfl
def PikP (w : World) (L : List ByteArray) : Ending → World → Prop := fun e w' => ∃ v', e = .returned v' ∧ Own w' w.heap.size 9 1 encN v' L ∧ Below w.heap.size w w'
theorem Own.rebaseN {α : Type} {w : World} {base b2 : Nat} {E : TypeId} {k : Nat} {enc : α → List Value} {v : Value} {l : List α} (h : Own w base E k enc v l) (hb : b2 ≤ base) : Own w b2 E k enc v l := by
  obtain ⟨q1, q2⟩ := h
  refine ⟨q1, ?_⟩
  rcases q2 with q2 | ⟨g, cap, cur, e1, e2, r⟩
  · exact Or.inl q2
  · exact Or.inr ⟨g, cap, cur, e1, Nat.le_trans hb e2, r⟩

set_option maxRecDepth 100000 in
set_option maxHeartbeats 4000000 in
theorem pick_any (w : World) (L : List ByteArray) (v : Value) (k : ByteArray) (hl : Sl w 1 encN v L) (hn : L.length ≤ 30) (hL : ∀ a, a ∈ L → a.size ≤ 40) (hk : k.size ≤ 300) :
    Calls Tryd.prog 23 #[v, .string k] w (PikP w (pickL k L)) := by
  obtain ⟨w0, hw0⟩ : ∃ w0, w0 = w.alloc (.cells #[.string k] 9) := ⟨_, rfl⟩
  have HB0 : Hid (Below w.heap.size w w0) := Lib.hid (by rw [hw0]; exact (Below.refl _ w).alloc (Nat.le_refl _) _)
  have HK0 : Hid (w0.heap[w.heap.size]? = some (.cells #[.string k] 9 (0, 0))) := Lib.hid (by rw [hw0]; exact block_new w _)
  have HC := Lib.hid (cloneS_any w0 L v (hl.below HB0.out (Nat.le_refl _)) (by omega))
  have hsz0 : w.heap.size < w0.heap.size := by rw [hw0]; simp
  have HW0 := Lib.hid hw0
  obtain ⟨ao, cap, rfl, -, -, -, -⟩ := hl
  unfold ClnP at HC
  clear hw0
  go_enter Tryd.func23, Tryd.ntmps23
  go_wp2_with fail
  rw [← HW0.out]
  refine HC.out.mono ?_
  rintro e w1 ⟨v1, rfl, ho1, hb1⟩
  have HB1 := Lib.hid (HB0.out.thru hb1)
  by_cases hnil : L = []
  · subst hnil
    obtain ⟨a1, c1, rfl, -, -, -, -⟩ := ho1.sl encN_len
    have HO := Lib.hid ho1
    have HS := Lib.hid (fun f => sortNil_any w1 a1 c1 f)
    clear ho1 hb1
    go_wp2_with (go_at_call 34; refine (HS.out _).mono ?_; rintro e w2 ⟨rfl, hq⟩; subst hq)
    go_ret
    exact ⟨_, rfl, HO.out.rebaseN (Nat.le_of_lt hsz0), HB1.out⟩
  · obtain ⟨g, cap1, rfl, hg1, hg2, -, -, -, -⟩ := Own.getk encN_len ho1 hnil
    have hk1 := (hb1.block _ (Array.getElem?_eq_some_iff.1 HK0.out).1).trans HK0.out
    have hgB : w.heap.size ≠ g := by omega
    have hst : StW (fun a : ByteArray => a.size ≤ 40) id w1 w0.heap.size g cap1 L.length L w1 := ⟨ho1, Onl.refl _ _, rfl, hL⟩
    have hcm : CmpW 39 #[.pointer (some ⟨w.heap.size, 0, none⟩)] (fun a : ByteArray => a.size ≤ 40) id (cmpK k) w1 g := fun W ho x y hx hy => by
      have hc : W.cell? ⟨w.heap.size, 0, none⟩ = some (.string k) := (cell_of_block (ho.block hk1 hgB)).trans rfl
      exact pickCmp_any W w.heap.size k x y hk hx hy hc
    have eg : ∀ args w, (callFunc 39 args).run Tryd.prog w = .ok (.enter 39 args) w := enters_of Tryd.func39 (by kernel_rfl) rfl
    have HS := Lib.hid (sortStable_st hst hcm eg (by omega))
    have hsz := hb1.size
    clear ho1 hb1 hk1 hst hcm eg
    go_wp2_with (go_at_call 34; refine HS.out.mono ?_; rintro e w2 ⟨rfl, hq⟩; have HQ := Lib.hid hq; clear hq)
    go_ret
    refine ⟨_, rfl, ?_, HB1.out.trans (HQ.out.onl.toBelow HB1.out.size (by omega))⟩
    have h1 := HQ.out.own.rebaseN (Nat.le_of_lt hsz0)
    exact h1
end Go.Proofs.YteepbfpcdhdgfaaDoor

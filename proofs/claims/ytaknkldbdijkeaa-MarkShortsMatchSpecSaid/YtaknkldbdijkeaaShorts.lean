/- MarkShortsMatchSpec: CheckBreaks and Shortened are as specified. -/
import Derived.Test.YtaknkldbdijkeaaRsh
import Derived.Test.YtaknkldbdijkeaaEqB
import Derived.Test.YtaknkldbdijkeaaSum
namespace Go.Proofs.Ytaknkldbdijkeaa
open Go.RowKit

theorem takeWhile_filter {p : Brk → Bool} : ∀ {l : List Brk}, l.Pairwise (fun a b => p b = true → p a = true) → l.takeWhile p = l.filter p
  | [], _ => rfl
  | a :: r, h => by
    rw [List.pairwise_cons] at h
    by_cases ha : p a = true
    · rw [List.takeWhile_cons, if_pos ha, List.filter_cons, if_pos ha, takeWhile_filter h.2]
    · rw [List.takeWhile_cons, if_neg ha, List.filter_cons, if_neg ha]
      symm
      rw [List.filter_eq_nil_iff]
      exact fun b hb hp => ha (h.1 b hb hp)

theorem checkB_zero {l : List Brk} (h : checkB l = 0) : ∀ i, i < l.length → cbAt l i = 0 := by
  unfold checkB at h
  split at h
  · simp at h
  · exact FF_eq_zero h

theorem checkB_next {l : List Brk} (h : checkB l = 0) (i : Nat) (hi : i + 1 < l.length) : (l[i]).be < (l[i]).en ∧ (l[i]).en ≤ (l[i + 1]).be := by
  have h1 := checkB_zero h (i + 1) hi
  have h0 := checkB_zero h i (by omega)
  simp only [cbAt, List.getD_eq_getElem?_getD, Nat.add_sub_cancel, List.getElem?_eq_getElem hi, List.getElem?_eq_getElem (Nat.lt_of_succ_lt hi), Option.getD_some] at h0 h1
  simp only [cbOf] at h0 h1
  split at h1
  · simp at h1
  split at h1
  · simp at h1
  split at h1
  · simp at h1
  split at h1
  · simp at h1
  split at h0
  · simp at h0
  split at h0
  · simp at h0
  omega

theorem checkB_sorted {l : List Brk} (h : checkB l = 0) : ∀ (d i : Nat) (hi : i + d < l.length), (l[i]'(by omega)).be ≤ (l[i + d]).be
  | 0, i, hi => by simp
  | d + 1, i, hi => by
    have h1 := checkB_sorted h d i (by omega)
    have h2 := checkB_next h (i + d) (by omega)
    have e : i + (d + 1) = i + d + 1 := rfl
    simp only [e]
    omega

theorem short_eq (l : List Brk) (t : Int) : shortR l t = shortL l t := by
  unfold shortR shortL
  split
  · rename_i hf
    have hc : checkB l = 0 := by
      unfold shortF at hf
      split at hf
      · rename_i h; exact absurd hf h
      · rename_i h; simpa using h
    rw [takeWhile_filter]
    rw [List.pairwise_iff_getElem]
    intro i j hi hj hij hp
    have h2 := checkB_sorted hc (j - i) i (by omega)
    have e : i + (j - i) = j := by omega
    simp only [e] at h2
    simp only [decide_eq_true_eq] at hp ⊢
    omega
  · rfl

set_option maxRecDepth 100000 in
set_option maxHeartbeats 1000000 in
theorem shorts_any (w : World) (l : List Brk) (v : Value) (t : Int) (hl : Sl w 3 encB v l) :
    Calls Try.prog 3 #[v, .int .i64 t] w fun e w' => e = .returned (.bool true) ∧ Below w.heap.size w w' := by
  have h1 := shortened_any w l v t hl
  have h2 := fun (w1 : World) (hb : Below w.heap.size w w1) => shortenedR_any w1 l v t (hl.below hb (Nat.le_refl _))
  have h3 := fun (w1 : World) (hb : Below w.heap.size w w1) => checkBreaks_any w1 l v (hl.below hb (Nat.le_refl _))
  have h4 := fun (w1 : World) (hb : Below w.heap.size w w1) => checkBreaksR_any w1 l v (hl.below hb (Nat.le_refl _))
  clear hl
  simp only [short_eq] at h2
  generalize shortL l t = L at h1 h2
  generalize shortF l t = f at h1 h2
  generalize checkB l = c at h3 h4
  go_enter Try.func3, Try.ntmps3
  go_wp2_with fail
  refine h1.mono ?_
  rintro e w1 ⟨v1, rfl, hs1, hb1⟩
  go_wp2_with fail
  refine (h2 w1 hb1).mono ?_
  rintro e w2 ⟨v2, rfl, hs2, hb2⟩
  have hb2' := hb1.thru hb2
  go_wp2_with fail
  refine (h3 w2 hb2').mono ?_
  rintro e w3 ⟨rfl, hb3⟩
  have hb3' := hb2'.thru hb3
  go_wp2_with fail
  refine (h4 w3 hb3').mono ?_
  rintro e w4 ⟨rfl, hb4⟩
  have hb4' := hb3'.thru hb4
  have hs1' := ((hs1.below hb2 (Nat.le_refl _)).below hb3 (Nat.le_refl _)).below hb4 (Nat.le_refl _)
  have hs2' := (hs2.below hb3 (Nat.le_refl _)).below hb4 (Nat.le_refl _)
  have h5 : Calls Try.prog 10 #[v1, v2] w4 fun e w' => e = .returned (.bool true) ∧ Below w4.heap.size w4 w' :=
    (equalB w4 L L v1 v2 hs1' hs2').mono fun _ _ ⟨he, hb⟩ => ⟨he.trans (ret_bool (decide_eq_true rfl)), hb⟩
  clear hs1 hs2 hs1' hs2' h1 h2 h3 h4
  go_wp2_with (first | (go_at_call 10; refine h5.mono ?_; rintro e w5 ⟨rfl, hb5⟩; have hb5' := hb4'.thru hb5) | (go_at_call 11; refine (awake_any _).mono ?_; rintro e w6 ⟨rfl, hb6⟩))
  go_ret
  exact ⟨rfl, hb5'.thru hb6⟩
end Go.Proofs.Ytaknkldbdijkeaa

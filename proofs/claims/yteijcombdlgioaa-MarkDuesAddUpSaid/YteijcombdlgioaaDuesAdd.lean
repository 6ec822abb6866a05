/- MarkDuesAddUp: what comes in two stretches is what comes in both. -/
import Derived.Test.YteijcombdlgioaaDue
import Derived.Test.YteijcombdlgioaaAddup
import Derived.Test.YteijcombdlgioaaCloneE
import Derived.Test.YteijcombdlgioaaEqE
import Derived.Test.YteijcombdlgioaaSum
namespace Go.Proofs.Yteijcombdlgioaa
open Go.RowKit

theorem dueL_none {l : List Prt} {a b : Int} (h : dueF l a b ≠ 0) : dueL l a b = [] := by rw [dueL, if_neg h]
theorem dueL_len {l : List Prt} {a b : Int} : (dueL l a b).length ≤ 5000 := by
  unfold dueL
  split
  · rename_i h
    have h1 := (checkP_parts (dueF_zero h).1).1
    have h2 := evAll_len l a b l.length
    omega
  · simp

set_option maxRecDepth 100000 in
set_option maxHeartbeats 4000000 in
theorem duesAdd_any (w : World) (l : List Prt) (v : Value) (a m b : Int) (hl : Sl w 3 encP v l) (hw : ∀ p, p ∈ l → WfP p) :
    Calls Try.prog 4 #[v, .int .i64 a, .int .i64 m, .int .i64 b] w fun e w' => e = .returned (.bool true) ∧ Below w.heap.size w w' := by
  have H := Lib.hid (fun (w1 : World) (a b : Int) (hb : Below w.heap.size w w1) => due_any w1 l v a b (hl.below hb (Nat.le_refl _)) hw)
  have h1 := H.out w a m (Below.refl _ _)
  have h2 := fun w1 hb => H.out w1 m b hb
  by_cases f1 : dueF l a m = 0
  case neg =>
    rw [dueL_none f1] at h1
    have n2 : dueF l m b ≠ 0 → dueL l m b = [] := dueL_none
    generalize dueL l a m = L1 at h1
    generalize dueL l m b = L2 at h2 n2
    generalize dueF l a m = F1 at h1 f1
    generalize dueF l m b = F2 at h2 n2
    have e1 : (F1 != 0) = true := by simpa using f1
    have e2 : (F1 == 0) = false := by simpa using f1
    clear f1 hl
    go_enter Try.func4, Try.ntmps4
    go_wp2_with fail
    refine h1.mono ?_
    rintro e w1 ⟨v1, rfl, hs1, hb1⟩
    obtain ⟨ao1, cap1, rfl, _⟩ := hs1
    go_wp2_with fail
    refine (h2 w1 hb1).mono ?_
    rintro e w2 ⟨v2, rfl, hs2, hb2⟩
    obtain ⟨ao2, cap2, rfl, _⟩ := hs2
    have hb2' := hb1.thru hb2
    clear h1 h2
    cases e3 : (F2 == 0)
    · have hn := n2 (by simpa using e3)
      subst hn
      clear n2
      go_wp2_with (go_at_call 13; refine (awake_any _).mono ?_; rintro e w6 ⟨rfl, hb6⟩)
      go_ret
      exact ⟨rfl, hb2'.thru hb6⟩
    · clear n2
      go_wp2_with (go_at_call 13; refine (awake_any _).mono ?_; rintro e w6 ⟨rfl, hb6⟩)
      go_ret
      exact ⟨rfl, hb2'.thru hb6⟩
  by_cases f2 : dueF l m b = 0
  case neg =>
    have h2' := h2
    simp only [dueL_none f2] at h2'
    rw [f1] at h1
    generalize dueL l a m = L1 at h1
    generalize dueF l m b = F2 at h2' f2
    have e1 : (F2 != 0) = true := by simpa using f2
    have e2 : (F2 == 0) = false := by simpa using f2
    clear f1 f2 hl h2
    go_enter Try.func4, Try.ntmps4
    go_wp2_with fail
    refine h1.mono ?_
    rintro e w1 ⟨v1, rfl, hs1, hb1⟩
    obtain ⟨ao1, cap1, rfl, _⟩ := hs1
    go_wp2_with fail
    refine (h2' w1 hb1).mono ?_
    rintro e w2 ⟨v2, rfl, hs2, hb2⟩
    obtain ⟨ao2, cap2, rfl, _⟩ := hs2
    have hb2' := hb1.thru hb2
    clear h1 h2'
    go_wp2_with (go_at_call 13; refine (awake_any _).mono ?_; rintro e w6 ⟨rfl, hb6⟩)
    go_ret
    exact ⟨rfl, hb2'.thru hb6⟩
  have hadd := dueL_add f1 f2
  have hall := dueL_all (dueF_zero f1).1
  have hlen := (checkP_parts (dueF_zero f1).1).1
  have hA1 := dueL_len (l := l) (a := a) (b := m)
  have hA2 := dueL_len (l := l) (a := m) (b := b)
  have h3 := fun w1 hb => H.out w1 a b hb
  have h4 := fun w1 hb => H.out w1 0 1000000000000000 hb
  rw [f1] at h1
  simp only [f2] at h2
  simp only [hadd.1, ← hadd.2] at h3
  simp only [hall.1] at h4
  have hall2 := hall.2
  generalize dueL l a m = L1 at h1 h3 hA1
  generalize dueL l m b = L2 at h2 h3 hA2
  generalize dueL l 0 1000000000000000 = L4 at h4 hall2
  have HL4 := Lib.hid hall2
  have HSL := Lib.hid hl
  clear hadd hall f1 f2 H hl hall2
  go_enter Try.func4, Try.ntmps4
  go_wp2_with fail
  refine h1.mono ?_
  rintro e w1 ⟨v1, rfl, hs1, hb1⟩
  go_wp2_with fail
  refine (h2 w1 hb1).mono ?_
  rintro e w2 ⟨v2, rfl, hs2, hb2⟩
  have hb2' := hb1.thru hb2
  go_wp2_with fail
  refine (h3 w2 hb2').mono ?_
  rintro e w3 ⟨v3, rfl, hs3, hb3⟩
  have hb3' := hb2'.thru hb3
  go_wp2_with fail
  refine (h4 w3 hb3').mono ?_
  rintro e w4 ⟨v4, rfl, hs4, hb4⟩
  have hb4' := hb3'.thru hb4
  have hc := cloneE_any w4 L1 v1 (((hs1.below hb2 (Nat.le_refl _)).below hb3 (Nat.le_refl _)).below hb4 (Nat.le_refl _)) (by omega)
  have S2 := Lib.hid ((hs2.below hb3 (Nat.le_refl _)).below hb4 (Nat.le_refl _))
  have S3 := Lib.hid (hs3.below hb4 (Nat.le_refl _))
  have HQ := Lib.hid (fun (w6 : World) (v6 : Value) (h : Sl w6 4 encE v6 (L1 ++ L2)) (hb : Below w4.heap.size w4 w6) => equalSameE w6 (L1 ++ L2) v6 v3 h (S3.out.below hb (Nat.le_refl _)))
  obtain ⟨ao4, cap4, rfl, _⟩ := hs4
  clear h1 h2 h3 h4 hs1 hs2 hs3
  go_wp2_with (first | (go_at_call 14; refine hc.mono ?_; rintro e w5 ⟨v5, rfl, ho5, hb5⟩; have HO5 := Lib.hid ho5; clear ho5) | (at_builtin; refine wpList_extendG (v := v5) (u := v2) rfl _ _ 23 rfl slE encE_len (fun _ => rfl) rfl rfl HO5.out (S2.out.below hb5 (Nat.le_refl _)) (by omega) hb5.size ?_; intro v6 w6 ho6 hb6; have HO6 := Lib.hid ho6; have HB6 := Lib.hid (hb5.trans hb6); clear ho6 hb6) | (go_at_call 12; refine (HQ.out _ _ (HO6.out.sl encE_len) HB6.out).mono ?_; rintro e w7 ⟨rfl, hb7⟩))
  have hb7' := (hb4'.thru HB6.out).thru hb7
  have S7 := HSL.out.below hb7' (Nat.le_refl _)
  obtain ⟨ao, cap, rfl, hcap, hmax, hnil, hel⟩ := S7
  unfold maxLen at hmax
  have HB7 := Lib.hid hb7'
  have hl4 : (L4.length : Int) ≤ 9223372036854775807 := by
    have := HL4.out
    have h5 : ∀ r : List Prt, five r ≤ 5 * r.length := by
      intro r
      induction r with
      | nil => simp [five]
      | cons p r ih => simp only [five, List.length_cons]; split <;> omega
    have := h5 l
    omega
  clear hw hA1 hA2 hb1 hb2 hb3 hb4 hb5 hb7 hb2' hb3' hb4' hb7' hc HSL HQ S2 S3 HO5 HO6 HB6
  go_loop [15, 16] (fun s15 s16 => ∃ (kk : Nat) (n : Int), kk ≤ l.length ∧ s16 = .int .i64 kk ∧ s15 = .int .i64 n ∧ 0 ≤ n ∧ n ≤ 5 * kk ∧ Aside (n = five (l.take kk))) (fun _ i => l.length - (intOf i).toNat)
  case atStart => exact ⟨0, 0, Nat.zero_le _, rfl, rfl, by omega, by omega, (show Aside _ from rfl)⟩
  case round =>
    obtain ⟨kk, n, hkk, rfl, rfl, hn0, hn1, A⟩ := hrel
    by_cases hlt : kk < l.length
    · have hltz : (kk : Int) < (l.length : Int) := by omega
      obtain ⟨p, hx⟩ : ∃ x, l[kk]? = some x := ⟨l[kk], by simp [hlt]⟩
      obtain ⟨bb, off, rfl, hc⟩ := hel kk p hx
      have c0 : w7.cell? ⟨bb, off + kk * 3, none⟩ = some (.string p.ad) := hc 0 _ rfl
      have hn2 : n ≤ 5000 := by omega
      have hfv : Hid (five (l.take (kk + 1)) = n + if noAd p = true then 0 else 5) := Lib.hid (by rw [take_next hx, five_append, ← A.out]; simp [five])
      have hno : Hid (noAd p = p.ad.toList.isEmpty) := Lib.hid rfl
      clear hx hc hel
      cases e1 : p.ad.toList.isEmpty
      · have e2 : ¬ p.ad.toList = [] := by simpa using e1
        go_wp2
        go_round
        case rel => exact ⟨kk + 1, n + 5, by omega, by go_num, rfl, by omega, by omega, (show Aside (n + 5 = five (l.take (kk + 1))) from by show _ = _; rw [hfv.out, hno.out, e1]; simp)⟩
        case measure => simp [intOf]; omega
      · have e2 : p.ad.toList = [] := by simpa using e1
        go_wp2
        go_round
        case rel => exact ⟨kk + 1, n, by omega, by go_num, rfl, by omega, by omega, (show Aside (n = five (l.take (kk + 1))) from by show _ = _; rw [hfv.out, hno.out, e1]; simp)⟩
        case measure => simp [intOf]; omega
    · obtain rfl : kk = l.length := by omega
      have hfin : Hid ((L4.length : Int) = n) := Lib.hid (by rw [HL4.out, A.out, List.take_length])
      have e1 : ((L4.length : Int) == n) = true := by rw [beq_iff_eq]; exact hfin.out
      clear hel
      go_wp2_with (go_at_call 13; refine (awake_any _).mono ?_; rintro e w8 ⟨rfl, hb8⟩)
      go_ret
      exact ⟨rfl, HB7.out.thru hb8⟩
end Go.Proofs.Yteijcombdlgioaa

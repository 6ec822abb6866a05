/- LadderPeaksAreNotLess: the walk. -/
import Derived.Test.YtjfjilbogpcfjaaPkL
namespace Go.Proofs.Ytjfjilbogpcfjaa
open Go.RowKit

theorem mN_bad {s l : List Int} {c : Int} (h : mF s l c ≠ 0) : mN s l c = 0 := by
  unfold mF at h
  unfold mN
  split
  · rfl
  · rename_i h1
    rw [if_neg h1] at h
    unfold ratF at h
    unfold ratN
    split
    · rename_i h2; rw [if_pos h2] at h; exact absurd rfl h
    · rfl

theorem sumOf_any (w : World) (l : List Int) (v : Value) (hl : Sl w 1 encI v l) (hb : ∀ x, x ∈ l → 0 ≤ x ∧ x ≤ 1000000000) (hlen : l.length ≤ 500) :
    Calls Try.prog 10 #[v] w fun e w' => e = .returned (.int .i64 (sumI l)) ∧ w = w' := by
  have h1 := sum_any w l v hl hb hlen
  clear hl hb
  go_enter Try.func10, Try.ntmps10
  go_wp2_with (go_at_call 17; refine h1.mono ?_; rintro e w' ⟨rfl, rfl⟩)
  go_ret
  exact ⟨rfl, rfl⟩

set_option maxRecDepth 100000 in
set_option maxHeartbeats 2000000 in
theorem peaks_any (w : World) (s l : List Int) (u v : Value) (c lo : Int) (hs : Sl w 1 encI u s) (hl : Sl w 1 encI v l) (hlo : -9223372036854775808 ≤ lo ∧ lo ≤ 9223372036854775807) :
    Calls Try.prog 4 #[u, v, .int .i64 c, .int .i64 lo] w fun e w' => e = .returned (.bool true) ∧ Below w.heap.size w w' := by
  have h1 := mean_any w s l u v c hs hl
  unfold RtP at h1
  have hbad := @mN_bad s l c
  have hpk := fun (z : Int) => @peaks_not_less s l c z
  have hsg : mF s l c = 0 → segF s l c = 0 := fun h => by
    unfold mF at h
    split at h
    · rename_i h1; exact absurd h h1
    · rename_i h1; simpa using h1
  have h3 := fun (W : World) (lo hi : Int) (hb : Below w.heap.size w W) => peak_any W s l u v c lo hi (hs.below hb (Nat.le_refl _)) (hl.below hb (Nat.le_refl _))
  unfold Rt3 at h3
  have h2 := fun (W : World) (hb : Below w.heap.size w W) (h : segF s l c = 0) => sumOf_any W l v (hl.below hb (Nat.le_refl _)) (fun x hx => by have := (segF_zero h).2.2.2.2.1 x hx; omega) (by have := segF_zero h; omega)
  have hss := fun h => @seg_sums s l c h
  obtain ⟨M, hM⟩ : ∃ M, M = mF s l c := ⟨_, rfl⟩
  obtain ⟨NN, hNN⟩ : ∃ M, M = mN s l c := ⟨_, rfl⟩
  obtain ⟨DD, hDD⟩ : ∃ M, M = mD s l c := ⟨_, rfl⟩
  rw [← hM, ← hNN, ← hDD] at h1
  rw [← hM] at hsg
  rw [← hM, ← hNN] at hbad
  have HPK := Lib.hid hpk
  have HM := Lib.hid hM
  have HNN := Lib.hid hNN
  have HDD := Lib.hid hDD
  have H2 := Lib.hid h2
  have H3 := Lib.hid h3
  have HSG := Lib.hid hsg
  have HSS := Lib.hid hss
  clear hpk hM hNN hDD h2 h3 hsg hss hs hl
  cases e1 : (M != 0)
  case true =>
    obtain rfl := hbad (by simpa using e1)
    clear hbad
    go_enter Try.func4, Try.ntmps4
    go_wp2_with (first | (go_at_call 5; refine h1.mono ?_; rintro e w1 ⟨rfl, hb1⟩; have hz1 := hb1.size) | (go_at_call 9; refine (awake5_any _).mono ?_; rintro e w6 ⟨rfl, hb6⟩))
    go_ret
    exact ⟨rfl, (hb1.alloc hz1 _).thru hb6⟩
  obtain rfl : M = 0 := by simpa using e1
  clear e1 hbad
  have hsg := HSG.out rfl
  obtain ⟨q1, q2, q3, q4⟩ := HSS.out hsg
  have h2 := fun (W : World) (hb : Below w.heap.size w W) => H2.out W hb hsg
  have HPK2 := Lib.hid (fun z h0 h1 => HPK.out z HM.out.symm h0 h1)
  rw [← HNN.out, ← HDD.out] at HPK2
  obtain ⟨A, hA⟩ : ∃ A, A = sumI l := ⟨_, rfl⟩
  rw [← hA] at h2 q3 q4 HPK2
  have H2' := Lib.hid h2
  clear hA h2 hsg
  go_enter Try.func4, Try.ntmps4
  go_wp2_with (first | (go_at_call 5; refine h1.mono ?_; rintro e w1 ⟨rfl, hb1⟩; have hz1 := hb1.size; have HB1 := Lib.hid (hb1.alloc hb1.size (.cells #[.int .i64 NN, .int .i64 DD] 24)); have HK1 := Lib.hid (block_new w1 (.cells #[.int .i64 NN, .int .i64 DD] 24)); have h2 := H2'.out _ HB1.out; clear hb1) | (go_at_call 10; refine h2.mono ?_; rintro e w2 ⟨rfl, rfl⟩) | (go_at_call 11; refine (below_any lo A _ q3 (by omega) hlo).mono ?_; rintro e w2 ⟨⟨z, rfl, hz2, hz3⟩, rfl⟩; have h3 := H3.out _ (1 + z) A HB1.out; have hpk := HPK2.out z hz2 hz3; generalize pkN s l c (1 + z) A = n4 at h3 hpk; generalize pkD s l c (1 + z) A = n5 at h3 hpk; generalize pkB s l c (1 + z) A = n6 at h3 hpk; generalize pkF s l c (1 + z) A = n7 at h3 hpk; have HPK3 := Lib.hid hpk; clear hpk h2))
  rcases HPK3.out with rfl | ⟨rfl, rfl, ⟨a1, a2⟩, ⟨a3, a4⟩, ⟨a5, a6⟩, ⟨a7, a8⟩, a9⟩
  · go_wp2_with (first | (go_at_call 7; refine h3.mono ?_; rintro e w3 ⟨rfl, hb3⟩; have hz3 := hb3.size; have HB3 := Lib.hid (HB1.out.thru hb3); have hz4 := HB3.out.size; clear hb3) | (go_at_call 9; refine (awake5_any _).mono ?_; rintro e w6 ⟨rfl, hb6⟩))
    go_ret
    exact ⟨rfl, (HB3.out.alloc hz4 _).thru hb6⟩
  · have hl := fun (W : World) => less_int n4 n5 NN DD W (by omega) (by omega) (by omega) (by omega)
    rw [decide_eq_false (Int.not_lt.2 a9)] at hl
    have HL := Lib.hid hl
    clear hl a9 HPK3
    go_wp2_with (first | (go_at_call 7; refine h3.mono ?_; rintro e w3 ⟨rfl, hb3⟩; have hz3 := hb3.size; have hk3 := (hb3.block w1.heap.size (by simp)).trans HK1.out; have d0 := (cell_of_block (i := 0) hk3).trans rfl; have d1 := (cell_of_block (i := 1) hk3).trans rfl; have hlt3 := lt_of_block hk3; have HB3 := Lib.hid (HB1.out.thru hb3); have hz4 := HB3.out.size; clear hb3 hk3) | (go_at_call 12; refine (HL.out _).mono ?_; rintro e w4 ⟨rfl, hb4⟩) | (go_at_call 9; refine (awake5_any _).mono ?_; rintro e w6 ⟨rfl, hb6⟩))
    go_ret
    exact ⟨rfl, ((HB3.out.alloc hz4 _).thru hb4).thru hb6⟩
end Go.Proofs.Ytjfjilbogpcfjaa

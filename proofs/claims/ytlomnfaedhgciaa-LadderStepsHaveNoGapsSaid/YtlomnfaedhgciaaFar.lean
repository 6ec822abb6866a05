/- farther of the program: products compared in wide integers. -/
import Derived.Test.YtlomnfaedhgciaaStp
namespace Go.Proofs.Ytlomnfaedhgciaa
open Go.RowKit

set_option maxHeartbeats 2000000 in
theorem far_nn (a b n d : Nat) (w : World) (ha : a ≤ 1000000000) (hb : b ≤ 1000000000) (hn : n ≤ 1000000000) (hd : d ≤ 1000000000) :
    Calls Try.prog 18 #[.int .i64 a, .int .i64 b, .agg #[.int .i64 n, .int .i64 d]] w fun e w' => e = .returned (.bool (farB a b n d)) ∧ Below w.heap.size w w' := by
  have t1 := Lib.hid (fun w => times_nn b d w (by omega) (by omega))
  have t2 := Lib.hid (fun w => times_nn a n w (by omega) (by omega))
  have t3 := Lib.hid (fun w => (show Calls Try.prog 32 #[.agg #[.int .i64 (b * d / 18446744073709551616 : Nat), .int .u64 (b * d % 18446744073709551616 : Nat)], .agg #[.int .i64 (a * n / 18446744073709551616 : Nat), .int .u64 (a * n % 18446744073709551616 : Nat)]] w fun e w' => e = .returned (.int .i64 (sgn ((b * d : Nat) : Int) ((a * n : Nat) : Int))) ∧ Below w.heap.size w w' by
    have h := icmp_any ((b * d / 18446744073709551616 : Nat) : Int) ((b * d % 18446744073709551616 : Nat) : Int) ((a * n / 18446744073709551616 : Nat) : Int) ((a * n % 18446744073709551616 : Nat) : Int) w
    rw [sgn_wide] at h
    exact h))
  have HS : Hid (decide (0 < sgn ((b * d : Nat) : Int) ((a * n : Nat) : Int)) = farB a b n d) := Lib.hid sgn_far
  generalize sgn ((b * d : Nat) : Int) ((a * n : Nat) : Int) = R at t3 HS
  generalize farB a b n d = F at HS ⊢
  generalize b * d / 18446744073709551616 = x1 at t1 t3
  generalize b * d % 18446744073709551616 = x2 at t1 t3
  generalize a * n / 18446744073709551616 = x3 at t2 t3
  generalize a * n % 18446744073709551616 = x4 at t2 t3
  have HK := Lib.hid (block_new w (.cells #[.int .i64 n, .int .i64 d] 24))
  have HB := Lib.hid ((Below.refl w.heap.size w).alloc (Nat.le_refl _) (.cells #[.int .i64 n, .int .i64 d] 24))
  obtain ⟨w1, hw1⟩ : ∃ w1, w1 = w.alloc (.cells #[.int .i64 n, .int .i64 d] 24) := ⟨_, rfl⟩
  rw [← hw1] at HK HB
  have hlt := lt_of_block HK.out
  have HSS : Hid (∀ W : World, Below w1.heap.size w1 W → (W.cell? ⟨w.heap.size, 0, none⟩ = some (.int .i64 n) ∧ W.cell? ⟨w.heap.size, 1, none⟩ = some (.int .i64 d))) := Lib.hid (fun W hb =>
    ⟨(hb.cell (p := ⟨w.heap.size, 0, none⟩) hlt).trans ((cell_of_block (i := 0) HK.out).trans rfl), (hb.cell (p := ⟨w.heap.size, 1, none⟩) hlt).trans ((cell_of_block (i := 1) HK.out).trans rfl)⟩)
  have HW1 := Lib.hid hw1
  have hbc : Below w1.heap.size w1 w1.drew := (Below.refl _ w1).drew
  clear hw1 ha hb hn hd
  go_enter Try.func18, Try.ntmps18
  go_wp2
  rw [← HW1.out]
  go_region_held3 (fun w' => w'.cell? ⟨w.heap.size, 0, none⟩ = some (.int .i64 n) ∧ w'.cell? ⟨w.heap.size, 1, none⟩ = some (.int .i64 d))
    (first | exact HSS.out _ hbc | fail "keep")
    (first | (go_at_call 31; ((with_reducible refine (t1.out _).mono ?_); rintro e w' ⟨rfl, hb⟩; replace hbc := hbc.thru hb; clear hb))
           | (go_at_call 31; ((with_reducible refine (t2.out _).mono ?_); rintro e w' ⟨rfl, hb⟩; replace hbc := hbc.thru hb; clear hb))
           | (go_at_call 32; ((with_reducible refine (t3.out _).mono ?_); rintro e w' ⟨rfl, hb⟩; replace hbc := hbc.thru hb; clear hb)) | fail "arms")
  all_goals
    go_wp2
    go_ret
    exact ⟨ret_bool HS.out, HB.out.thru hbc⟩

theorem farther_any (a b n d : Int) (w : World) (ha : 0 ≤ a ∧ a ≤ 1000000000) (hb : 0 ≤ b ∧ b ≤ 1000000000) (hn : 0 ≤ n ∧ n ≤ 1000000000) (hd : 0 ≤ d ∧ d ≤ 1000000000) :
    Calls Try.prog 18 #[.int .i64 a, .int .i64 b, .agg #[.int .i64 n, .int .i64 d]] w fun e w' => e = .returned (.bool (farB a b n d)) ∧ Below w.heap.size w w' := by
  obtain ⟨a', rfl⟩ := Int.eq_ofNat_of_zero_le ha.1
  obtain ⟨b', rfl⟩ := Int.eq_ofNat_of_zero_le hb.1
  obtain ⟨n', rfl⟩ := Int.eq_ofNat_of_zero_le hn.1
  obtain ⟨d', rfl⟩ := Int.eq_ofNat_of_zero_le hd.1
  exact far_nn a' b' n' d' w (by omega) (by omega) (by omega) (by omega)
end Go.Proofs.Ytlomnfaedhgciaa

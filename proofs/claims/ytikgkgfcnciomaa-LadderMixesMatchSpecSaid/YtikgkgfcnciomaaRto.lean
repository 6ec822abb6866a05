/- ratio, lowest, less: fractions of the program and of the reference. -/
import Derived.Test.YtikgkgfcnciomaaMixL
import Derived.Test.YtikgkgfcnciomaaRat2
namespace Go.Proofs.Ytikgkgfcnciomaa
open Go.RowKit

def RtR (w : World) (n d : Int) : Ending → World → Prop := fun e w' => e = .returned (.agg #[.int .i64 n, .int .i64 d]) ∧ Below w.heap.size w w'
theorem RtR.mk {w w' : World} {n d n' d' : Int} (hn : n' = n) (hd : d' = d) (hw : Below w.heap.size w w') : RtR w n d (.returned (.agg #[.int .i64 n', .int .i64 d'])) w' := by
  subst hn hd
  exact ⟨rfl, hw⟩

set_option maxHeartbeats 1000000 in
theorem ratio_nn (a b : Nat) (w : World) (ha : a ≤ 4000000000000000000) (hb : b ≤ 4000000000000000000) (h0 : 0 < b) :
    Calls Try.prog 34 #[.int .i64 a, .int .i64 b] w (RtR w (redN a b) (redD a b)) := by
  have hg : 0 < Nat.gcd a b := Nat.gcd_pos_of_pos_right _ h0
  have hgb : Nat.gcd a b ≤ b := Nat.le_of_dvd h0 (Nat.gcd_dvd_right a b)
  have d1 := fun (w : World) => divisor_any a b w (by omega) (by omega) (by omega) (by omega)
  simp only [Int.toNat_natCast] at d1
  have hN : Hid (redN a b = (a : Int) / (Nat.gcd a b : Nat)) := Lib.hid (by unfold redN; simp)
  have hD : Hid (redD a b = (b : Int) / (Nat.gcd a b : Nat)) := Lib.hid (by unfold redD; simp)
  have hNa : Hid ((a : Int) / (Nat.gcd a b : Nat) ≤ 4000000000000000000 ∧ (0 : Int) ≤ (a : Int) / (Nat.gcd a b : Nat)) := Lib.hid ⟨Int.le_trans (Int.ediv_le_self _ (by omega)) (by omega), Int.ediv_nonneg (by omega) (by omega)⟩
  have hDa : Hid ((b : Int) / (Nat.gcd a b : Nat) ≤ 4000000000000000000 ∧ (0 : Int) ≤ (b : Int) / (Nat.gcd a b : Nat)) := Lib.hid ⟨Int.le_trans (Int.ediv_le_self _ (by omega)) (by omega), Int.ediv_nonneg (by omega) (by omega)⟩
  generalize redN a b = N at hN ⊢
  generalize redD a b = D at hD ⊢
  generalize Nat.gcd a b = G at hg hgb d1 hN hD hNa hDa
  have e1 : ¬ (G : Int) = 0 := by omega
  have e2 : (0 : Int) < (G : Int) := by omega
  have HBK := Lib.hid (block_new w (.cells #[.int .i64 0, .int .i64 0] 36))
  have HB0 := Lib.hid ((Below.refl w.heap.size w).alloc (Nat.le_refl _) (.cells #[.int .i64 0, .int .i64 0] 36))
  go_enter Try.func34, Try.ntmps34
  go_upto_region 2 with (go_at_call 44; refine (d1 _).mono ?_; rintro e w1 ⟨rfl, hb1⟩; have HB1 := Lib.hid (HB0.out.thru hb1); have hK1 := (hb1.block w.heap.size (by simp)).trans HBK.out; clear hb1)
  have c0 := (cell_of_block (i := 0) hK1).trans rfl
  have c1 := (cell_of_block (i := 1) hK1).trans rfl
  have f0 := froz_of_block (i := 0) hK1
  have f1 := froz_of_block (i := 1) hK1
  have hlt := lt_of_block hK1
  clear hK1 d1
  obtain ⟨hn1, hn2⟩ := hNa.out
  obtain ⟨hd1, hd2⟩ := hDa.out
  go_region
  all_goals
    go_wp2
    exact bodyPost_ret (v := .agg #[.int .i64 ((a : Int) / (G : Int)), .int .i64 ((b : Int) / (G : Int))]) (by simp [results, Try.results34, go_sem, c0, c1]) rfl (RtR.mk hN.out.symm hD.out.symm ((HB1.out.drew.setCell (Nat.le_refl _) _).setCell (Nat.le_refl _) _))
theorem ratio_any (n d : Int) (w : World) (hn : 0 ≤ n) (hn1 : n ≤ 4000000000000000000) (hd : 0 < d) (hd1 : d ≤ 4000000000000000000) :
    Calls Try.prog 34 #[.int .i64 n, .int .i64 d] w (RtR w (redN n d) (redD n d)) := by
  obtain ⟨a, rfl⟩ := Int.eq_ofNat_of_zero_le hn
  obtain ⟨b, rfl⟩ := Int.eq_ofNat_of_zero_le (Int.le_of_lt hd)
  exact ratio_nn a b w (by omega) (by omega) (by omega)

set_option maxHeartbeats 1000000 in
theorem lowest_nn (a b : Nat) (w : World) (ha : a ≤ 4000000000000000000) (hb : b ≤ 4000000000000000000) (h0 : 0 < b) :
    Calls Try.prog 36 #[.int .i64 a, .int .i64 b] w (RtR w (redN a b) (redD a b)) := by
  have hg : 0 < Nat.gcd a b := Nat.gcd_pos_of_pos_right _ h0
  have hgb : Nat.gcd a b ≤ b := Nat.le_of_dvd h0 (Nat.gcd_dvd_right a b)
  have hN : Hid (redN a b = (a : Int) / (Nat.gcd a b : Nat)) := Lib.hid (by unfold redN; simp)
  have hD : Hid (redD a b = (b : Int) / (Nat.gcd a b : Nat)) := Lib.hid (by unfold redD; simp)
  have hNa : Hid ((a : Int) / (Nat.gcd a b : Nat) ≤ 4000000000000000000 ∧ (0 : Int) ≤ (a : Int) / (Nat.gcd a b : Nat)) := Lib.hid ⟨Int.le_trans (Int.ediv_le_self _ (by omega)) (by omega), Int.ediv_nonneg (by omega) (by omega)⟩
  have hDa : Hid ((b : Int) / (Nat.gcd a b : Nat) ≤ 4000000000000000000 ∧ (0 : Int) ≤ (b : Int) / (Nat.gcd a b : Nat)) := Lib.hid ⟨Int.le_trans (Int.ediv_le_self _ (by omega)) (by omega), Int.ediv_nonneg (by omega) (by omega)⟩
  obtain ⟨G, hG⟩ : ∃ G, G = Nat.gcd a b := ⟨_, rfl⟩
  have HG := Lib.hid hG
  generalize redN a b = N at hN ⊢
  generalize redD a b = D at hD ⊢
  rw [← hG] at hg hgb hN hD hNa hDa
  have e1 : ¬ (G : Int) = 0 := by omega
  have e2 : (0 : Int) < (G : Int) := by omega
  have HBK := Lib.hid (block_new w (.cells #[.int .i64 0, .int .i64 0] 36))
  have HB0 := Lib.hid ((Below.refl w.heap.size w).alloc (Nat.le_refl _) (.cells #[.int .i64 0, .int .i64 0] 36))
  clear hG
  go_enter Try.func36, Try.ntmps36
  go_wp2
  go_loopw [5, 6] (fun s0 s1 wr => ∃ x y : Nat, x ≤ 4000000000000000000 ∧ y ≤ 4000000000000000000 ∧ s0 = .int .i64 x ∧ s1 = .int .i64 y ∧ Aside (G = Nat.gcd x y) ∧ Aside (Below w.heap.size w wr) ∧ Aside (wr.heap[w.heap.size]? = some (.cells #[.int .i64 0, .int .i64 0] 36 (0, 0)))) (fun _ s1 _ => (intOf s1).toNat)
  case atStart => exact ⟨a, b, by omega, by omega, rfl, rfl, HG.out, HB0.out, HBK.out⟩
  case round =>
    obtain ⟨x, y, hx, hy, rfl, rfl, A, BW, KW⟩ := hrel
    by_cases hy0 : y = 0
    · have hv : x = G := by rw [A.out, hy0, Nat.gcd_zero_right]
      subst hv
      have d1 : ((y : Int) != 0) = false := by simp [hy0]
      have c0 := (cell_of_block (i := 0) KW.out).trans rfl
      have c1 := (cell_of_block (i := 1) KW.out).trans rfl
      have f0 := froz_of_block (i := 0) KW.out
      have f1 := froz_of_block (i := 1) KW.out
      have hlt := lt_of_block KW.out
      have HBW := Lib.hid BW.out
      obtain ⟨hn1, hn2⟩ := hNa.out
      obtain ⟨hd1, hd2⟩ := hDa.out
      clear hy0 A BW KW
      go_wp2
      go_region
      all_goals
        go_wp2
        exact bodyPost_ret (v := .agg #[.int .i64 ((a : Int) / (x : Int)), .int .i64 ((b : Int) / (x : Int))]) (by simp [results, Try.results36, go_sem, c0, c1]) rfl (RtR.mk hN.out.symm hD.out.symm ((HBW.out.drew.setCell (Nat.le_refl _) _).setCell (Nat.le_refl _) _))
    · have e1 : ((y : Int) != 0) = true := by simp [hy0]
      have e2 : ((y : Int) == 0) = false := by simp [hy0]
      have e3 : ¬ (y : Int) = 0 := by omega
      have e4 : (0 : Int) < (y : Int) := by omega
      have hlt : x % y < y := Nat.mod_lt _ (by omega)
      have hm := tmod_nat x y
      have hq : Hid (G = Nat.gcd y (x % y)) := Lib.hid (by rw [gcd_step]; exact A.out)
      have hmm : (x : Int) % (y : Int) = ((x % y : Nat) : Int) := (Int.natCast_emod x y).symm
      have HM := Lib.hid hmm
      have HKW := Lib.hid KW.out
      clear hy0 hmm
      go_wp2
      go_quiet (fail)
      go_wp2
      go_roundw
      case rel => exact ⟨y, x % y, by omega, by omega, rfl, by first | rfl | (rw [HM.out]) | simp, hq.out, below_drewN BW.out _, HKW.out⟩
      case measure => simp [intOf]; omega
theorem lowest_any (n d : Int) (w : World) (hn : 0 ≤ n) (hn1 : n ≤ 4000000000000000000) (hd : 0 < d) (hd1 : d ≤ 4000000000000000000) :
    Calls Try.prog 36 #[.int .i64 n, .int .i64 d] w (RtR w (redN n d) (redD n d)) := by
  obtain ⟨a, rfl⟩ := Int.eq_ofNat_of_zero_le hn
  obtain ⟨b, rfl⟩ := Int.eq_ofNat_of_zero_le (Int.le_of_lt hd)
  exact lowest_nn a b w (by omega) (by omega) (by omega)
end Go.Proofs.Ytikgkgfcnciomaa

/- The reference's Less and Below. -/
import Derived.Test.YtjfjilbogpcfjaaWide
namespace Go.Proofs.Ytjfjilbogpcfjaa
open Go.RowKit

theorem less_parts {a b c d : Nat} (hb : 1 ≤ b) (hd : 1 ≤ d) (h : a / b ≠ c / d) : a * d < c * b ↔ a / b < c / d := by
  have h1 := Nat.div_add_mod a b
  have h2 := Nat.div_add_mod c d
  have h3 := Nat.mod_lt a hb
  have h4 := Nat.mod_lt c hd
  generalize a / b = p at h h1 ⊢
  generalize c / d = q at h h2 ⊢
  generalize a % b = r at h1 h3
  generalize c % d = s at h2 h4
  subst h1 h2
  constructor
  · intro hlt
    rcases Nat.lt_or_ge p q with h5 | h5
    · exact h5
    · exfalso
      have h6 : q + 1 ≤ p := by omega
      have h7 : (q + 1) * (b * d) ≤ p * (b * d) := Nat.mul_le_mul_right _ h6
      have h8 : (d * q + s) * b < (q + 1) * (b * d) := by
        have : (d * q + s) * b < (d * q + d) * b := Nat.mul_lt_mul_of_pos_right (by omega) hb
        calc (d * q + s) * b < (d * q + d) * b := this
          _ = (q + 1) * (b * d) := by rw [← Nat.mul_succ, Nat.mul_comm b d, Nat.mul_comm d (q + 1), Nat.mul_assoc]
      have h9 : p * (b * d) ≤ (b * p + r) * d := by
        calc p * (b * d) = b * p * d := by rw [← Nat.mul_assoc, Nat.mul_comm p b]
          _ ≤ (b * p + r) * d := Nat.mul_le_mul_right _ (by omega)
      omega
  · intro hlt
    have h6 : p + 1 ≤ q := hlt
    have h7 : (p + 1) * (b * d) ≤ q * (b * d) := Nat.mul_le_mul_right _ h6
    have h8 : (b * p + r) * d < (p + 1) * (b * d) := by
      have : (b * p + r) * d < (b * p + b) * d := Nat.mul_lt_mul_of_pos_right (by omega) hd
      calc (b * p + r) * d < (b * p + b) * d := this
        _ = (p + 1) * (b * d) := by rw [← Nat.mul_succ, Nat.mul_comm b (p + 1), Nat.mul_assoc]
    have h9 : q * (b * d) ≤ (d * q + s) * b := by
      calc q * (b * d) = d * q * b := by rw [Nat.mul_comm b d, ← Nat.mul_assoc, Nat.mul_comm q d]
        _ ≤ (d * q + s) * b := Nat.mul_le_mul_right _ (by omega)
    omega
theorem less_rest {a b c d : Nat} (h : a / b = c / d) : a * d < c * b ↔ a % b * d < c % d * b := by
  have h1 := Nat.div_add_mod a b
  have h2 := Nat.div_add_mod c d
  rw [h] at h1
  generalize c / d = q at h1 h2
  generalize a % b = r at h1 ⊢
  generalize c % d = s at h2 ⊢
  subst h1 h2
  rw [Nat.add_mul, Nat.add_mul]
  have : b * q * d = d * q * b := by rw [Nat.mul_comm b q, Nat.mul_assoc, Nat.mul_comm b d, ← Nat.mul_assoc, Nat.mul_comm q d]
  omega

/-- What a round of Less knows. -/
def LsAt (A : Bool) (a b c d : Nat) : Prop := A = decide (a * d < c * b)
theorem LsAt.differ {A : Bool} {a b c d : Nat} (h : LsAt A a b c d) (hb : 1 ≤ b) (hd : 1 ≤ d) (hne : a / b ≠ c / d) : decide ((a / b : Nat) < (c / d : Nat)) = A := by
  unfold LsAt at h
  rw [h, decide_eq_decide]
  exact (less_parts hb hd hne).symm
theorem LsAt.stop {A : Bool} {a b c d : Nat} (h : LsAt A a b c d) (hb : 1 ≤ b) (he : a / b = c / d) (hz : a % b = 0 ∨ c % d = 0) : (decide (a % b = 0) && decide (c % d ≠ 0)) = A := by
  unfold LsAt at h
  rw [h, Bool.eq_iff_iff]
  simp only [Bool.and_eq_true, decide_eq_true_eq]
  rw [less_rest he]
  generalize a % b = r at hz ⊢
  generalize c % d = s at hz ⊢
  constructor
  · rintro ⟨rfl, h2⟩
    have : 0 < s * b := Nat.mul_pos (by omega) (by omega)
    omega
  · intro h1
    rcases hz with rfl | rfl
    · refine ⟨rfl, fun e => ?_⟩
      subst e
      simp at h1
    · simp at h1
theorem LsAt.next {A : Bool} {a b c d : Nat} (h : LsAt A a b c d) (he : a / b = c / d) : LsAt A d (c % d) b (a % b) := by
  unfold LsAt at h ⊢
  rw [h, decide_eq_decide, less_rest he, Nat.mul_comm d, Nat.mul_comm b]

theorem w64n {n : Nat} (h : n ≤ 9223372036854775807) : wrap64 (n : Int) = n := w64 _ (Int.natCast_nonneg _) (by omega)
theorem ediv_nat (x y : Nat) : (x : Int) / (y : Int) = ((x / y : Nat) : Int) := (Int.natCast_ediv _ _).symm
theorem emod_nat (x y : Nat) : (x : Int) % (y : Int) = ((x % y : Nat) : Int) := (Int.natCast_emod _ _).symm

set_option maxRecDepth 100000 in
set_option maxHeartbeats 2000000 in
theorem less_any (a0 b0 c0 d0 : Nat) (w : World) (ha : a0 ≤ 9223372036854775807) (hb : 1 ≤ b0) (hb1 : b0 ≤ 9223372036854775807) (hc : c0 ≤ 9223372036854775807) (hd : 1 ≤ d0) (hd1 : d0 ≤ 9223372036854775807) :
    Calls Try.prog 12 #[.int .i64 a0, .int .i64 b0, .int .i64 c0, .int .i64 d0] w fun e w' => e = .returned (.bool (decide (a0 * d0 < c0 * b0))) ∧ Below w.heap.size w w' := by
  have hst : Hid (LsAt (decide (a0 * d0 < c0 * b0)) a0 b0 c0 d0) := Lib.hid rfl
  generalize decide (a0 * d0 < c0 * b0) = A at hst ⊢
  go_enter Try.func12, Try.ntmps12
  go_wp2
  go_loopw [0, 1, 2, 3, 9, 10] (fun s0 s1 s2 s3 _ _ wr => ∃ a b c d : Nat, a ≤ 9223372036854775807 ∧ 1 ≤ b ∧ b ≤ 9223372036854775807 ∧ c ≤ 9223372036854775807 ∧ 1 ≤ d ∧ d ≤ 9223372036854775807 ∧ s0 = .int .i64 a ∧ s1 = .int .i64 b ∧ s2 = .int .i64 c ∧ s3 = .int .i64 d ∧ Aside (LsAt A a b c d) ∧ Aside (Below w.heap.size w wr)) (fun _ s1 _ s3 _ _ _ => (intOf s1).toNat + (intOf s3).toNat)
  case atStart => exact ⟨a0, b0, c0, d0, ha, hb, hb1, hc, hd, hd1, rfl, rfl, rfl, rfl, hst.out, Below.refl _ _⟩
  case round =>
    clear hst ha hb hb1 hc hd hd1
    obtain ⟨a, b, c, d, ha, hb, hb1, hc, hd, hd1, rfl, rfl, rfl, rfl, LA, BW⟩ := hrel
    have e1 : ¬ (b : Int) = 0 := by omega
    have e2 : (0 : Int) < (b : Int) := by omega
    have e3 : ¬ (d : Int) = 0 := by omega
    have e4 : (0 : Int) < (d : Int) := by omega
    have q1 := Lib.hid (ediv_nat a b)
    have q2 := Lib.hid (ediv_nat c d)
    have q3 := Lib.hid (emod_nat a b)
    have q4 := Lib.hid (emod_nat c d)
    have l1 : a / b ≤ a := Nat.div_le_self _ _
    have l2 : c / d ≤ c := Nat.div_le_self _ _
    have l3 : a % b < b := Nat.mod_lt _ hb
    have l4 : c % d < d := Nat.mod_lt _ hd
    have L1 := Lib.hid (LA.out.differ hb hd)
    have L2 := Lib.hid (LA.out.stop hb)
    have L3 := Lib.hid LA.out.next
    go_upto_region 1 with (fail)
    go_cut [9, 10] (fun s9 s10 w2 => s9 = .int .i64 (a / b : Nat) ∧ s10 = .int .i64 (c / d : Nat) ∧ ∃ n, w2 = wr.drewN n)
    case first =>
      go_quiet (fail)
      go_wp2
      go_meet
      exact ⟨by first | (rw [q1.out]; done) | rw [q1.out, w64n (Nat.le_trans l1 ha)], by first | (rw [q2.out]; done) | rw [q2.out, w64n (Nat.le_trans l2 hc)], _, rfl⟩
    obtain ⟨rfl, rfl, nq, rfl⟩ := hcut
    obtain ⟨p, hp⟩ : ∃ p, p = a / b := ⟨_, rfl⟩
    obtain ⟨q, hq⟩ : ∃ p, p = c / d := ⟨_, rfl⟩
    rw [← hp] at L1 L2 L3 l1 ⊢
    rw [← hq] at L1 L2 L3 l2 ⊢
    clear hp hq q1 q2
    by_cases hne : p = q
    case neg =>
      have f1 : ((p : Int) != (q : Int)) = true := by rw [bne_iff_ne]; omega
      have hv : Hid (decide ((p : Int) < (q : Int)) = A) := Lib.hid (by rw [← L1.out hne, decide_eq_decide]; omega)
      clear hne
      go_wp2
      go_ret
      exact ⟨by rw [← hv.out]; first | rfl | simp, below_drewN BW.out _⟩
    subst hne
    obtain ⟨w2, hw2⟩ : ∃ w2, w2 = wr.drewN nq := ⟨_, rfl⟩
    have HB2 : Hid (Below w.heap.size w w2) := Lib.hid (by rw [hw2]; exact below_drewN BW.out _)
    rw [← hw2]
    clear hw2
    go_upto_region 4 with (fail)
    go_cut [0, 2] (fun s0 s2 w4 => s0 = .int .i64 (a % b : Nat) ∧ s2 = .int .i64 (c % d : Nat) ∧ ∃ n, w4 = w2.drewN n)
    case first =>
      go_quiet (fail)
      go_wp2
      go_meet
      exact ⟨by first | (rw [q3.out]; done) | rfl, by first | (rw [q4.out]; done) | rfl, _, rfl⟩
    obtain ⟨rfl, rfl, nq2, rfl⟩ := hcut
    obtain ⟨r, hr⟩ : ∃ p, p = a % b := ⟨_, rfl⟩
    obtain ⟨s, hs⟩ : ∃ p, p = c % d := ⟨_, rfl⟩
    rw [← hr] at L2 L3 l3 ⊢
    rw [← hs] at L2 L3 l4 ⊢
    clear hr hs q3 q4
    have hb2 := below_drewN HB2.out nq2
    have HB3 := Lib.hid hb2
    clear hb2
    by_cases hr0 : r = 0
    · have f1 : ((r : Int) == 0) = true := by simp [hr0]
      have hv : Hid (decide (r = 0) = true) := Lib.hid (decide_eq_true hr0)
      have hv2 := Lib.hid (L2.out rfl (.inl hr0))
      clear hr0
      go_wp2
      go_ret
      exact ⟨by rw [← hv2.out, hv.out]; exact ret_bool (by rw [Bool.eq_iff_iff]; simp), HB3.out⟩
    · have f1 : ((r : Int) == 0) = false := by simp [hr0]
      by_cases hs0 : s = 0
      · have f2 : ((s : Int) == 0) = true := by simp [hs0]
        have hv : Hid (decide (r = 0) = false) := Lib.hid (decide_eq_false hr0)
        have hv2 := Lib.hid (L2.out rfl (.inr hs0))
        clear hr0 hs0
        go_wp2
        go_ret
        exact ⟨by rw [← hv2.out, hv.out]; exact ret_bool (by rw [Bool.eq_iff_iff]; simp), HB3.out⟩
      · have f2 : ((s : Int) == 0) = false := by simp [hs0]
        have hv2 := Lib.hid (L3.out rfl)
        have g1 : 1 ≤ s := by omega
        have g2 : 1 ≤ r := by omega
        clear hr0 hs0
        go_wp2
        try go_quiet (fail)
        go_wp2
        go_roundw
        case rel => exact ⟨d, s, b, r, hd1, g1, by omega, hb1, g2, by omega, rfl, rfl, rfl, rfl, hv2.out, (show Below _ _ _ from HB3.out)⟩
        case measure => simp [intOf]; omega

theorem below_any (x n : Int) (w : World) (hn : 1 ≤ n) (hn1 : n ≤ 9223372036854775807) (hx : -9223372036854775808 ≤ x ∧ x ≤ 9223372036854775807) :
    Calls Try.prog 11 #[.int .i64 x, .int .i64 n] w fun e w' => (∃ z : Int, e = .returned (.int .i64 z) ∧ 0 ≤ z ∧ z < n) ∧ w = w' := by
  have h1 := Int.tmod_lt_of_pos x (show 0 < n by omega)
  have h2 : -n < x.tmod n := by
    have := Int.natAbs_tmod x n
    have h3 : (x.tmod n).natAbs < n.natAbs := by rw [this]; exact Nat.mod_lt _ (by omega)
    omega
  obtain ⟨hx0, hx1⟩ := hx
  have e1 : ¬ n = 0 := by omega
  obtain ⟨z, hz⟩ : ∃ z, z = x.tmod n := ⟨_, rfl⟩
  rw [← hz] at h1 h2
  have hz' : x.tmod n = z := hz.symm
  clear hz
  by_cases h0 : z < 0
  · go_enter Try.func11, Try.ntmps11
    go_wp2
    go_ret
    exact ⟨⟨_, rfl, by omega, by omega⟩, rfl⟩
  · go_enter Try.func11, Try.ntmps11
    go_wp2
    go_ret
    exact ⟨⟨_, rfl, by omega, by omega⟩, rfl⟩
end Go.Proofs.Ytjfjilbogpcfjaa

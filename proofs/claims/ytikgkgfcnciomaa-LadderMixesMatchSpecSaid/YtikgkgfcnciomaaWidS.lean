/- Products of numbers of either sign, in wide integers. -/
import Derived.Test.YtikgkgfcnciomaaWideT
import Derived.Shelf.Spec.BitsCarry
namespace Go.Proofs.Ytikgkgfcnciomaa
open Go.RowKit

theorem sub64_run (x y b : Nat) (hb : b ≤ 1) (w : World) :
    (callFunc 51 #[.int .u64 x, .int .u64 y, .int .u64 b]).run Try.prog w =
      .ok (.value (.tuple #[.int .u64 (((x + 18446744073709551616 - y - b) % 18446744073709551616 : Nat) : Int), .int .u64 ((if x < y + b then 1 else 0 : Nat) : Int)])) w := by
  rw [run_callFunc_extern Try.func51 (by kernel_rfl) (by kernel_rfl) (by kernel_rfl) (e := sub64Entry) (by kernel_rfl), run_sub64 x y b hb]
  rfl

theorem size_neg (a : Nat) (w : World) (ha : a ≤ 9223372036854775807) (h0 : 0 < a) : Calls Try.prog 50 #[.int .i64 (-(a : Int))] w fun e w' => e = .returned (.int .u64 a) ∧ w = w' := by
  have hw : IntKind.u64.wrap (-(a : Int)) = 18446744073709551616 - (a : Int) := by rw [IntKind.wrap_u64]; omega
  have hw2 : IntKind.u64.wrap (-(18446744073709551616 - (a : Int))) = (a : Int) := by rw [IntKind.wrap_u64]; omega
  have h0' : (-(a : Int)) < 0 := by omega
  go_enter Try.func50, Try.ntmps50
  go_wp2
  go_ret
  exact ⟨rfl, rfl⟩

theorem size_abs (a : Int) (w : World) (h1 : -9223372036854775807 ≤ a) (h2 : a ≤ 9223372036854775807) : Calls Try.prog 50 #[.int .i64 a] w fun e w' => e = .returned (.int .u64 (a.natAbs : Nat)) ∧ w = w' := by
  rcases Int.lt_or_le a 0 with h | h
  · obtain ⟨n, rfl⟩ : ∃ n : Nat, a = -(n : Int) := ⟨a.natAbs, by omega⟩
    have := size_neg n w (by omega) (by omega)
    rwa [show (-(n : Int)).natAbs = n by omega]
  · obtain ⟨n, rfl⟩ : ∃ n : Nat, a = (n : Int) := ⟨a.natAbs, by omega⟩
    have := size_any n w (by omega)
    rwa [show ((n : Int)).natAbs = n by omega]

/-- The high and the low half of a product. -/
def hiW (x : Int) : Int := x / 18446744073709551616
def loW (x : Int) : Int := x % 18446744073709551616

theorem abs_mul (a b : Int) (h : (a < 0 ∧ b < 0) ∨ (0 ≤ a ∧ 0 ≤ b)) : a * b = ((a.natAbs * b.natAbs : Nat) : Int) := by
  rcases h with ⟨h1, h2⟩ | ⟨h1, h2⟩
  · obtain ⟨m, hm⟩ : ∃ m : Nat, a = -(m : Int) := ⟨a.natAbs, by omega⟩
    obtain ⟨n, hn⟩ : ∃ n : Nat, b = -(n : Int) := ⟨b.natAbs, by omega⟩
    subst hm hn
    rw [Int.neg_mul_neg, Int.natAbs_neg, Int.natAbs_neg]; simp
  · obtain ⟨m, hm⟩ : ∃ m : Nat, a = (m : Int) := ⟨a.natAbs, by omega⟩
    obtain ⟨n, hn⟩ : ∃ n : Nat, b = (n : Int) := ⟨b.natAbs, by omega⟩
    subst hm hn
    simp
theorem abs_mul_neg (a b : Int) (h : (a < 0 ∧ 0 ≤ b) ∨ (0 ≤ a ∧ b < 0)) : a * b = -((a.natAbs * b.natAbs : Nat) : Int) := by
  rcases h with ⟨h1, h2⟩ | ⟨h1, h2⟩
  · obtain ⟨m, hm⟩ : ∃ m : Nat, a = -(m : Int) := ⟨a.natAbs, by omega⟩
    obtain ⟨n, hn⟩ : ∃ n : Nat, b = (n : Int) := ⟨b.natAbs, by omega⟩
    subst hm hn
    rw [Int.natAbs_neg, Int.neg_mul]; simp
  · obtain ⟨m, hm⟩ : ∃ m : Nat, a = (m : Int) := ⟨a.natAbs, by omega⟩
    obtain ⟨n, hn⟩ : ∃ n : Nat, b = -(n : Int) := ⟨b.natAbs, by omega⟩
    subst hm hn
    rw [Int.natAbs_neg, Int.mul_neg]; simp

theorem abs_bd {A B : Nat} (ha : A ≤ 9223372036854775807) (hb : B ≤ 9223372036854775807) : A * B < 85070591730234615865843651857942052864 := by
  have h1 : A * B ≤ 9223372036854775807 * 9223372036854775807 := Nat.mul_le_mul ha hb
  omega

set_option maxHeartbeats 2000000 in
theorem times_any (a b : Int) (w : World) (ha1 : -9223372036854775807 ≤ a) (ha2 : a ≤ 9223372036854775807) (hb1 : -9223372036854775807 ≤ b) (hb2 : b ≤ 9223372036854775807) :
    Calls Try.prog 45 #[.int .i64 a, .int .i64 b] w fun e w' => e = .returned (.agg #[.int .i64 (hiW (a * b)), .int .u64 (loW (a * b))]) ∧ Below w.heap.size w w' := by
  have s1 := fun w => size_abs a w ha1 ha2
  have s2 := fun w => size_abs b w hb1 hb2
  have hA : a.natAbs ≤ 9223372036854775807 := by omega
  have hB : b.natAbs ≤ 9223372036854775807 := by omega
  have hm := fun w => mul64_any a.natAbs b.natAbs (by omega) (by omega) w
  have hbd := abs_bd hA hB
  by_cases hs : (a < 0 ∧ b < 0) ∨ (0 ≤ a ∧ 0 ≤ b)
  · have he := abs_mul a b hs
    generalize a.natAbs = A at s1 hm hbd he
    generalize b.natAbs = B at s2 hm hbd he
    have hv : Hid (hiW (a * b) = ((A * B / 18446744073709551616 : Nat) : Int) ∧ loW (a * b) = ((A * B % 18446744073709551616 : Nat) : Int)) := Lib.hid (by rw [he]; unfold hiW loW; omega)
    have h1 : A * B / 18446744073709551616 ≤ 9223372036854775807 := by omega
    have hl : A * B % 18446744073709551616 < 18446744073709551616 := by omega
    generalize A * B / 18446744073709551616 = H at h1 hm hv
    generalize A * B % 18446744073709551616 = L at hl hm hv
    generalize hiW (a * b) = HI at hv ⊢
    generalize loW (a * b) = LO at hv ⊢
    clear he hbd
    rcases hs with ⟨h2, h3⟩ | ⟨h2', h3'⟩
    · have hA' := hA
      go_enter Try.func45, Try.ntmps45
      go_wp2_with (first | (go_at_call 50; ((with_reducible refine (s1 _).mono ?_); rintro e w' ⟨rfl, rfl⟩)) | (go_at_call 50; ((with_reducible refine (s2 _).mono ?_); rintro e w' ⟨rfl, rfl⟩)) | (go_at_call 49; ((with_reducible refine (hm _).mono ?_); rintro e w' ⟨rfl, rfl⟩)))
      exact bodyPost_ret (v := .agg #[.int .i64 H, .int .u64 L]) (by simp [results, Try.results45, go_sem]) rfl ⟨by rw [hv.out.1, hv.out.2], by
        first | exact (Below.refl _ _).alloc (Nat.le_refl _) _ | exact ((Below.refl _ _).alloc (Nat.le_refl _) _).setCell (Nat.le_refl _) _ | exact (((Below.refl _ _).alloc (Nat.le_refl _) _).setCell (Nat.le_refl _) _).setCell (Nat.le_refl _) _⟩
    · have h2 : ¬ a < 0 := by omega
      have h3 : ¬ b < 0 := by omega
      go_enter Try.func45, Try.ntmps45
      go_wp2_with (first | (go_at_call 50; ((with_reducible refine (s1 _).mono ?_); rintro e w' ⟨rfl, rfl⟩)) | (go_at_call 50; ((with_reducible refine (s2 _).mono ?_); rintro e w' ⟨rfl, rfl⟩)) | (go_at_call 49; ((with_reducible refine (hm _).mono ?_); rintro e w' ⟨rfl, rfl⟩)))
      exact bodyPost_ret (v := .agg #[.int .i64 H, .int .u64 L]) (by simp [results, Try.results45, go_sem]) rfl ⟨by rw [hv.out.1, hv.out.2], by
        first | exact (Below.refl _ _).alloc (Nat.le_refl _) _ | exact ((Below.refl _ _).alloc (Nat.le_refl _) _).setCell (Nat.le_refl _) _ | exact (((Below.refl _ _).alloc (Nat.le_refl _) _).setCell (Nat.le_refl _) _).setCell (Nat.le_refl _) _⟩
  · have hs' : (a < 0 ∧ 0 ≤ b) ∨ (0 ≤ a ∧ b < 0) := by omega
    have he := abs_mul_neg a b hs'
    generalize a.natAbs = A at s1 hm hbd he
    generalize b.natAbs = B at s2 hm hbd he
    obtain ⟨H, hH⟩ : ∃ H, H = A * B / 18446744073709551616 := ⟨_, rfl⟩
    obtain ⟨L, hL⟩ : ∃ L, L = A * B % 18446744073709551616 := ⟨_, rfl⟩
    rw [← hH, ← hL] at hm
    obtain ⟨br, hbr⟩ : ∃ br : Nat, br = if 0 < L + 0 then 1 else 0 := ⟨_, rfl⟩
    have hbr1 : br ≤ 1 := by rw [hbr]; split <;> omega
    have r1 : ∀ w, (callFunc 51 #[.int .u64 0, .int .u64 (L : Int), .int .u64 0]).run Try.prog w = .ok (.value (.tuple #[.int .u64 (((0 + 18446744073709551616 - L - 0) % 18446744073709551616 : Nat) : Int), .int .u64 ((if 0 < L + 0 then 1 else 0 : Nat) : Int)])) w := fun w => sub64_run 0 L 0 (by omega) w
    rw [← hbr] at r1
    have r2 : ∀ w, (callFunc 51 #[.int .u64 0, .int .u64 (H : Int), .int .u64 (br : Int)]).run Try.prog w = .ok (.value (.tuple #[.int .u64 (((0 + 18446744073709551616 - H - br) % 18446744073709551616 : Nat) : Int), .int .u64 ((if 0 < H + br then 1 else 0 : Nat) : Int)])) w := fun w => sub64_run 0 H br hbr1 w
    have hbz : (L = 0 ∧ br = 0) ∨ (0 < L ∧ br = 1) := by rw [hbr]; split <;> omega
    have hH1 : H ≤ 4611686018427387904 := by omega
    have hL1 : L < 18446744073709551616 := by omega
    have hAB : ((A * B : Nat) : Int) = 18446744073709551616 * (H : Int) + (L : Int) := by omega
    obtain ⟨X, hX⟩ : ∃ X, X = (0 + 18446744073709551616 - H - br) % 18446744073709551616 := ⟨_, rfl⟩
    obtain ⟨Y, hY⟩ : ∃ Y, Y = (0 + 18446744073709551616 - L - 0) % 18446744073709551616 := ⟨_, rfl⟩
    rw [← hX] at r2
    obtain ⟨b2, hb2'⟩ : ∃ b2 : Nat, b2 = if 0 < H + br then 1 else 0 := ⟨_, rfl⟩
    rw [← hb2'] at r2
    clear hb2'
    rw [← hY] at r1
    have hY1 : Y < 18446744073709551616 := by omega
    have hw : Hid (IntKind.i64.wrap (X : Int) = hiW (a * b)) := Lib.hid (by
      rw [he, hAB, IntKind.wrap_i64]; unfold hiW
      rcases hbz with ⟨e1, e2⟩ | ⟨e1, e2⟩
      · subst e2
        omega
      · subst e2
        omega)
    have hv : Hid ((Y : Int) = loW (a * b)) := Lib.hid (by
      rw [he, hAB]; unfold loW
      omega)
    generalize hiW (a * b) = HI at hw ⊢
    generalize loW (a * b) = LO at hv ⊢
    have R1 := Lib.hid r1
    have R2 := Lib.hid r2
    have hX1 : X < 18446744073709551616 := by omega
    clear he hbd hAB hH hL hbr hbz hX hY r1 r2
    rcases hs' with ⟨h2, h3'⟩ | ⟨h2', h3⟩
    · have h3 : ¬ b < 0 := by omega
      have r1 := R1.out
      have r2 := R2.out
      have hw' := hw.out
      go_enter Try.func45, Try.ntmps45
      go_wp2_with (first | (go_at_call 50; ((with_reducible refine (s1 _).mono ?_); rintro e w' ⟨rfl, rfl⟩)) | (go_at_call 50; ((with_reducible refine (s2 _).mono ?_); rintro e w' ⟨rfl, rfl⟩)) | (go_at_call 49; ((with_reducible refine (hm _).mono ?_); rintro e w' ⟨rfl, rfl⟩)))
      exact bodyPost_ret (v := .agg #[.int .i64 HI, .int .u64 Y]) (by simp [results, Try.results45, go_sem]) rfl ⟨by rw [hv.out], by
        first | exact (Below.refl _ _).alloc (Nat.le_refl _) _ | exact ((Below.refl _ _).alloc (Nat.le_refl _) _).setCell (Nat.le_refl _) _ | exact (((Below.refl _ _).alloc (Nat.le_refl _) _).setCell (Nat.le_refl _) _).setCell (Nat.le_refl _) _⟩
    · have h2 : ¬ a < 0 := by omega
      have r1 := R1.out
      have r2 := R2.out
      have hw' := hw.out
      go_enter Try.func45, Try.ntmps45
      go_wp2_with (first | (go_at_call 50; ((with_reducible refine (s1 _).mono ?_); rintro e w' ⟨rfl, rfl⟩)) | (go_at_call 50; ((with_reducible refine (s2 _).mono ?_); rintro e w' ⟨rfl, rfl⟩)) | (go_at_call 49; ((with_reducible refine (hm _).mono ?_); rintro e w' ⟨rfl, rfl⟩)))
      exact bodyPost_ret (v := .agg #[.int .i64 HI, .int .u64 Y]) (by simp [results, Try.results45, go_sem]) rfl ⟨by rw [hv.out], by
        first | exact (Below.refl _ _).alloc (Nat.le_refl _) _ | exact ((Below.refl _ _).alloc (Nat.le_refl _) _).setCell (Nat.le_refl _) _ | exact (((Below.refl _ _).alloc (Nat.le_refl _) _).setCell (Nat.le_refl _) _).setCell (Nat.le_refl _) _⟩

theorem sgn_wideZ (x y : Int) : (if sgn (hiW x) (hiW y) ≠ 0 then sgn (hiW x) (hiW y) else sgn (loW x) (loW y)) = sgn x y := by
  unfold sgn hiW loW
  by_cases h1 : x / 18446744073709551616 < y / 18446744073709551616
  · rw [if_pos h1, if_pos (by omega : x < y)]; rfl
  · by_cases h2 : y / 18446744073709551616 < x / 18446744073709551616
    · rw [if_neg h1, if_pos h2, if_neg (by omega : ¬ x < y), if_pos (by omega : y < x)]; rfl
    · rw [if_neg h1, if_neg h2, if_neg (by simp)]
      by_cases h4 : x < y
      · rw [if_pos (by omega), if_pos h4]
      · by_cases h5 : y < x
        · rw [if_neg (by omega), if_pos (by omega), if_neg h4, if_pos h5]
        · rw [if_neg (by omega), if_neg (by omega), if_neg h4, if_neg h5]
end Go.Proofs.Ytikgkgfcnciomaa

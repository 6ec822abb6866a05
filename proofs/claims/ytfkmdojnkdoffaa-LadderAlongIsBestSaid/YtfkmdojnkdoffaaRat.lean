/- divisor, product, rateOf: what they return. -/
import Derived.Test.YtfkmdojnkdoffaaOut5
import Derived.Lib.Mul64
import Derived.Laws.Bits64b
namespace Go.Proofs.Ytfkmdojnkdoffaa
open Go.RowKit

theorem maskN (a : Nat) (ha : a < 18446744073709551616) : bits .and .u64 (a : Int) 4294967295 = ((a % 4294967296 : Nat) : Int) := by
  have h := bits_and_u64_nat a 4294967295 ha (by omega)
  have e : a &&& 4294967295 = a % 4294967296 := Nat.and_two_pow_sub_one_eq_mod a 32
  rw [e] at h
  exact h
theorem divN (a : Nat) : (a : Int) / 4294967296 = ((a / 4294967296 : Nat) : Int) := by omega
theorem mulN (a b : Nat) : (a : Int) * (b : Int) = ((a * b : Nat) : Int) := (Int.natCast_mul a b).symm
theorem addN (a b : Nat) : (a : Int) + (b : Int) = ((a + b : Nat) : Int) := (Int.natCast_add a b).symm
theorem wrapN (a : Nat) (ha : a < 18446744073709551616) : IntKind.u64.wrap (a : Int) = (a : Int) := by rw [IntKind.wrap_u64]; omega
theorem wrapM (a : Nat) : IntKind.u64.wrap (a : Int) = ((a % 18446744073709551616 : Nat) : Int) := by rw [IntKind.wrap_u64]; omega

set_option maxHeartbeats 1000000 in
theorem mul64_any (x y : Nat) (hx : x < 18446744073709551616) (hy : y < 18446744073709551616) (w : World) :
    Calls Try.prog 72 #[.int .u64 x, .int .u64 y] w fun e w' => e = .returned (.tuple #[.int .u64 ((x * y / 18446744073709551616 : Nat) : Int), .int .u64 ((x * y % 18446744073709551616 : Nat) : Int)]) ∧ w = w' := by
  obtain ⟨bd, bt, bw, hhi⟩ := Lib.mul64_hi x y hx hy
  have ba := Lib.half_mul_le (a := x / 4294967296) (b := y / 4294967296) (by omega) (by omega)
  have bb := Lib.half_mul_le (a := x / 4294967296) (b := y % 4294967296) (by omega) (by omega)
  have bc := Lib.half_mul_le (a := x % 4294967296) (b := y / 4294967296) (by omega) (by omega)
  have ba' : x / 4294967296 * (y / 4294967296) < 18446744073709551616 := by omega
  have bb' : x / 4294967296 * (y % 4294967296) < 18446744073709551616 := by omega
  have bc' : x % 4294967296 * (y / 4294967296) < 18446744073709551616 := by omega
  have bh1 : x / 4294967296 * (y / 4294967296) + (x / 4294967296 * (y % 4294967296) + x % 4294967296 * (y % 4294967296) / 4294967296) / 4294967296 < 18446744073709551616 := by omega
  have bh : x / 4294967296 * (y / 4294967296) + (x / 4294967296 * (y % 4294967296) + x % 4294967296 * (y % 4294967296) / 4294967296) / 4294967296 + ((x / 4294967296 * (y % 4294967296) + x % 4294967296 * (y % 4294967296) / 4294967296) % 4294967296 + x % 4294967296 * (y / 4294967296)) / 4294967296 < 18446744073709551616 := by omega
  go_enter Try.func72, Try.ntmps72
  go_wp2
  simp only [maskN x hx, maskN y hy, divN, mulN, addN, wrapN _ bd, wrapN _ bb', wrapN _ bt, maskN _ bt, wrapN _ bc', wrapN _ bw, wrapN _ ba', wrapN _ bh1, wrapN _ bh, wrapM (x * y)]
  rw [hhi]
  go_ret2
  exact ⟨rfl, rfl⟩

theorem gcd_step (x y : Nat) : Nat.gcd y (x % y) = Nat.gcd x y := by rw [Nat.gcd_comm, ← Nat.gcd_rec, Nat.gcd_comm]

theorem tmod_nat (x y : Nat) : (x : Int).tmod (y : Int) = ((x % y : Nat) : Int) := by rw [Int.tmod_eq_emod_of_nonneg (by omega)]; exact (Int.natCast_emod x y).symm

theorem divisor_any (a b : Int) (w : World) (ha : 0 ≤ a) (hb : 0 ≤ b) (ha1 : a ≤ 9223372036854775807) (hb1 : b ≤ 9223372036854775807) :
    Calls Try.prog 58 #[.int .i64 a, .int .i64 b] w fun e w' => e = .returned (.int .i64 (Nat.gcd a.toNat b.toNat : Nat)) ∧ Below w.heap.size w w' := by
  obtain ⟨x0, rfl⟩ : ∃ n : Nat, a = n := ⟨a.toNat, by omega⟩
  obtain ⟨y0, rfl⟩ : ∃ n : Nat, b = n := ⟨b.toNat, by omega⟩
  simp only [Int.toNat_natCast]
  obtain ⟨G, hG⟩ : ∃ G, G = Nat.gcd x0 y0 := ⟨_, rfl⟩
  have HG := Lib.hid hG
  rw [← hG]
  clear hG
  go_enter Try.func58, Try.ntmps58
  go_wp2
  go_loopw [0, 1] (fun s0 s1 wr => ∃ x y : Nat, x ≤ 9223372036854775807 ∧ y ≤ 9223372036854775807 ∧ s0 = .int .i64 x ∧ s1 = .int .i64 y ∧ Aside (G = Nat.gcd x y) ∧ Aside (Below w.heap.size w wr)) (fun _ s1 _ => (intOf s1).toNat)
  case atStart => exact ⟨x0, y0, by omega, by omega, rfl, rfl, HG.out, Below.refl _ _⟩
  case round =>
    obtain ⟨x, y, hx, hy, rfl, rfl, A, BW⟩ := hrel
    by_cases hy0 : y = 0
    · have hv : Hid (x = G) := Lib.hid (by rw [A.out, hy0, Nat.gcd_zero_right])
      have e1 : ((y : Int) != 0) = false := by simp [hy0]
      clear hy0
      go_wp2
      go_ret
      exact ⟨ret_int (by rw [hv.out]), BW.out⟩
    · have e1 : ((y : Int) != 0) = true := by simp [hy0]
      have e2 : ((y : Int) == 0) = false := by simp [hy0]
      have e3 : ¬ (y : Int) = 0 := by omega
      have e4 : (0 : Int) < (y : Int) := by omega
      have hlt : x % y < y := Nat.mod_lt _ (by omega)
      have hm := tmod_nat x y
      have hq : Hid (G = Nat.gcd y (x % y)) := Lib.hid (by rw [gcd_step]; exact A.out)
      have hmm : (x : Int) % (y : Int) = ((x % y : Nat) : Int) := (Int.natCast_emod x y).symm
      have HM := Lib.hid hmm
      clear hy0 hmm
      go_wp2
      go_quiet (fail)
      go_wp2
      go_roundw
      case rel => exact ⟨y, x % y, by omega, by omega, rfl, by first | rfl | (rw [HM.out]) | simp, hq.out, below_drewN BW.out _⟩
      case measure => simp [intOf]; omega

/-- A product, and whether it is an int. -/
def ProdP (w : World) (a b : Nat) : Ending → World → Prop := fun e w' => ∃ z : Int, e = .returned (.tuple #[.int .i64 z, .bool (decide (a * b < 9223372036854775808))]) ∧ (a * b < 9223372036854775808 → z = (a * b : Nat)) ∧ w = w'
theorem ProdP.mk {w : World} {a b : Nat} {z : Int} {t : Bool} (ht : t = decide (a * b < 9223372036854775808)) (hz : a * b < 9223372036854775808 → z = (a * b : Nat)) : ProdP w a b (.returned (.tuple #[.int .i64 z, .bool t])) w := ⟨z, by rw [ht], hz, rfl⟩

theorem product_any (a b : Nat) (w : World) (ha : a ≤ 9223372036854775807) (hb : b ≤ 9223372036854775807) :
    Calls Try.prog 59 #[.int .i64 a, .int .i64 b] w (ProdP w a b) := by
  have hm := mul64_any a b (by omega) (by omega) w
  obtain ⟨H, hH⟩ : ∃ H, H = a * b / 18446744073709551616 := ⟨_, rfl⟩
  obtain ⟨M, hM⟩ : ∃ M, M = a * b % 18446744073709551616 := ⟨_, rfl⟩
  rw [← hH, ← hM] at hm
  have hM1 : M < 18446744073709551616 := by omega
  have HH := Lib.hid hH
  have HM := Lib.hid hM
  clear hH hM
  have hwa : IntKind.u64.wrap (a : Int) = (a : Int) := wrapN a (by omega)
  have hwb : IntKind.u64.wrap (b : Int) = (b : Int) := wrapN b (by omega)
  by_cases h0 : H = 0
  · have e1 : ((H : Int) == 0) = true := by simp [h0]
    by_cases h1 : M < 9223372036854775808
    · have hv : Hid (a * b = M ∧ a * b < 9223372036854775808) := Lib.hid (by have := HH.out; have := HM.out; omega)
      have h1' : (M : Int) < 9223372036854775808 := by omega
      clear h0
      go_enter Try.func59, Try.ntmps59
      go_wp2_with (go_at_call 72; refine hm.mono ?_; rintro e w' ⟨rfl, rfl⟩)
      go_ret2
      exact ProdP.mk (by rw [decide_eq_true hv.out.2]) (fun _ => by rw [hv.out.1])
    · have hv : Hid (¬ a * b < 9223372036854775808) := Lib.hid (by have := HH.out; have := HM.out; omega)
      have h1' : ¬ (M : Int) < 9223372036854775808 := by omega
      clear h0
      go_enter Try.func59, Try.ntmps59
      go_wp2_with (go_at_call 72; refine hm.mono ?_; rintro e w' ⟨rfl, rfl⟩)
      go_ret2
      exact ProdP.mk (by rw [decide_eq_false hv.out]; exact decide_eq_false (Int.not_lt.2 h1')) (fun h => absurd h hv.out)
  · have e1 : ((H : Int) == 0) = false := by simp [h0]
    have hv : Hid (¬ a * b < 9223372036854775808) := Lib.hid (by have := HH.out; have := HM.out; omega)
    clear h0
    go_enter Try.func59, Try.ntmps59
    go_wp2_with (go_at_call 72; refine hm.mono ?_; rintro e w' ⟨rfl, rfl⟩)
    go_ret2
    exact ProdP.mk (by rw [decide_eq_false hv.out]) (fun h => absurd h hv.out)
end Go.Proofs.Ytfkmdojnkdoffaa

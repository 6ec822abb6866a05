/- Plain laws of the check sum. -/
import Derived.Test.YtkcnnfgdplccoaaSum
namespace Go.Proofs.Ytkcnnfgdplccoaa
open Go.RowKit

theorem xor_top (n : Nat) : n ^^^ (n / 16777216 * 16777216) = n % 16777216 := by
  have h1 : (n ^^^ (n / 16777216 * 16777216)) / 2 ^ 24 = n / 2 ^ 24 ^^^ (n / 16777216 * 16777216) / 2 ^ 24 := Nat.xor_div_two_pow
  have h2 : (n ^^^ (n / 16777216 * 16777216)) % 2 ^ 24 = n % 2 ^ 24 ^^^ (n / 16777216 * 16777216) % 2 ^ 24 := Nat.xor_mod_two_pow
  have e1 : (n / 16777216 * 16777216) / 2 ^ 24 = n / 2 ^ 24 := by
    rw [show (2 : Nat) ^ 24 = 16777216 from rfl]; omega
  have e2 : (n / 16777216 * 16777216) % 2 ^ 24 = 0 := by
    rw [show (2 : Nat) ^ 24 = 16777216 from rfl]; omega
  rw [e1, Nat.xor_self] at h1
  rw [e2, Nat.xor_zero] at h2
  rw [show (2 : Nat) ^ 24 = 16777216 from rfl] at h1 h2
  omega

theorem bitStep_small {n : Nat} (h : n < 2147483648) : bitStep n = n * 2 := by
  unfold bitStep
  rw [if_neg (by omega)]
  omega

theorem iter_small {n : Nat} (h : n < 16777216) : iterN bitStep 8 n = n * 256 := by
  simp only [iterN]
  rw [bitStep_small (n := n) (by omega), bitStep_small (n := n * 2) (by omega), bitStep_small (n := n * 2 * 2) (by omega), bitStep_small (n := n * 2 * 2 * 2) (by omega),
    bitStep_small (n := n * 2 * 2 * 2 * 2) (by omega), bitStep_small (n := n * 2 * 2 * 2 * 2 * 2) (by omega), bitStep_small (n := n * 2 * 2 * 2 * 2 * 2 * 2) (by omega), bitStep_small (n := n * 2 * 2 * 2 * 2 * 2 * 2 * 2) (by omega)]
  omega

theorem byteStep_top (n : Nat) : byteStep n (n / 16777216) = n % 16777216 * 256 := by
  unfold byteStep
  rw [xor_top]
  exact iter_small (by omega)

/-- The four bytes of a sum, the highest first. -/
def sumBytes (n : Nat) : List UInt8 := [UInt8.ofNat (n / 16777216), UInt8.ofNat (n / 65536), UInt8.ofNat (n / 256), UInt8.ofNat n]

theorem crcOf_sumBytes {n : Nat} (h : n < 4294967296) : crcOf n (sumBytes n) = 0 := by
  simp only [crcOf, sumBytes, List.foldl_cons, List.foldl_nil, UInt8.toNat_ofNat']
  have a1 : n / 16777216 % 2 ^ 8 = n / 16777216 := by omega
  rw [a1, byteStep_top]
  have a2 : n / 65536 % 2 ^ 8 = (n % 16777216 * 256) / 16777216 := by omega
  rw [a2, byteStep_top]
  have a3 : n / 256 % 2 ^ 8 = (n % 16777216 * 256 % 16777216 * 256) / 16777216 := by omega
  rw [a3, byteStep_top]
  have a4 : n % 2 ^ 8 = (n % 16777216 * 256 % 16777216 * 256 % 16777216 * 256) / 16777216 := by omega
  rw [a4, byteStep_top]
  omega

theorem crc_lt (l : List UInt8) : crc l < 4294967296 := crcOf_lt l (by omega)

/-- Bytes with their sum behind them have the sum 0. -/
theorem crc_sum (l : List UInt8) : crc (l ++ sumBytes (crc l)) = 0 := by
  unfold crc
  rw [crcOf_append]
  exact crcOf_sumBytes (crcOf_lt l (by omega))
end Go.Proofs.Ytkcnnfgdplccoaa

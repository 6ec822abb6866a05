/- The step of the sum is injective: bytes that differ at one place have different sums. -/
import Derived.Test.YtkcnnfgdplccoaaCrc
namespace Go.Proofs.Ytkcnnfgdplccoaa
open Go.RowKit

theorem xor_par (a : Nat) : (a ^^^ 79764919) % 2 ≠ a % 2 := by
  have h : (a ^^^ 79764919) % 2 = (a % 2) ^^^ 1 := by
    have := Nat.xor_mod_two_pow (a := a) (b := 79764919) (n := 1)
    simpa using this
  rw [h]
  have : a % 2 = 0 ∨ a % 2 = 1 := by omega
  rcases this with e | e <;> rw [e] <;> decide
theorem bitStep_inj {a b : Nat} (ha : a < 4294967296) (hb : b < 4294967296) (h : bitStep a = bitStep b) : a = b := by
  unfold bitStep at h
  split at h <;> split at h
  · have := congrArg (· ^^^ 79764919) h
    simp only [Nat.xor_assoc, Nat.xor_self, Nat.xor_zero] at this
    omega
  · exfalso
    have h1 := xor_par (a * 2 % 4294967296)
    rw [h] at h1
    omega
  · exfalso
    have h1 := xor_par (b * 2 % 4294967296)
    rw [← h] at h1
    omega
  · omega
theorem iterN_inj : ∀ (k : Nat) {a b : Nat}, a < 4294967296 → b < 4294967296 → iterN bitStep k a = iterN bitStep k b → a = b
  | 0, _, _, _, _, h => h
  | k + 1, _, _, ha, hb, h => iterN_inj k ha hb (bitStep_inj (iterN_lt ha k) (iterN_lt hb k) h)
theorem byteStep_injL {n m c : Nat} (hn : n < 4294967296) (hm : m < 4294967296) (hc : c < 256) (h : byteStep n c = byteStep m c) : n = m := by
  have h1 := iterN_inj 8 (xor_lt32 hn (by omega)) (xor_lt32 hm (by omega)) h
  have := congrArg (· ^^^ (c * 16777216)) h1
  simpa only [Nat.xor_assoc, Nat.xor_self, Nat.xor_zero] using this
theorem byteStep_injR {n c d : Nat} (hn : n < 4294967296) (hc : c < 256) (hd : d < 256) (h : byteStep n c = byteStep n d) : c = d := by
  have h1 := iterN_inj 8 (xor_lt32 hn (by omega)) (xor_lt32 hn (by omega)) h
  have := congrArg (n ^^^ ·) h1
  simp only [← Nat.xor_assoc, Nat.xor_self, Nat.zero_xor] at this
  omega
theorem u8_lt (c : UInt8) : c.toNat < 256 := c.toNat_lt
theorem crcOf_inj : ∀ (l : List UInt8) {n m : Nat}, n < 4294967296 → m < 4294967296 → crcOf n l = crcOf m l → n = m
  | [], _, _, _, _, h => h
  | c :: r, _, _, hn, hm, h => byteStep_injL hn hm (u8_lt c) (crcOf_inj r (byteStep_lt _ _) (byteStep_lt _ _) h)
theorem crc_set {l : List UInt8} {i : Nat} {x y : UInt8} (hx : l[i]? = some x) (h : crc (l.set i y) = crc l) : y = x := by
  obtain ⟨hi, rfl⟩ := List.getElem?_eq_some_iff.1 hx
  have e1 : l = l.take i ++ l[i] :: l.drop (i + 1) := by rw [List.getElem_cons_drop, List.take_append_drop]
  have e2 : l.set i y = l.take i ++ y :: l.drop (i + 1) := by
    rw [List.set_eq_take_append_cons_drop, if_pos hi]
  generalize hL : l[i] = x at *
  unfold crc at h
  rw [e2] at h
  rw [e1] at h
  rw [List.take_append_of_le_length (by simp; omega), List.take_take, Nat.min_self] at h
  have e3 : (l.take i ++ x :: l.drop (i + 1)).drop (i + 1) = l.drop (i + 1) := by rw [← e1]
  rw [e3, crcOf_append, crcOf_append] at h
  have hlt : crcOf 4294967295 (l.take i) < 4294967296 := crcOf_lt _ (by omega)
  generalize crcOf 4294967295 (l.take i) = n at *
  have := crcOf_inj (l.drop (i + 1)) (n := byteStep n y.toNat) (m := byteStep n x.toNat) (byteStep_lt _ _) (byteStep_lt _ _) h
  exact UInt8.toNat_inj.1 (byteStep_injR hlt (u8_lt y) (u8_lt x) this)
end Go.Proofs.Ytkcnnfgdplccoaa

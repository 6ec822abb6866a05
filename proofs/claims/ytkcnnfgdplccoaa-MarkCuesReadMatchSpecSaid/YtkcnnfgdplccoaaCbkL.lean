/- What is written is read, and what is read was written; plain. -/
import Derived.Test.YtkcnnfgdplccoaaROpn
import Derived.Test.YtkcnnfgdplccoaaCrcI
import Derived.Test.YtkcnnfgdplccoaaRPad
namespace Go.Proofs.Ytkcnnfgdplccoaa
open Go.RowKit
set_option linter.unusedSimpArgs false

/-! The last four bytes. -/
theorem xor_back {m d z : Nat} (hz : z < 16777216) (h : m ^^^ (d * 16777216) = z) : m = d * 16777216 + z := by
  have h1 : (m ^^^ (d * 16777216)) / 2 ^ 24 = z / 2 ^ 24 := by rw [h]
  have h2 : (m ^^^ (d * 16777216)) % 2 ^ 24 = z % 2 ^ 24 := by rw [h]
  rw [Nat.xor_div_two_pow] at h1
  rw [Nat.xor_mod_two_pow] at h2
  have e1 : d * 16777216 / 2 ^ 24 = d := by omega
  have e2 : d * 16777216 % 2 ^ 24 = 0 := by omega
  have e3 : z / 2 ^ 24 = 0 := by omega
  have e4 : z % 2 ^ 24 = z := by omega
  rw [e1, e3] at h1
  rw [e2, e4, Nat.xor_zero] at h2
  have h3 := congrArg (· ^^^ d) h1
  simp only [Nat.xor_assoc, Nat.xor_self, Nat.xor_zero, Nat.zero_xor] at h3
  omega
theorem step_back {m d z : Nat} (hm : m < 4294967296) (hd : d < 256) (hz : z < 16777216) (h : byteStep m d = z * 256) : m = d * 16777216 + z := by
  unfold byteStep at h
  rw [← iter_small hz] at h
  exact xor_back hz (iterN_inj 8 (xor_lt32 hm (by omega)) (by omega) h)
theorem last4 {n : Nat} (hn : n < 4294967296) (a b c d : UInt8) (h : crcOf n [a, b, c, d] = 0) : [a, b, c, d] = sumBytes n := by
  have ha := a.toNat_lt
  have hb := b.toNat_lt
  have hc := c.toNat_lt
  have hd := d.toNat_lt
  simp only [crcOf, List.foldl_cons, List.foldl_nil] at h
  have h3 := step_back (z := 0) (byteStep_lt _ _) hd (by omega) (by simpa using h)
  have h2 := step_back (z := d.toNat * 65536) (byteStep_lt _ _) hc (by omega) (by rw [h3]; omega)
  have h1 := step_back (z := c.toNat * 65536 + d.toNat * 256) (byteStep_lt _ _) hb (by omega) (by rw [h2]; omega)
  have h0 := step_back (z := b.toNat * 65536 + c.toNat * 256 + d.toNat) hn ha (by omega) (by rw [h1]; omega)
  have e (x : UInt8) (y : Nat) (h : y % 256 = x.toNat) : x = UInt8.ofNat y := by
    rw [← UInt8.toNat_inj, UInt8.toNat_ofNat']
    omega
  unfold sumBytes
  rw [← e a (n / 16777216) (by omega), ← e b (n / 65536) (by omega), ← e c (n / 256) (by omega), ← e d n (by omega)]

/-! Bits and bytes. -/
theorem bitsN_inj : ∀ {k a b : Nat}, a < 2 ^ k → b < 2 ^ k → bitsN a k = bitsN b k → a = b := by
  intro k a b ha hb h
  apply Nat.eq_of_testBit_eq
  intro i
  by_cases hi : i < k
  · have h1 := bitsN_at a k (k - 1 - i) (by omega)
    have h2 := bitsN_at b k (k - 1 - i) (by omega)
    rw [h, h2] at h1
    simp only [Option.some.injEq] at h1
    rw [show k - 1 - (k - 1 - i) = i by omega] at h1
    exact h1.symm
  · rw [Nat.testBit_lt_two_pow (Nat.lt_of_lt_of_le ha (Nat.pow_le_pow_right (by omega) (by omega))), Nat.testBit_lt_two_pow (Nat.lt_of_lt_of_le hb (Nat.pow_le_pow_right (by omega) (by omega)))]
theorem openL_inj : ∀ {l m : List UInt8}, openL l = openL m → l = m
  | [], [], _ => rfl
  | [], b :: s, h => by have := congrArg List.length h; rw [openL_len, openL_len] at this; simp at this
  | a :: r, [], h => by have := congrArg List.length h; rw [openL_len, openL_len] at this; simp at this
  | a :: r, b :: s, h => by
    have e1 : openL (a :: r) = bitsN a.toNat 8 ++ openL r := rfl
    have e2 : openL (b :: s) = bitsN b.toNat 8 ++ openL s := rfl
    rw [e1, e2] at h
    obtain ⟨h1, h2⟩ := List.append_inj h (by rw [bitsN_len, bitsN_len])
    rw [openL_inj h2, UInt8.toNat_inj.1 (bitsN_inj (k := 8) a.toNat_lt b.toNat_lt h1)]
theorem openL_append (l m : List UInt8) : openL (l ++ m) = openL l ++ openL m := by unfold openL; rw [List.flatMap_append]
theorem byD_bit (d : Bool) (L : List Bool) (q r : Nat) (hr : r < 8) : (byD d L q).testBit (7 - r) = L.getD (8 * q + r) d := by
  have hb (t : Bool) : b01 t = 1 ↔ t = true := by cases t <;> simp [b01]
  have h0 := b01_lt (L.getD (8 * q) d)
  have h1 := b01_lt (L.getD (8 * q + 1) d)
  have h2 := b01_lt (L.getD (8 * q + 2) d)
  have h3 := b01_lt (L.getD (8 * q + 3) d)
  have h4 := b01_lt (L.getD (8 * q + 4) d)
  have h5 := b01_lt (L.getD (8 * q + 5) d)
  have h6 := b01_lt (L.getD (8 * q + 6) d)
  have h7 := b01_lt (L.getD (8 * q + 7) d)
  have hR : r = 0 ∨ r = 1 ∨ r = 2 ∨ r = 3 ∨ r = 4 ∨ r = 5 ∨ r = 6 ∨ r = 7 := by omega
  rw [Nat.testBit_eq_decide_div_mod_eq, Bool.eq_iff_iff, decide_eq_true_eq]
  unfold byD
  rcases hR with rfl | rfl | rfl | rfl | rfl | rfl | rfl | rfl
  · rw [← hb (L.getD (8 * q + 0) d)]; simp only [Nat.add_zero, Nat.sub_zero, Nat.reducePow]; omega
  · rw [← hb (L.getD (8 * q + 1) d)]; simp only [Nat.reduceSub, Nat.reducePow]; omega
  · rw [← hb (L.getD (8 * q + 2) d)]; simp only [Nat.reduceSub, Nat.reducePow]; omega
  · rw [← hb (L.getD (8 * q + 3) d)]; simp only [Nat.reduceSub, Nat.reducePow]; omega
  · rw [← hb (L.getD (8 * q + 4) d)]; simp only [Nat.reduceSub, Nat.reducePow]; omega
  · rw [← hb (L.getD (8 * q + 5) d)]; simp only [Nat.reduceSub, Nat.reducePow]; omega
  · rw [← hb (L.getD (8 * q + 6) d)]; simp only [Nat.reduceSub, Nat.reducePow]; omega
  · rw [← hb (L.getD (8 * q + 7) d)]; simp only [Nat.reduceSub, Nat.reducePow]; omega
theorem openL_pk {d : Bool} {L : List Bool} (h : L.length % 8 = 0) : openL (pkD d L) = L := by
  apply List.ext_getElem?
  intro i
  have hl : (openL (pkD d L)).length = L.length := by rw [openL_len, pkD_len]; omega
  by_cases hi : i < L.length
  · rw [openL_get _ _ (by rw [pkD_len]; omega)]
    unfold bitAt
    have hg : (pkD d L)[i / 8]? = _ := pkD_get (d := d) (L := L) (i := i / 8) (by omega)
    rw [List.getD_eq_getElem?_getD, hg, Option.getD_some, UInt8.toNat_ofNat', Nat.mod_eq_of_lt (byD_lt _ _ _), byD_bit _ _ _ _ (by omega), show 8 * (i / 8) + i % 8 = i by omega, List.getD_eq_getElem?_getD, List.getElem?_eq_getElem hi]
    rfl
  · rw [List.getElem?_eq_none (by omega), List.getElem?_eq_none (by omega)]
theorem numB_bit (l : List UInt8) (a : Nat) : ∀ k i, i < k → (numB l a k).testBit (k - 1 - i) = bitAt l (a + i)
  | 0, i, h => absurd h (Nat.not_lt_zero _)
  | k + 1, i, h => by
    have hb := b01_lt (bitAt l (a + k))
    have h0 : (b01 (bitAt l (a + k)) = 1) ↔ bitAt l (a + k) = true := by cases bitAt l (a + k) <;> simp [b01]
    rw [numB]
    by_cases hi : i = k
    · subst hi
      rw [show i + 1 - 1 - i = 0 by omega, Nat.testBit_zero, Bool.eq_iff_iff, decide_eq_true_eq, ← h0]
      omega
    · rw [show k + 1 - 1 - i = (k - 1 - i) + 1 by omega, Nat.testBit_succ, ← numB_bit l a k i (by omega)]
      congr 1
      omega
theorem seg (l : List UInt8) (a k : Nat) (h : a + k ≤ 8 * l.length) : ((openL l).drop a).take k = bitsN (numB l a k) k := by
  have hl := openL_len l
  apply List.ext_getElem?
  intro i
  by_cases hi : i < k
  · rw [List.getElem?_take_of_lt hi, List.getElem?_drop, openL_get l (a + i) (by omega), bitsN_at _ _ _ hi, numB_bit l a k i hi]
  · rw [List.getElem?_eq_none (by simp; omega), List.getElem?_eq_none (by rw [bitsN_len]; omega)]
theorem take_seg (l : List UInt8) (a k : Nat) (h : a + k ≤ 8 * l.length) : (openL l).take (a + k) = (openL l).take a ++ bitsN (numB l a k) k := by rw [List.take_add, seg l a k h]
theorem take_one (l : List UInt8) (a : Nat) (h : a + 1 ≤ 8 * l.length) : (openL l).take (a + 1) = (openL l).take a ++ [bitAt l a] := by
  rw [take_next (openL_get l a (by omega))]
theorem take_fill (l : List UInt8) : ∀ (m a : Nat), a + m ≤ 8 * l.length → badAt l a m = none → (openL l).take (a + m) = (openL l).take a ++ List.replicate m true
  | 0, a, _, _ => by simp
  | m + 1, a, h, hb => by
    unfold badAt at hb
    split at hb
    · rename_i ht
      have := take_fill l m (a + 1) (by omega) hb
      rw [show a + (m + 1) = a + 1 + m by omega, this, take_one l a (by omega), ht, List.append_assoc]
      rfl
    · simp at hb
theorem numB_mid {l : List UInt8} {A B : List Bool} {a k x : Nat} (h : openL l = A ++ (bitsN x k ++ B)) (ha : A.length = a) (hx : x < 2 ^ k) : numB l a k = x := by
  have hl := openL_len l
  have hs := seg l a k (by rw [← hl, h]; simp [bitsN_len]; omega)
  rw [h, ← ha, List.drop_left, List.take_left' (bitsN_len x k)] at hs
  exact (bitsN_inj hx (numB_lt l a k) (by first | exact hs | (rw [ha] at hs; exact hs))).symm
theorem bit_mid {l : List UInt8} {A B : List Bool} {a : Nat} {t : Bool} (h : openL l = A ++ ([t] ++ B)) (ha : A.length = a) : bitAt l a = t := by
  have hl := openL_len l
  have hg := openL_get l a (by rw [← hl, h]; simp; omega)
  rw [h, ← ha, List.getElem?_append_right (Nat.le_refl _), Nat.sub_self] at hg
  rw [← ha]
  simpa using hg.symm
theorem fill_mid {l : List UInt8} : ∀ {m : Nat} {A B : List Bool} {a : Nat}, openL l = A ++ (List.replicate m true ++ B) → A.length = a → badAt l a m = none
  | 0, _, _, _, _, _ => rfl
  | m + 1, A, B, a, h, ha => by
    have h1 : openL l = A ++ ([true] ++ (List.replicate m true ++ B)) := by rw [h]; rfl
    have h2 := fill_mid (m := m) (A := A ++ [true]) (B := B) (a := a + 1) (by rw [h1]; simp) (by simp; omega)
    unfold badAt
    rw [if_pos (bit_mid h1 ha), h2]
end Go.Proofs.Ytkcnnfgdplccoaa

/- What is written is read, and what is read was written; plain. -/
import Derived.Test.YtpdeodoidlcdoaaG31
namespace Go.Proofs.Ytpdeodoidlcdoaa
open Go.RowKit
set_option linter.unusedSimpArgs false

/-! The last four bytes. -/
theorem xor_back {m d z : Nat} (hz : z < 16777216) (h : m ^^^ (d * 16777216) = z) : m = d * 16777216 + z := by
  have h1 : (m ^^^ (d * 16777216)) / 2 ^ 24 = z / 2 ^ 24 := by rw [h]
  have h2 : (m ^^^ (d * 16777216)) % 2 ^ 24 = z % 2 ^ 24 := by rw [h]
  rw [Nat.xor_div_two_pow] at h1
  rw [Nat.xor_mod_two_pow] at h2
  have e1 : d * 16777216 / 2 ^ 24 = d := by omega
  have e2 : d * 16777216 % 2 ^ 24 = 0 := by omega
  have e3 : z / 2 ^ 24 = 0 := by omega
  have e4 : z % 2 ^ 24 = z := by omega
  rw [e1, e3] at h1
  rw [e2, e4, Nat.xor_zero] at h2
  have h3 := congrArg (· ^^^ d) h1
  simp only [Nat.xor_assoc, Nat.xor_self, Nat.xor_zero, Nat.zero_xor] at h3
  omega
theorem step_back {m d z : Nat} (hm : m < 4294967296) (hd : d < 256) (hz : z < 16777216) (h : byteStep m d = z * 256) : m = d * 16777216 + z := by
  unfold byteStep at h
  rw [← iter_small hz] at h
  exact xor_back hz (iterN_inj 8 (xor_lt32 hm (by omega)) (by omega) h)
theorem last4 {n : Nat} (hn : n < 4294967296) (a b c d : UInt8) (h : crcOf n [a, b, c, d] = 0) : [a, b, c, d] = sumBytes n := by
  have ha := a.toNat_lt
  have hb := b.toNat_lt
  have hc := c.toNat_lt
  have hd := d.toNat_lt
  simp only [crcOf, List.foldl_cons, List.foldl_nil] at h
  have h3 := step_back (z := 0) (byteStep_lt _ _) hd (by omega) (by simpa using h)
  have h2 := step_back (z := d.toNat * 65536) (byteStep_lt _ _) hc (by omega) (by rw [h3]; omega)
  have h1 := step_back (z := c.toNat * 65536 + d.toNat * 256) (byteStep_lt _ _) hb (by omega) (by rw [h2]; omega)
  have h0 := step_back (z := b.toNat * 65536 + c.toNat * 256 + d.toNat) hn ha (by omega) (by rw [h1]; omega)
  have e (x : UInt8) (y : Nat) (h : y % 256 = x.toNat) : x = UInt8.ofNat y := by
    rw [← UInt8.toNat_inj, UInt8.toNat_ofNat']
    omega
  unfold sumBytes
  rw [← e a (n / 16777216) (by omega), ← e b (n / 65536) (by omega), ← e c (n / 256) (by omega), ← e d n (by omega)]

/-! Bits and bytes. -/
theorem bitsN_inj : ∀ {k a b : Nat}, a < 2 ^ k → b < 2 ^ k → bitsN a k = bitsN b k → a = b := by
  intro k a b ha hb h
  apply Nat.eq_of_testBit_eq
  intro i
  by_cases hi : i < k
  · have h1 := bitsN_at a k (k - 1 - i) (by omega)
    have h2 := bitsN_at b k (k - 1 - i) (by omega)
    rw [h, h2] at h1
    simp only [Option.some.injEq] at h1
    rw [show k - 1 - (k - 1 - i) = i by omega] at h1
    exact h1.symm
  · rw [Nat.testBit_lt_two_pow (Nat.lt_of_lt_of_le ha (Nat.pow_le_pow_right (by omega) (by omega))), Nat.testBit_lt_two_pow (Nat.lt_of_lt_of_le hb (Nat.pow_le_pow_right (by omega) (by omega)))]
theorem openL_inj : ∀ {l m : List UInt8}, openL l = openL m → l = m
  | [], [], _ => rfl
  | [], b :: s, h => by have := congrArg List.length h; rw [openL_len, openL_len] at this; simp at this
  | a :: r, [], h => by have := congrArg List.length h; rw [openL_len, openL_len] at this; simp at this
  | a :: r, b :: s, h => by
    have e1 : openL (a :: r) = bitsN a.toNat 8 ++ openL r := rfl
    have e2 : openL (b :: s) = bitsN b.toNat 8 ++ openL s := rfl
    rw [e1, e2] at h
    obtain ⟨h1, h2⟩ := List.append_inj h (by rw [bitsN_len, bitsN_len])
    rw [openL_inj h2, UInt8.toNat_inj.1 (bitsN_inj (k := 8) a.toNat_lt b.toNat_lt h1)]
theorem openL_append (l m : List UInt8) : openL (l ++ m) = openL l ++ openL m := by unfold openL; rw [List.flatMap_append]
theorem byD_bit (d : Bool) (L : List Bool) (q r : Nat) (hr : r < 8) : (byD d L q).testBit (7 - r) = L.getD (8 * q + r) d := by
  have hb (t : Bool) : b01 t = 1 ↔ t = true := by cases t <;> simp [b01]
  have h0 := b01_lt (L.getD (8 * q) d)
  have h1 := b01_lt (L.getD (8 * q + 1) d)
  have h2 := b01_lt (L.getD (8 * q + 2) d)
  have h3 := b01_lt (L.getD (8 * q + 3) d)
  have h4 := b01_lt (L.getD (8 * q + 4) d)
  have h5 := b01_lt (L.getD (8 * q + 5) d)
  have h6 := b01_lt (L.getD (8 * q + 6) d)
  have h7 := b01_lt (L.getD (8 * q + 7) d)
  have hR : r = 0 ∨ r = 1 ∨ r = 2 ∨ r = 3 ∨ r = 4 ∨ r = 5 ∨ r = 6 ∨ r = 7 := by omega
  rw [Nat.testBit_eq_decide_div_mod_eq, Bool.eq_iff_iff, decide_eq_true_eq]
  unfold byD
  rcases hR with rfl | rfl | rfl | rfl | rfl | rfl | rfl | rfl
  · rw [← hb (L.getD (8 * q + 0) d)]; simp only [Nat.add_zero, Nat.sub_zero, Nat.reducePow]; omega
  · rw [← hb (L.getD (8 * q + 1) d)]; simp only [Nat.reduceSub, Nat.reducePow]; omega
  · rw [← hb (L.getD (8 * q + 2) d)]; simp only [Nat.reduceSub, Nat.reducePow]; omega
  · rw [← hb (L.getD (8 * q + 3) d)]; simp only [Nat.reduceSub, Nat.reducePow]; omega
  · rw [← hb (L.getD (8 * q + 4) d)]; simp only [Nat.reduceSub, Nat.reducePow]; omega
  · rw [← hb (L.getD (8 * q + 5) d)]; simp only [Nat.reduceSub, Nat.reducePow]; omega
  · rw [← hb (L.getD (8 * q + 6) d)]; simp only [Nat.reduceSub, Nat.reducePow]; omega
  · rw [← hb (L.getD (8 * q + 7) d)]; simp only [Nat.reduceSub, Nat.reducePow]; omega
theorem openL_pk {d : Bool} {L : List Bool} (h : L.length % 8 = 0) : openL (pkD d L) = L := by
  apply List.ext_getElem?
  intro i
  have hl : (openL (pkD d L)).length = L.length := by rw [openL_len, pkD_len]; omega
  by_cases hi : i < L.length
  · rw [openL_get _ _ (by rw [pkD_len]; omega)]
    unfold bitAt
    have hg : (pkD d L)[i / 8]? = _ := pkD_get (d := d) (L := L) (i := i / 8) (by omega)
    rw [List.getD_eq_getElem?_getD, hg, Option.getD_some, UInt8.toNat_ofNat', Nat.mod_eq_of_lt (byD_lt _ _ _), byD_bit _ _ _ _ (by omega), show 8 * (i / 8) + i % 8 = i by omega, List.getD_eq_getElem?_getD, List.getElem?_eq_getElem hi]
    rfl
  · rw [List.getElem?_eq_none (by omega), List.getElem?_eq_none (by omega)]
theorem numB_bit (l : List UInt8) (a : Nat) : ∀ k i, i < k → (numB l a k).testBit (k - 1 - i) = bitAt l (a + i)
  | 0, i, h => absurd h (Nat.not_lt_zero _)
  | k + 1, i, h => by
    have hb := b01_lt (bitAt l (a + k))
    have h0 : (b01 (bitAt l (a + k)) = 1) ↔ bitAt l (a + k) = true := by cases bitAt l (a + k) <;> simp [b01]
    rw [numB]
    by_cases hi : i = k
    · subst hi
      rw [show i + 1 - 1 - i = 0 by omega, Nat.testBit_zero, Bool.eq_iff_iff, decide_eq_true_eq, ← h0]
      omega
    · rw [show k + 1 - 1 - i = (k - 1 - i) + 1 by omega, Nat.testBit_succ, ← numB_bit l a k i (by omega)]
      congr 1
      omega
theorem seg (l : List UInt8) (a k : Nat) (h : a + k ≤ 8 * l.length) : ((openL l).drop a).take k = bitsN (numB l a k) k := by
  have hl := openL_len l
  apply List.ext_getElem?
  intro i
  by_cases hi : i < k
  · rw [List.getElem?_take_of_lt hi, List.getElem?_drop, openL_get l (a + i) (by omega), bitsN_at _ _ _ hi, numB_bit l a k i hi]
  · rw [List.getElem?_eq_none (by simp; omega), List.getElem?_eq_none (by rw [bitsN_len]; omega)]
theorem take_seg (l : List UInt8) (a k : Nat) (h : a + k ≤ 8 * l.length) : (openL l).take (a + k) = (openL l).take a ++ bitsN (numB l a k) k := by rw [List.take_add, seg l a k h]
theorem take_one (l : List UInt8) (a : Nat) (h : a + 1 ≤ 8 * l.length) : (openL l).take (a + 1) = (openL l).take a ++ [bitAt l a] := by
  rw [take_next (openL_get l a (by omega))]
theorem take_fill (l : List UInt8) : ∀ (m a : Nat), a + m ≤ 8 * l.length → badAt l a m = none → (openL l).take (a + m) = (openL l).take a ++ List.replicate m true
  | 0, a, _, _ => by simp
  | m + 1, a, h, hb => by
    unfold badAt at hb
    split at hb
    · rename_i ht
      have := take_fill l m (a + 1) (by omega) hb
      rw [show a + (m + 1) = a + 1 + m by omega, this, take_one l a (by omega), ht, List.append_assoc]
      rfl
    · simp at hb
theorem numB_mid {l : List UInt8} {A B : List Bool} {a k x : Nat} (h : openL l = A ++ (bitsN x k ++ B)) (ha : A.length = a) (hx : x < 2 ^ k) : numB l a k = x := by
  have hl := openL_len l
  have hs := seg l a k (by rw [← hl, h]; simp [bitsN_len]; omega)
  rw [h, ← ha, List.drop_left, List.take_left' (bitsN_len x k)] at hs
  exact (bitsN_inj hx (numB_lt l a k) (by first | exact hs | (rw [ha] at hs; exact hs))).symm
theorem bit_mid {l : List UInt8} {A B : List Bool} {a : Nat} {t : Bool} (h : openL l = A ++ ([t] ++ B)) (ha : A.length = a) : bitAt l a = t := by
  have hl := openL_len l
  have hg := openL_get l a (by rw [← hl, h]; simp; omega)
  rw [h, ← ha, List.getElem?_append_right (Nat.le_refl _), Nat.sub_self] at hg
  rw [← ha]
  simpa using hg.symm
theorem fill_mid {l : List UInt8} : ∀ {m : Nat} {A B : List Bool} {a : Nat}, openL l = A ++ (List.replicate m true ++ B) → A.length = a → badAt l a m = none
  | 0, _, _, _, _, _ => rfl
  | m + 1, A, B, a, h, ha => by
    have h1 : openL l = A ++ ([true] ++ (List.replicate m true ++ B)) := by rw [h]; rfl
    have h2 := fill_mid (m := m) (A := A ++ [true]) (B := B) (a := a + 1) (by rw [h1]; simp) (by simp; omega)
    unfold badAt
    rw [if_pos (bit_mid h1 ha), h2]
end Go.Proofs.Ytpdeodoidlcdoaa

/- A cue is read as it was written, and written as it was read; plain. -/
namespace Go.Proofs.Ytpdeodoidlcdoaa
open Go.RowKit
set_option linter.unusedSimpArgs false

theorem bodyC_open (c : Cue) : openL (bodyC c) = padO (fieldsL c) := openL_pk (by rw [padO_len8]; omega)
theorem headC_open (n : Nat) : openL (headC n) = (bitsN 252 8 ++ bitsN n 12) ++ bitsN 15 4 := openL_pk (by simp [bitsN_len])
theorem bodyC_size (c : Cue) : (bodyC c).length = ((fieldsL c).length + 7) / 8 := by unfold bodyC; rw [pkD_len, padO_len8]; omega
theorem pad_room (L : List Bool) (m : Nat) (h : m = (8 - L.length % 8) % 8) : padO L = L ++ List.replicate m true := by rw [h]; rfl

/-- The bits of a cue's fields. -/
theorem fields_0 (e t q : Int) (no au : Bool) : fieldsL ⟨0, e, no, t, q, au⟩ = bitsN 0 3 := by simp [fieldsL]
theorem fields_3 (e : Nat) (t q : Int) (no au : Bool) : fieldsL ⟨3, e, no, t, q, au⟩ = bitsN 3 3 ++ bitsN e 32 := by simp [fieldsL]
theorem fields_2n (e : Nat) (t q : Int) (au : Bool) : fieldsL ⟨2, e, true, t, q, au⟩ = bitsN 2 3 ++ (bitsN e 32 ++ [true]) := by simp [fieldsL]
theorem fields_2t (e t : Nat) (q : Int) (au : Bool) : fieldsL ⟨2, e, false, t, q, au⟩ = bitsN 2 3 ++ (bitsN e 32 ++ ([false] ++ bitsN t 33)) := by simp [fieldsL]
theorem fields_1n (e q : Nat) (t : Int) (au : Bool) : fieldsL ⟨1, e, true, t, q, au⟩ = bitsN 1 3 ++ (bitsN e 32 ++ ([true] ++ ([au] ++ bitsN q 33))) := by simp [fieldsL]
theorem fields_1t (e t q : Nat) (au : Bool) : fieldsL ⟨1, e, false, t, q, au⟩ = bitsN 1 3 ++ (bitsN e 32 ++ ([false] ++ (bitsN t 33 ++ ([au] ++ bitsN q 33)))) := by simp [fieldsL]

/-- Bytes that begin with the bits of a cue. -/
theorem take_head {l : List UInt8} {n : Nat} (h1 : 24 ≤ 8 * l.length) (h2 : l.getD 0 0 = 252) (h3 : numB l 8 12 = n) (h4 : numB l 20 4 = 15) : (openL l).take 24 = openL (headC n) := by
  rw [headC_open]
  have a0 : numB l 0 8 = 252 := by
    have := numB_in l 0 0 8 (by omega)
    simp only [Nat.mul_zero, Nat.add_zero, h2, Nat.sub_zero, Nat.sub_self, Nat.pow_zero, Nat.div_one] at this
    exact this
  have t8 := take_seg l 0 8 (by omega)
  have t20 := take_seg l 8 12 (by omega)
  have t24 := take_seg l 20 4 (by omega)
  simp only [Nat.zero_add, List.take_zero, List.nil_append, Nat.reduceAdd] at t8 t20 t24
  rw [t24, t20, t8, a0, h3, h4]
theorem openL_takeB (l : List UInt8) (k : Nat) (hk : k ≤ l.length) : openL (l.take k) = (openL l).take (8 * k) := by
  have h : openL l = openL (l.take k) ++ openL (l.drop k) := by rw [← openL_append, List.take_append_drop]
  rw [h, List.take_left' (by rw [openL_len, List.length_take]; omega)]

theorem take_body {l : List UInt8} {n : Nat} (hl : l.length = 3 + n) (hr : rightC l n = true) (hb : badAt l (endC (kindC l) (nowC l)) (8 * (n - 1) - endC (kindC l) (nowC l)) = none) :
    (openL l).take (8 * (n - 1)) = (openL l).take 24 ++ openL (bodyC (cueRd l)) ∧ n = (bodyC (cueRd l)).length + 4 := by
  unfold rightC at hr
  rw [Bool.and_eq_true, decide_eq_true_eq, beq_iff_eq] at hr
  obtain ⟨hk, hn⟩ := hr
  have he := endC_le hk hn
  have hk4 : kindC l = 0 ∨ kindC l = 1 ∨ kindC l = 2 ∨ kindC l = 3 := by omega
  have hnow : nowC l = (timedB (kindC l) && bitAt l 59) := rfl
  have hf := take_fill l (8 * (n - 1) - endC (kindC l) (nowC l)) (endC (kindC l) (nowC l)) (by omega) hb
  rw [show endC (kindC l) (nowC l) + (8 * (n - 1) - endC (kindC l) (nowC l)) = 8 * (n - 1) by omega] at hf
  rw [hf, bodyC_open, bodyC_size]
  have t27 := fun h => take_seg l 24 3 h
  have t59 := fun h => take_seg l 27 32 h
  have t60 := fun h => take_one l 59 h
  have t93 := fun h => take_seg l 60 33 h
  simp only [Nat.reduceAdd] at t27 t59 t60 t93
  have hkn : numB l 24 3 = kindC l := rfl
  rcases hk4 with h | h | h | h
  · have hc : cueRd l = ⟨(0 : Nat), (0 : Nat), false, (0 : Nat), (0 : Nat), false⟩ := by simp [cueRd, nowC, timedB, h]
    rw [h] at hnow hn hkn
    rw [hc, h, hnow]
    rw [hnow] at hn
    simp [timedB, sizeC] at hn
    subst hn
    rw [show ((0 : Nat) : Int) = 0 from rfl, fields_0]
    refine ⟨?_, by simp [bitsN_len]⟩
    rw [pad_room _ 5 (by simp [bitsN_len])]
    have e : endC 0 (timedB 0 && bitAt l 59) = 27 := by simp [endC, timedB, lastC]
    rw [e, t27 (by omega), hkn]
    simp [List.append_assoc]
  · cases hw : bitAt l 59
    · have hc : cueRd l = ⟨(1 : Nat), (numB l 27 32 : Nat), false, (numB l 60 33 : Nat), (numB l 94 33 : Nat), bitAt l 93⟩ := by simp [cueRd, nowC, timedB, lastC, h, hw]
      have t94 := fun h => take_one l 93 h
      have t127 := fun h => take_seg l 94 33 h
      simp only [Nat.reduceAdd] at t94 t127
      rw [h, hw] at hnow
      rw [h] at hn hkn
      rw [hc, h, hnow]
      rw [hnow] at hn
      simp [timedB, sizeC] at hn
      subst hn
      rw [show ((1 : Nat) : Int) = 1 from rfl, fields_1t]
      refine ⟨?_, by simp [bitsN_len]⟩
      rw [pad_room _ 1 (by simp [bitsN_len])]
      have e : endC 1 (timedB 1 && false) = 127 := by simp [endC, timedB, lastC]
      rw [e, t127 (by omega), t94 (by omega), t93 (by omega), t60 (by omega), t59 (by omega), t27 (by omega), hkn, hw]
      simp [List.append_assoc]
    · have hc : cueRd l = ⟨(1 : Nat), (numB l 27 32 : Nat), true, 0, (numB l 61 33 : Nat), bitAt l 60⟩ := by simp [cueRd, nowC, timedB, lastC, h, hw]
      have t61 := fun h => take_one l 60 h
      have t94 := fun h => take_seg l 61 33 h
      simp only [Nat.reduceAdd] at t61 t94
      rw [h, hw] at hnow
      rw [h] at hn hkn
      rw [hc, h, hnow]
      rw [hnow] at hn
      simp [timedB, sizeC] at hn
      subst hn
      rw [show ((1 : Nat) : Int) = 1 from rfl, fields_1n]
      refine ⟨?_, by simp [bitsN_len]⟩
      rw [pad_room _ 2 (by simp [bitsN_len])]
      have e : endC 1 (timedB 1 && true) = 94 := by simp [endC, timedB, lastC]
      rw [e, t94 (by omega), t61 (by omega), t60 (by omega), t59 (by omega), t27 (by omega), hkn, hw]
      simp [List.append_assoc]
  · cases hw : bitAt l 59
    · have hc : cueRd l = ⟨(2 : Nat), (numB l 27 32 : Nat), false, (numB l 60 33 : Nat), 0, false⟩ := by simp [cueRd, nowC, timedB, lastC, h, hw]
      rw [h, hw] at hnow
      rw [h] at hn hkn
      rw [hc, h, hnow]
      rw [hnow] at hn
      simp [timedB, sizeC] at hn
      subst hn
      rw [show ((2 : Nat) : Int) = 2 from rfl, fields_2t]
      refine ⟨?_, by simp [bitsN_len]⟩
      rw [pad_room _ 3 (by simp [bitsN_len])]
      have e : endC 2 (timedB 2 && false) = 93 := by simp [endC, timedB, lastC]
      rw [e, t93 (by omega), t60 (by omega), t59 (by omega), t27 (by omega), hkn, hw]
      simp [List.append_assoc]
    · have hc : cueRd l = ⟨(2 : Nat), (numB l 27 32 : Nat), true, 0, 0, false⟩ := by simp [cueRd, nowC, timedB, lastC, h, hw]
      rw [h, hw] at hnow
      rw [h] at hn hkn
      rw [hc, h, hnow]
      rw [hnow] at hn
      simp [timedB, sizeC] at hn
      subst hn
      rw [show ((2 : Nat) : Int) = 2 from rfl, fields_2n]
      refine ⟨?_, by simp [bitsN_len]⟩
      rw [pad_room _ 4 (by simp [bitsN_len])]
      have e : endC 2 (timedB 2 && true) = 60 := by simp [endC, timedB, lastC]
      rw [e, t60 (by omega), t59 (by omega), t27 (by omega), hkn, hw]
      simp [List.append_assoc]
  · have hc : cueRd l = ⟨(3 : Nat), (numB l 27 32 : Nat), false, 0, 0, false⟩ := by simp [cueRd, nowC, timedB, h]
    rw [h] at hnow hn hkn
    rw [hc, h, hnow]
    rw [hnow] at hn
    simp [timedB, sizeC] at hn
    subst hn
    rw [show ((3 : Nat) : Int) = 3 from rfl, fields_3]
    refine ⟨?_, by simp [bitsN_len]⟩
    rw [pad_room _ 5 (by simp [bitsN_len])]
    have e : endC 3 (timedB 3 && bitAt l 59) = 59 := by simp [endC, timedB, lastC]
    rw [e, t59 (by omega), t27 (by omega), hkn]
    simp [List.append_assoc]

theorem drop4 : ∀ {l : List UInt8}, l.length = 4 → ∃ a b c d, l = [a, b, c, d]
  | [a, b, c, d], _ => ⟨a, b, c, d, rfl⟩

theorem fill_zero {t : CueAns} (ht : t.fault ≠ 0 → t.cue = zeroC) : ∀ {o : Option Nat}, (fillO t o).fault ≠ 0 → (fillO t o).cue = zeroC
  | some _, _ => rfl
  | none, h => ht h
theorem tail_zero (l : List UInt8) (c : Cue) (h : (tailC l c).fault ≠ 0) : (tailC l c).cue = zeroC := by
  unfold tailC at h ⊢
  split
  · rfl
  · rename_i h1
    rw [if_neg h1] at h
    split
    · rfl
    · rename_i h2
      rw [if_neg h2] at h
      exact absurd rfl h
theorem body_zero (l : List UInt8) (n : Nat) (h : (bodyRd l n).fault ≠ 0) : (bodyRd l n).cue = zeroC := by
  unfold bodyRd at h ⊢
  split
  · rfl
  · rename_i h1
    rw [if_neg h1] at h
    split
    · rfl
    · rename_i h2
      rw [if_neg h2] at h
      exact fill_zero (tail_zero l _) h
theorem head_zero (l : List UInt8) (n : Nat) (h : (headRd l n).fault ≠ 0) : (headRd l n).cue = zeroC := by
  unfold headRd at h ⊢
  split
  · rfl
  · rename_i h1
    rw [if_neg h1] at h
    split
    · rfl
    · rename_i h2
      rw [if_neg h2] at h
      exact body_zero l n h
theorem read_zero (l : List UInt8) (h : (readC l).fault ≠ 0) : (readC l).cue = zeroC := by
  unfold readC at h ⊢
  split
  · rfl
  · rename_i h1
    rw [if_neg h1] at h
    split
    · rfl
    · rename_i h2
      rw [if_neg h2] at h
      split
      · rfl
      · rename_i h3
        rw [if_neg h3] at h
        exact head_zero l _ h

/-- What is read was written. -/
theorem write_read (l : List UInt8) (h : (readC l).fault = 0) : checkC (readC l).cue = 0 ∧ cueB (readC l).cue = l ∧ crc l = 0 := by
  unfold readC at h ⊢
  split at h
  · simp at h
  split at h
  · simp at h
  split at h
  · simp at h
  rename_i h1 h2 h3
  rw [if_neg h1, if_neg h2, if_neg h3]
  obtain ⟨n, hn⟩ : ∃ n, n = numB l 8 12 := ⟨_, rfl⟩
  rw [← hn] at h ⊢
  unfold headRd at h ⊢
  split at h
  · simp at h
  split at h
  · simp at h
  rename_i h4 h5
  rw [if_neg h4, if_neg h5]
  unfold bodyRd at h ⊢
  split at h
  · simp at h
  split at h
  · simp at h
  rename_i h6 h7
  rw [if_neg h6, if_neg h7]
  unfold fillC at h ⊢
  cases hb : badAt l (endC (kindC l) (nowC l)) (8 * (n - 1) - endC (kindC l) (nowC l)) with
  | some i => rw [hb] at h; simp [fillO] at h
  | none =>
    rw [hb] at h
    simp only [fillO] at h ⊢
    unfold tailC at h ⊢
    split at h
    · simp at h
    split at h
    · rename_i h8 h9
      exact absurd h h9
    rename_i h8 h9
    rw [if_neg h8, if_neg h9]
    have hc : crc l = 0 := by simpa using h8
    refine ⟨by simpa using h9, ?_, hc⟩
    have hr : rightC l n = true := by simpa using h6
    have hl : l.length = 3 + n := by omega
    obtain ⟨hB, hN⟩ := take_body hl hr hb
    have hH := take_head (n := n) (by omega) (by simpa using h3) hn.symm (by simpa using h7)
    have hno : l.take (n - 1) = noSum (cueRd l) := by
      apply openL_inj
      rw [openL_takeB l (n - 1) (by omega), hB, hH]
      unfold noSum
      rw [openL_append, ← hN]
    obtain ⟨a, b, c, d, hd⟩ := drop4 (l := l.drop (n - 1)) (by rw [List.length_drop]; omega)
    have hs : l = noSum (cueRd l) ++ [a, b, c, d] := by rw [← hno, ← hd, List.take_append_drop]
    have hz := hc
    rw [hs] at hz
    unfold crc at hz
    rw [crcOf_append] at hz
    have h4 := last4 (crcOf_lt (noSum (cueRd l)) (n := 4294967295) (by omega)) a b c d hz
    show noSum (cueRd l) ++ sumBytes (crc (noSum (cueRd l))) = l
    unfold crc
    rw [← h4]
    exact hs.symm
end Go.Proofs.Ytpdeodoidlcdoaa

/- A cue that is written is read as it was; plain. -/
namespace Go.Proofs.Ytpdeodoidlcdoaa
open Go.RowKit
set_option linter.unusedSimpArgs false

theorem step_n {l : List UInt8} {A R : List Bool} {a k x : Nat} (h : openL l = A ++ (bitsN x k ++ R)) (ha : A.length = a) (hx : x < 2 ^ k) :
    numB l a k = x ∧ openL l = (A ++ bitsN x k) ++ R ∧ (A ++ bitsN x k).length = a + k :=
  ⟨numB_mid h ha hx, by rw [List.append_assoc]; exact h, by rw [List.length_append, bitsN_len, ha]⟩
theorem step_b {l : List UInt8} {A R : List Bool} {a : Nat} {t : Bool} (h : openL l = A ++ ([t] ++ R)) (ha : A.length = a) :
    bitAt l a = t ∧ openL l = (A ++ [t]) ++ R ∧ (A ++ [t]).length = a + 1 :=
  ⟨bit_mid h ha, by rw [List.append_assoc]; exact h, by rw [List.length_append, ha]; rfl⟩

/-- What the bits of a cue say. -/
def SaysC (l : List UInt8) (n : Nat) (c : Cue) : Prop := rightC l n = true ∧ badAt l (endC (kindC l) (nowC l)) (8 * (n - 1) - endC (kindC l) (nowC l)) = none ∧ cueRd l = c
theorem says_of {l : List UInt8} {n k : Nat} {now : Bool} {c : Cue} (hk : kindC l = k) (hn : nowC l = now) (h3 : k ≤ 3) (hs : n = sizeC k now) (hb : badAt l (endC k now) (8 * (n - 1) - endC k now) = none) (hc : cueRd l = c) : SaysC l n c := by
  unfold SaysC rightC
  rw [hk, hn]
  exact ⟨by rw [Bool.and_eq_true, decide_eq_true_eq, beq_iff_eq]; exact ⟨h3, hs⟩, hb, hc⟩

theorem says_any {l : List UInt8} {A Z : List Bool} {n k e t q : Nat} {no au : Bool} (hA : A.length = 24) (ho : openL l = A ++ (padO (fieldsL ⟨k, e, no, t, q, au⟩) ++ Z)) (hz : n = (bodyC ⟨k, e, no, t, q, au⟩).length + 4)
    (h : checkC ⟨k, e, no, t, q, au⟩ = 0) : SaysC l n ⟨k, e, no, t, q, au⟩ := by
  obtain ⟨hk, hf, ⟨hev, hti, hle⟩, _⟩ := checkC_zero h
  simp only at hk hev hti hle
  have hk4 : k = 0 ∨ k = 1 ∨ k = 2 ∨ k = 3 := by omega
  have he : e < 2 ^ 32 := by have : (2 : Nat) ^ 32 = 4294967296 := rfl; omega
  have ht : t < 2 ^ 33 := by have : (2 : Nat) ^ 33 = 8589934592 := rfl; omega
  have hq : q < 2 ^ 33 := by have : (2 : Nat) ^ 33 = 8589934592 := rfl; omega
  rw [bodyC_size] at hz
  unfold formB at hf
  simp only at hf
  rcases hk4 with rfl | rfl | rfl | rfl
  · obtain rfl : e = 0 := by simp at hf; omega
    obtain rfl : no = false := by cases no <;> first | rfl | simp at hf
    obtain rfl : t = 0 := by simp at hf; omega
    obtain rfl : q = 0 := by simp at hf; omega
    obtain rfl : au = false := by cases au <;> first | rfl | simp at hf
    rw [show ((0 : Nat) : Int) = 0 from rfl, fields_0] at hz ho
    rw [pad_room _ 5 (by simp [bitsN_len])] at ho
    simp only [List.append_assoc] at ho
    obtain ⟨s1, o1, a1⟩ := step_n ho hA (by decide)
    have hkc : kindC l = 0 := s1
    have hno : nowC l = false := by simp [nowC, timedB, hkc]
    have hb := fill_mid o1 a1
    have hn5 : n = 5 := by rw [hz]; simp [bitsN_len]
    exact says_of hkc hno (by omega) (by rw [hn5]; rfl) (by rw [hn5]; exact hb) (by simp [cueRd, nowC, timedB, hkc])
  · cases no
    · rw [show ((1 : Nat) : Int) = 1 from rfl, fields_1t] at hz ho
      rw [pad_room _ 1 (by simp [bitsN_len])] at ho
      simp only [List.append_assoc] at ho
      obtain ⟨s1, o1, a1⟩ := step_n ho hA (by decide)
      obtain ⟨s2, o2, a2⟩ := step_n o1 a1 he
      obtain ⟨s3, o3, a3⟩ := step_b o2 a2
      obtain ⟨s4, o4, a4⟩ := step_n o3 a3 ht
      obtain ⟨s5, o5, a5⟩ := step_b o4 a4
      obtain ⟨s6, o6, a6⟩ := step_n o5 a5 hq
      simp only [Nat.reduceAdd] at s1 s2 s3 s4 s5 s6 a6
      have hkc : kindC l = 1 := s1
      have hno : nowC l = false := by simp [nowC, timedB, hkc, s3]
      have hb := fill_mid o6 a6
      have hn5 : n = 17 := by rw [hz]; simp [bitsN_len]
      exact says_of hkc hno (by omega) (by rw [hn5]; rfl) (by rw [hn5]; exact hb) (by simp [cueRd, nowC, timedB, lastC, hkc, s3, s2, s4, s5, s6])
    · obtain rfl : t = 0 := by simp at hf; omega
      rw [show ((1 : Nat) : Int) = 1 from rfl, fields_1n] at hz ho
      rw [pad_room _ 2 (by simp [bitsN_len])] at ho
      simp only [List.append_assoc] at ho
      obtain ⟨s1, o1, a1⟩ := step_n ho hA (by decide)
      obtain ⟨s2, o2, a2⟩ := step_n o1 a1 he
      obtain ⟨s3, o3, a3⟩ := step_b o2 a2
      obtain ⟨s5, o5, a5⟩ := step_b o3 a3
      obtain ⟨s6, o6, a6⟩ := step_n o5 a5 hq
      simp only [Nat.reduceAdd] at s1 s2 s3 s5 s6 a6
      have hkc : kindC l = 1 := s1
      have hno : nowC l = true := by simp [nowC, timedB, hkc, s3]
      have hb := fill_mid o6 a6
      have hn5 : n = 13 := by rw [hz]; simp [bitsN_len]
      exact says_of hkc hno (by omega) (by rw [hn5]; rfl) (by rw [hn5]; exact hb) (by simp [cueRd, nowC, timedB, lastC, hkc, s3, s2, s5, s6])
  · obtain rfl : q = 0 := by simp at hf; omega
    obtain rfl : au = false := by cases au <;> first | rfl | simp at hf
    cases no
    · rw [show ((2 : Nat) : Int) = 2 from rfl, fields_2t] at hz ho
      rw [pad_room _ 3 (by simp [bitsN_len])] at ho
      simp only [List.append_assoc] at ho
      obtain ⟨s1, o1, a1⟩ := step_n ho hA (by decide)
      obtain ⟨s2, o2, a2⟩ := step_n o1 a1 he
      obtain ⟨s3, o3, a3⟩ := step_b o2 a2
      obtain ⟨s4, o4, a4⟩ := step_n o3 a3 ht
      simp only [Nat.reduceAdd] at s1 s2 s3 s4 a4
      have hkc : kindC l = 2 := s1
      have hno : nowC l = false := by simp [nowC, timedB, hkc, s3]
      have hb := fill_mid o4 a4
      have hn5 : n = 13 := by rw [hz]; simp [bitsN_len]
      exact says_of hkc hno (by omega) (by rw [hn5]; rfl) (by rw [hn5]; exact hb) (by simp [cueRd, nowC, timedB, lastC, hkc, s3, s2, s4])
    · obtain rfl : t = 0 := by simp at hf; omega
      rw [show ((2 : Nat) : Int) = 2 from rfl, fields_2n] at hz ho
      rw [pad_room _ 4 (by simp [bitsN_len])] at ho
      simp only [List.append_assoc] at ho
      obtain ⟨s1, o1, a1⟩ := step_n ho hA (by decide)
      obtain ⟨s2, o2, a2⟩ := step_n o1 a1 he
      obtain ⟨s3, o3, a3⟩ := step_b o2 a2
      simp only [Nat.reduceAdd] at s1 s2 s3 a3
      have hkc : kindC l = 2 := s1
      have hno : nowC l = true := by simp [nowC, timedB, hkc, s3]
      have hb := fill_mid o3 a3
      have hn5 : n = 9 := by rw [hz]; simp [bitsN_len]
      exact says_of hkc hno (by omega) (by rw [hn5]; rfl) (by rw [hn5]; exact hb) (by simp [cueRd, nowC, timedB, lastC, hkc, s3, s2])
  · obtain rfl : no = false := by cases no <;> first | rfl | simp at hf
    obtain rfl : t = 0 := by simp at hf; omega
    obtain rfl : q = 0 := by simp at hf; omega
    obtain rfl : au = false := by cases au <;> first | rfl | simp at hf
    rw [show ((3 : Nat) : Int) = 3 from rfl, fields_3] at hz ho
    rw [pad_room _ 5 (by simp [bitsN_len])] at ho
    simp only [List.append_assoc] at ho
    obtain ⟨s1, o1, a1⟩ := step_n ho hA (by decide)
    obtain ⟨s2, o2, a2⟩ := step_n o1 a1 he
    simp only [Nat.reduceAdd] at s1 s2 a2
    have hkc : kindC l = 3 := s1
    have hno : nowC l = false := by simp [nowC, timedB, hkc]
    have hb := fill_mid o2 a2
    have hn5 : n = 9 := by rw [hz]; simp [bitsN_len]
    exact says_of hkc hno (by omega) (by rw [hn5]; rfl) (by rw [hn5]; exact hb) (by simp [cueRd, nowC, timedB, hkc, s2])

theorem crc_cueB (c : Cue) : crc (cueB c) = 0 := crc_sum _
theorem cueB_len (c : Cue) : (cueB c).length = 3 + ((bodyC c).length + 4) ∧ (cueB c).length ≤ 20 := by
  have h1 := headC_len ((bodyC c).length + 4)
  have h2 : (bodyC c).length ≤ 13 := by rw [bodyC_size]; have := fieldsL_len c; omega
  unfold cueB noSum sumBytes
  simp only [List.length_append, List.length_cons, List.length_nil]
  omega
theorem body_13 (c : Cue) : (bodyC c).length ≤ 13 := by
  rw [bodyC_size]
  have := fieldsL_len c
  omega

/-- A cue is read as it was written. -/
theorem read_write (c : Cue) (h : checkC c = 0) : readC (cueB c) = ⟨c, 0, 0⟩ := by
  have hl := (cueB_len c).1
  have h13 := body_13 c
  have hn : (bodyC c).length + 4 < 4096 := by omega
  obtain ⟨n, hN⟩ : ∃ n, n = (bodyC c).length + 4 := ⟨_, rfl⟩
  have ho : openL (cueB c) = [] ++ (bitsN 252 8 ++ (bitsN n 12 ++ (bitsN 15 4 ++ (padO (fieldsL c) ++ openL (sumBytes (crc (noSum c))))))) := by
    unfold cueB
    rw [openL_append]
    conv => lhs; lhs; unfold noSum
    rw [openL_append, headC_open, bodyC_open, ← hN]
    simp only [List.append_assoc, List.nil_append]
  rw [← hN] at hl hn
  have hcr := crc_cueB c
  obtain ⟨s1, o1, a1⟩ := step_n ho (a := 0) rfl (by decide)
  obtain ⟨s2, o2, a2⟩ := step_n o1 a1 (by have : (2 : Nat) ^ 12 = 4096 := rfl; omega)
  obtain ⟨s3, o3, a3⟩ := step_n o2 a2 (by decide)
  simp only [Nat.reduceAdd] at s1 s2 s3 a3
  have h0 : (cueB c).getD 0 0 = 252 := by
    have := numB_in (cueB c) 0 0 8 (by omega)
    simp only [Nat.mul_zero, Nat.add_zero, Nat.sub_zero, Nat.sub_self, Nat.pow_zero, Nat.div_one] at this
    rw [s1] at this
    have hlt := ((cueB c).getD 0 0).toNat_lt
    rw [← UInt8.toNat_inj]
    have e : (2 : Nat) ^ 8 = 256 := rfl
    rw [e] at this
    have : ((cueB c).getD 0 0).toNat = 252 := by omega
    rw [this]
    rfl
  obtain ⟨hk, _, ⟨hev, hti, hle⟩, _⟩ := checkC_zero h
  generalize hB : cueB c = l at *
  have hs : SaysC l n c := by
    obtain ⟨ki, ev, no, ti, le, au⟩ := c
    simp only at hk hev hti hle
    obtain ⟨k, rfl⟩ := Int.eq_ofNat_of_zero_le hk.1
    obtain ⟨e, rfl⟩ := Int.eq_ofNat_of_zero_le hev.1
    obtain ⟨t, rfl⟩ := Int.eq_ofNat_of_zero_le hti.1
    obtain ⟨q, rfl⟩ := Int.eq_ofNat_of_zero_le hle.1
    exact says_any a3 o3 hN h
  obtain ⟨hr, hb, hc⟩ := hs
  unfold readC
  rw [if_neg (by omega), if_neg (by omega), if_neg (by rw [h0]; simp), s2]
  unfold headRd
  rw [if_neg (by omega), if_neg (by omega)]
  unfold bodyRd
  rw [hr, if_neg (by simp), s3, if_neg (by simp)]
  unfold fillC
  rw [hb]
  show tailC l (cueRd l) = _
  unfold tailC
  rw [hcr, if_neg (by simp), hc, h, if_neg (by simp)]
end Go.Proofs.Ytpdeodoidlcdoaa

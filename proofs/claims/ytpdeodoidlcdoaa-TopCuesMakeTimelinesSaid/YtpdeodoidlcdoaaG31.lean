/- opened, number and long of the reference. -/
import Derived.Test.YtpdeodoidlcdoaaG27
import Derived.Test.YtpdeodoidlcdoaaG30
import Derived.Test.YtpdeodoidlcdoaaG25
namespace Go.Proofs.Ytpdeodoidlcdoaa
open Go.RowKit

/-- All bits of bytes. -/
def openL (l : List UInt8) : List Bool := l.flatMap fun c => bitsN c.toNat 8
theorem openL_len (l : List UInt8) : (openL l).length = 8 * l.length := by
  unfold openL
  induction l with
  | nil => rfl
  | cons a r ih => rw [List.flatMap_cons, List.length_append, bitsN_len, ih, List.length_cons]; omega
theorem bitsN_at (n : Nat) : ∀ k j, j < k → (bitsN n k)[j]? = some (n.testBit (k - 1 - j))
  | 0, j, h => absurd h (Nat.not_lt_zero _)
  | k + 1, 0, _ => by simp [bitsN]
  | k + 1, j + 1, h => by
    have := bitsN_at n k j (by omega)
    rw [show k + 1 - 1 - (j + 1) = k - 1 - j by omega, ← this]
    simp [bitsN]
theorem openL_get : ∀ (l : List UInt8) (i : Nat), i < 8 * l.length → (openL l)[i]? = some (bitAt l i)
  | [], i, h => by simp at h
  | c :: r, i, h => by
    have e : openL (c :: r) = bitsN c.toNat 8 ++ openL r := rfl
    rw [e]
    by_cases h8 : i < 8
    · rw [List.getElem?_append_left (by rw [bitsN_len]; exact h8), bitsN_at _ _ _ h8]
      unfold bitAt
      have e1 : i / 8 = 0 := by omega
      have e2 : i % 8 = i := by omega
      rw [e1, e2]
      rfl
    · rw [List.getElem?_append_right (by rw [bitsN_len]; omega), bitsN_len, openL_get r (i - 8) (by simp at h; omega)]
      unfold bitAt
      have e1 : i / 8 = (i - 8) / 8 + 1 := by omega
      have e2 : (i - 8) % 8 = i % 8 := by omega
      rw [e1, e2]
      simp
theorem openL_take {l : List UInt8} {k : Nat} {x : UInt8} (hx : l[k]? = some x) : openL (l.take (k + 1)) = openL (l.take k) ++ bitsN x.toNat 8 := by
  rw [take_next hx]
  unfold openL
  rw [List.flatMap_append, List.flatMap_singleton]

theorem fields_size (k : Nat) (now : Bool) (hk : k ≤ 3) : ((fieldsL ⟨k, 0, now, 0, 0, false⟩).length + 7) / 8 + 4 = sizeC k now := by
  have : k = 0 ∨ k = 1 ∨ k = 2 ∨ k = 3 := by omega
  rcases this with rfl | rfl | rfl | rfl <;> cases now <;> simp [fieldsL, sizeC, bitsN_len]

end Go.Proofs.Ytpdeodoidlcdoaa

/- The step of the sum is injective: bytes that differ at one place have different sums. -/
namespace Go.Proofs.Ytpdeodoidlcdoaa
open Go.RowKit

theorem xor_par (a : Nat) : (a ^^^ 79764919) % 2 ≠ a % 2 := by
  have h : (a ^^^ 79764919) % 2 = (a % 2) ^^^ 1 := by
    have := Nat.xor_mod_two_pow (a := a) (b := 79764919) (n := 1)
    simpa using this
  rw [h]
  have : a % 2 = 0 ∨ a % 2 = 1 := by omega
  rcases this with e | e <;> rw [e] <;> decide
theorem bitStep_inj {a b : Nat} (ha : a < 4294967296) (hb : b < 4294967296) (h : bitStep a = bitStep b) : a = b := by
  unfold bitStep at h
  split at h <;> split at h
  · have := congrArg (· ^^^ 79764919) h
    simp only [Nat.xor_assoc, Nat.xor_self, Nat.xor_zero] at this
    omega
  · exfalso
    have h1 := xor_par (a * 2 % 4294967296)
    rw [h] at h1
    omega
  · exfalso
    have h1 := xor_par (b * 2 % 4294967296)
    rw [← h] at h1
    omega
  · omega
theorem iterN_inj : ∀ (k : Nat) {a b : Nat}, a < 4294967296 → b < 4294967296 → iterN bitStep k a = iterN bitStep k b → a = b
  | 0, _, _, _, _, h => h
  | k + 1, _, _, ha, hb, h => iterN_inj k ha hb (bitStep_inj (iterN_lt ha k) (iterN_lt hb k) h)
theorem byteStep_injL {n m c : Nat} (hn : n < 4294967296) (hm : m < 4294967296) (hc : c < 256) (h : byteStep n c = byteStep m c) : n = m := by
  have h1 := iterN_inj 8 (xor_lt32 hn (by omega)) (xor_lt32 hm (by omega)) h
  have := congrArg (· ^^^ (c * 16777216)) h1
  simpa only [Nat.xor_assoc, Nat.xor_self, Nat.xor_zero] using this
theorem byteStep_injR {n c d : Nat} (hn : n < 4294967296) (hc : c < 256) (hd : d < 256) (h : byteStep n c = byteStep n d) : c = d := by
  have h1 := iterN_inj 8 (xor_lt32 hn (by omega)) (xor_lt32 hn (by omega)) h
  have := congrArg (n ^^^ ·) h1
  simp only [← Nat.xor_assoc, Nat.xor_self, Nat.zero_xor] at this
  omega
theorem u8_lt (c : UInt8) : c.toNat < 256 := c.toNat_lt
theorem crcOf_inj : ∀ (l : List UInt8) {n m : Nat}, n < 4294967296 → m < 4294967296 → crcOf n l = crcOf m l → n = m
  | [], _, _, _, _, h => h
  | c :: r, _, _, hn, hm, h => byteStep_injL hn hm (u8_lt c) (crcOf_inj r (byteStep_lt _ _) (byteStep_lt _ _) h)
theorem crc_set {l : List UInt8} {i : Nat} {x y : UInt8} (hx : l[i]? = some x) (h : crc (l.set i y) = crc l) : y = x := by
  obtain ⟨hi, rfl⟩ := List.getElem?_eq_some_iff.1 hx
  have e1 : l = l.take i ++ l[i] :: l.drop (i + 1) := by rw [List.getElem_cons_drop, List.take_append_drop]
  have e2 : l.set i y = l.take i ++ y :: l.drop (i + 1) := by
    rw [List.set_eq_take_append_cons_drop, if_pos hi]
  generalize hL : l[i] = x at *
  unfold crc at h
  rw [e2] at h
  rw [e1] at h
  rw [List.take_append_of_le_length (by simp; omega), List.take_take, Nat.min_self] at h
  have e3 : (l.take i ++ x :: l.drop (i + 1)).drop (i + 1) = l.drop (i + 1) := by rw [← e1]
  rw [e3, crcOf_append, crcOf_append] at h
  have hlt : crcOf 4294967295 (l.take i) < 4294967296 := crcOf_lt _ (by omega)
  generalize crcOf 4294967295 (l.take i) = n at *
  have := crcOf_inj (l.drop (i + 1)) (n := byteStep n y.toNat) (m := byteStep n x.toNat) (byteStep_lt _ _) (byteStep_lt _ _) h
  exact UInt8.toNat_inj.1 (byteStep_injR hlt (u8_lt y) (u8_lt x) this)
end Go.Proofs.Ytpdeodoidlcdoaa

/- Bits filled up with ones, and their bytes. -/
namespace Go.Proofs.Ytpdeodoidlcdoaa
open Go.RowKit

theorem padO_get {L : List Bool} {j : Nat} (h : j < (padO L).length) (d : Bool) : (padO L).getD j d = L.getD j true := by
  unfold padO at h ⊢
  rw [List.getD_eq_getElem?_getD, List.getD_eq_getElem?_getD]
  rcases Nat.lt_or_ge j L.length with h1 | h1
  · rw [List.getElem?_append_left h1, List.getElem?_eq_getElem h1]
    rfl
  · rw [List.getElem?_append_right h1, List.getElem?_eq_none h1]
    rw [List.length_append, List.length_replicate] at h
    rw [List.getElem?_replicate, if_pos (by omega)]
    rfl
theorem padO_len8 (L : List Bool) : (padO L).length = 8 * ((L.length + 7) / 8) := by
  unfold padO
  rw [List.length_append, List.length_replicate]
  omega
theorem pkD_pad (L : List Bool) : pkD true L = pkD false (padO L) := by
  unfold pkD
  have e : ((padO L).length + 7) / 8 = (L.length + 7) / 8 := by rw [padO_len8]; omega
  rw [e]
  apply List.map_congr_left
  intro i hi
  rw [List.mem_range] at hi
  have h8 := padO_len8 L
  congr 1
  unfold byD
  rw [padO_get (by omega), padO_get (by omega), padO_get (by omega), padO_get (by omega), padO_get (by omega), padO_get (by omega), padO_get (by omega), padO_get (by omega)]
/-- Bits that fill bytes need no filling. -/
theorem pkD_full {L : List Bool} (h : L.length % 8 = 0) : pkD true L = pkD false L := by rw [pkD_pad, padO_done h]
theorem bodyC_ref (c : Cue) : pkD true (fieldsL c) = bodyC c := pkD_pad _
theorem headC_ref (n : Nat) : pkD true ((bitsN 252 8 ++ bitsN n 12) ++ bitsN 15 4) = headC n := pkD_full (by simp [bitsN_len])
theorem bitsN_get (n : Nat) (d : Bool) : ∀ k j, j < k → (bitsN n k).getD j d = n.testBit (k - 1 - j)
  | 0, j, h => absurd h (Nat.not_lt_zero _)
  | k + 1, 0, _ => by simp [bitsN]
  | k + 1, j + 1, h => by
    have := bitsN_get n d k j (by omega)
    rw [show k + 1 - 1 - (j + 1) = k - 1 - j by omega, ← this]
    simp [bitsN]
theorem eight (c s : Nat) : b01 (c.testBit (s + 7)) * 128 + b01 (c.testBit (s + 6)) * 64 + b01 (c.testBit (s + 5)) * 32 + b01 (c.testBit (s + 4)) * 16 + b01 (c.testBit (s + 3)) * 8 + b01 (c.testBit (s + 2)) * 4 + b01 (c.testBit (s + 1)) * 2 + b01 (c.testBit (s + 0)) = c / 2 ^ s % 256 := by
  have h (j : Nat) : c / 2 ^ s % 2 ^ (j + 1) = c / 2 ^ s % 2 ^ j + 2 ^ j * b01 (c.testBit (s + j)) := by
    rw [Nat.mod_pow_succ, bit_at, Nat.testBit_div_two_pow, Nat.add_comm j s]
  have h0 := h 0
  have h1 := h 1
  have h2 := h 2
  have h3 := h 3
  have h4 := h 4
  have h5 := h 5
  have h6 := h 6
  have h7 := h 7
  generalize c / 2 ^ s = y at *
  simp only [Nat.reduceAdd, Nat.reducePow, Nat.mod_one] at h0 h1 h2 h3 h4 h5 h6 h7
  omega
theorem byD_sum (c i : Nat) (hi : i < 4) : byD true (bitsN c 32) i = c / 2 ^ (24 - 8 * i) % 256 := by
  unfold byD
  rw [bitsN_get c true 32 _ (by omega), bitsN_get c true 32 _ (by omega), bitsN_get c true 32 _ (by omega), bitsN_get c true 32 _ (by omega), bitsN_get c true 32 _ (by omega), bitsN_get c true 32 _ (by omega), bitsN_get c true 32 _ (by omega), bitsN_get c true 32 _ (by omega)]
  obtain ⟨s, hs⟩ : ∃ s, s = 24 - 8 * i := ⟨_, rfl⟩
  rw [← hs, show 32 - 1 - (8 * i) = s + 7 by omega, show 32 - 1 - (8 * i + 1) = s + 6 by omega, show 32 - 1 - (8 * i + 2) = s + 5 by omega, show 32 - 1 - (8 * i + 3) = s + 4 by omega,
    show 32 - 1 - (8 * i + 4) = s + 3 by omega, show 32 - 1 - (8 * i + 5) = s + 2 by omega, show 32 - 1 - (8 * i + 6) = s + 1 by omega, show 32 - 1 - (8 * i + 7) = s + 0 by omega]
  exact eight c s
theorem sum32 (c : Nat) : pkD true (bitsN c 32) = sumBytes c := by
  have e : pkD true (bitsN c 32) = [UInt8.ofNat (byD true (bitsN c 32) 0), UInt8.ofNat (byD true (bitsN c 32) 1), UInt8.ofNat (byD true (bitsN c 32) 2), UInt8.ofNat (byD true (bitsN c 32) 3)] := by
    unfold pkD
    rw [bitsN_len]
    rfl
  rw [e, byD_sum c 0 (by omega), byD_sum c 1 (by omega), byD_sum c 2 (by omega), byD_sum c 3 (by omega)]
  unfold sumBytes
  have e2 (x : Nat) : UInt8.ofNat (x % 256) = UInt8.ofNat x := by
    rw [← UInt8.toNat_inj, UInt8.toNat_ofNat', UInt8.toNat_ofNat']
    omega
  simp only [Nat.reduceMul, Nat.reduceSub, Nat.reducePow, Nat.div_one, e2]
end Go.Proofs.Ytpdeodoidlcdoaa

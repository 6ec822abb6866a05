/- Bits filled up with ones, and their bytes. -/
import Derived.Test.YtkcnnfgdplccoaaRPk
import Derived.Test.YtkcnnfgdplccoaaCueB
namespace Go.Proofs.Ytkcnnfgdplccoaa
open Go.RowKit

theorem padO_get {L : List Bool} {j : Nat} (h : j < (padO L).length) (d : Bool) : (padO L).getD j d = L.getD j true := by
  unfold padO at h ⊢
  rw [List.getD_eq_getElem?_getD, List.getD_eq_getElem?_getD]
  rcases Nat.lt_or_ge j L.length with h1 | h1
  · rw [List.getElem?_append_left h1, List.getElem?_eq_getElem h1]
    rfl
  · rw [List.getElem?_append_right h1, List.getElem?_eq_none h1]
    rw [List.length_append, List.length_replicate] at h
    rw [List.getElem?_replicate, if_pos (by omega)]
    rfl
theorem padO_len8 (L : List Bool) : (padO L).length = 8 * ((L.length + 7) / 8) := by
  unfold padO
  rw [List.length_append, List.length_replicate]
  omega
theorem pkD_pad (L : List Bool) : pkD true L = pkD false (padO L) := by
  unfold pkD
  have e : ((padO L).length + 7) / 8 = (L.length + 7) / 8 := by rw [padO_len8]; omega
  rw [e]
  apply List.map_congr_left
  intro i hi
  rw [List.mem_range] at hi
  have h8 := padO_len8 L
  congr 1
  unfold byD
  rw [padO_get (by omega), padO_get (by omega), padO_get (by omega), padO_get (by omega), padO_get (by omega), padO_get (by omega), padO_get (by omega), padO_get (by omega)]
/-- Bits that fill bytes need no filling. -/
theorem pkD_full {L : List Bool} (h : L.length % 8 = 0) : pkD true L = pkD false L := by rw [pkD_pad, padO_done h]
theorem bodyC_ref (c : Cue) : pkD true (fieldsL c) = bodyC c := pkD_pad _
theorem headC_ref (n : Nat) : pkD true ((bitsN 252 8 ++ bitsN n 12) ++ bitsN 15 4) = headC n := pkD_full (by simp [bitsN_len])
theorem bitsN_get (n : Nat) (d : Bool) : ∀ k j, j < k → (bitsN n k).getD j d = n.testBit (k - 1 - j)
  | 0, j, h => absurd h (Nat.not_lt_zero _)
  | k + 1, 0, _ => by simp [bitsN]
  | k + 1, j + 1, h => by
    have := bitsN_get n d k j (by omega)
    rw [show k + 1 - 1 - (j + 1) = k - 1 - j by omega, ← this]
    simp [bitsN]
theorem eight (c s : Nat) : b01 (c.testBit (s + 7)) * 128 + b01 (c.testBit (s + 6)) * 64 + b01 (c.testBit (s + 5)) * 32 + b01 (c.testBit (s + 4)) * 16 + b01 (c.testBit (s + 3)) * 8 + b01 (c.testBit (s + 2)) * 4 + b01 (c.testBit (s + 1)) * 2 + b01 (c.testBit (s + 0)) = c / 2 ^ s % 256 := by
  have h (j : Nat) : c / 2 ^ s % 2 ^ (j + 1) = c / 2 ^ s % 2 ^ j + 2 ^ j * b01 (c.testBit (s + j)) := by
    rw [Nat.mod_pow_succ, bit_at, Nat.testBit_div_two_pow, Nat.add_comm j s]
  have h0 := h 0
  have h1 := h 1
  have h2 := h 2
  have h3 := h 3
  have h4 := h 4
  have h5 := h 5
  have h6 := h 6
  have h7 := h 7
  generalize c / 2 ^ s = y at *
  simp only [Nat.reduceAdd, Nat.reducePow, Nat.mod_one] at h0 h1 h2 h3 h4 h5 h6 h7
  omega
theorem byD_sum (c i : Nat) (hi : i < 4) : byD true (bitsN c 32) i = c / 2 ^ (24 - 8 * i) % 256 := by
  unfold byD
  rw [bitsN_get c true 32 _ (by omega), bitsN_get c true 32 _ (by omega), bitsN_get c true 32 _ (by omega), bitsN_get c true 32 _ (by omega), bitsN_get c true 32 _ (by omega), bitsN_get c true 32 _ (by omega), bitsN_get c true 32 _ (by omega), bitsN_get c true 32 _ (by omega)]
  obtain ⟨s, hs⟩ : ∃ s, s = 24 - 8 * i := ⟨_, rfl⟩
  rw [← hs, show 32 - 1 - (8 * i) = s + 7 by omega, show 32 - 1 - (8 * i + 1) = s + 6 by omega, show 32 - 1 - (8 * i + 2) = s + 5 by omega, show 32 - 1 - (8 * i + 3) = s + 4 by omega,
    show 32 - 1 - (8 * i + 4) = s + 3 by omega, show 32 - 1 - (8 * i + 5) = s + 2 by omega, show 32 - 1 - (8 * i + 6) = s + 1 by omega, show 32 - 1 - (8 * i + 7) = s + 0 by omega]
  exact eight c s
theorem sum32 (c : Nat) : pkD true (bitsN c 32) = sumBytes c := by
  have e : pkD true (bitsN c 32) = [UInt8.ofNat (byD true (bitsN c 32) 0), UInt8.ofNat (byD true (bitsN c 32) 1), UInt8.ofNat (byD true (bitsN c 32) 2), UInt8.ofNat (byD true (bitsN c 32) 3)] := by
    unfold pkD
    rw [bitsN_len]
    rfl
  rw [e, byD_sum c 0 (by omega), byD_sum c 1 (by omega), byD_sum c 2 (by omega), byD_sum c 3 (by omega)]
  unfold sumBytes
  have e2 (x : Nat) : UInt8.ofNat (x % 256) = UInt8.ofNat x := by
    rw [← UInt8.toNat_inj, UInt8.toNat_ofNat', UInt8.toNat_ofNat']
    omega
  simp only [Nat.reduceMul, Nat.reduceSub, Nat.reducePow, Nat.div_one, e2]
end Go.Proofs.Ytkcnnfgdplccoaa

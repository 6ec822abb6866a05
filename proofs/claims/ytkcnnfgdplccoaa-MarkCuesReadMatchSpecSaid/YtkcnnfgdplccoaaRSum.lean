/- Sum of the reference: bit by bit. -/
import Derived.Test.YtkcnnfgdplccoaaPut
namespace Go.Proofs.Ytkcnnfgdplccoaa
open Go.RowKit

/-- One bit more. -/
def refStep (n t : Nat) : Nat := if n / 2147483648 ≠ t then (n * 2 % 4294967296) ^^^ 79764919 else n * 2 % 4294967296
theorem refStep_lt (n t : Nat) : refStep n t < 4294967296 := by
  unfold refStep
  split
  · exact xor_lt32 (by omega) (by omega)
  · omega
theorem xor_dbl (a b : Nat) : (a ^^^ b) * 2 % 4294967296 = (a * 2 % 4294967296) ^^^ (b * 2 % 4294967296) := by
  have h1 : (a ^^^ b) <<< 1 = (a <<< 1) ^^^ (b <<< 1) := Nat.shiftLeft_xor_distrib
  rw [Nat.shiftLeft_eq, Nat.shiftLeft_eq, Nat.shiftLeft_eq, Nat.pow_one] at h1
  have h2 : ((a * 2) ^^^ (b * 2)) % 2 ^ 32 = (a * 2) % 2 ^ 32 ^^^ (b * 2) % 2 ^ 32 := Nat.xor_mod_two_pow
  rw [h1]
  exact h2
theorem xor_hi (a b : Nat) : (a ^^^ b) / 2147483648 = a / 2147483648 ^^^ b / 2147483648 := by
  have h : (a ^^^ b) / 2 ^ 31 = a / 2 ^ 31 ^^^ b / 2 ^ 31 := Nat.xor_div_two_pow
  exact h
theorem step_xor {a b : Nat} (ha : a < 4294967296) (hb : b < 4294967296) : bitStep (a ^^^ b) = refStep a (b / 2147483648) ^^^ (b * 2 % 4294967296) := by
  unfold bitStep refStep
  rw [xor_hi, xor_dbl]
  have h1 : a / 2147483648 = 0 ∨ a / 2147483648 = 1 := by omega
  have h2 : b / 2147483648 = 0 ∨ b / 2147483648 = 1 := by omega
  generalize a * 2 % 4294967296 = A
  generalize b * 2 % 4294967296 = B
  rcases h1 with h1 | h1 <;> rcases h2 with h2 | h2 <;> rw [h1, h2]
  · rfl
  · show (A ^^^ B) ^^^ 79764919 = (A ^^^ 79764919) ^^^ B
    rw [Nat.xor_assoc, Nat.xor_comm B, ← Nat.xor_assoc]
  · show (A ^^^ B) ^^^ 79764919 = (A ^^^ 79764919) ^^^ B
    rw [Nat.xor_assoc, Nat.xor_comm B, ← Nat.xor_assoc]
  · rfl
/-- j bits of a byte, the highest first. -/
def refBits (n c : Nat) : Nat → Nat
  | 0 => n
  | j + 1 => refStep (refBits n c j) (c / 2 ^ (7 - j) % 2)
theorem refBits_lt {n c : Nat} (hn : n < 4294967296) : ∀ j, refBits n c j < 4294967296
  | 0 => hn
  | _ + 1 => refStep_lt _ _
theorem top_bit {c j : Nat} (hc : c < 256) (hj : j < 8) : (c * 2 ^ (24 + j) % 4294967296) / 2147483648 = c / 2 ^ (7 - j) % 2 := by
  have h : j = 0 ∨ j = 1 ∨ j = 2 ∨ j = 3 ∨ j = 4 ∨ j = 5 ∨ j = 6 ∨ j = 7 := by omega
  rcases h with rfl | rfl | rfl | rfl | rfl | rfl | rfl | rfl <;> simp only [Nat.reduceAdd, Nat.reducePow, Nat.reduceSub] <;> omega
theorem bits_xor {n c : Nat} (hn : n < 4294967296) (hc : c < 256) : ∀ j, j ≤ 8 → iterN bitStep j (n ^^^ (c * 16777216)) = refBits n c j ^^^ (c * 2 ^ (24 + j) % 4294967296)
  | 0, _ => by
    show n ^^^ (c * 16777216) = n ^^^ (c * 2 ^ 24 % 4294967296)
    congr 1
    simp only [Nat.reducePow]
    omega
  | j + 1, hj => by
    show bitStep (iterN bitStep j _) = _
    rw [bits_xor hn hc j (by omega), step_xor (refBits_lt hn j) (Nat.mod_lt _ (by omega)), top_bit hc (by omega)]
    show refStep (refBits n c j) _ ^^^ _ = refStep (refBits n c j) _ ^^^ _
    congr 1
    have e : 2 ^ (24 + (j + 1)) = 2 ^ (24 + j) * 2 := by rw [← Nat.add_assoc, Nat.pow_succ]
    rw [e, ← Nat.mul_assoc]
    generalize c * 2 ^ (24 + j) = X
    omega
theorem refBits_byte {n c : Nat} (hn : n < 4294967296) (hc : c < 256) : refBits n c 8 = byteStep n c := by
  have h := bits_xor hn hc 8 (Nat.le_refl _)
  unfold byteStep
  rw [h]
  have e : c * 2 ^ (24 + 8) % 4294967296 = 0 := by simp only [Nat.reduceAdd, Nat.reducePow]; omega
  rw [e, Nat.xor_zero]

theorem xor64 (a b : Nat) (ha : a < 4294967296) (hb : b < 4294967296) : bits .xor .i64 (a : Int) (b : Int) = ((a ^^^ b : Nat) : Int) := by
  have hx := xor_lt32 ha hb
  show IntKind.i64.wrap ((BitVec.ofInt 64 (a : Int) ^^^ BitVec.ofInt 64 (b : Int)).toNat : Int) = _
  rw [BitVec.toNat_xor, ofInt_64 a (by omega), ofInt_64 b (by omega), IntKind.wrap_i64]
  omega

set_option maxRecDepth 100000 in
set_option maxHeartbeats 2000000 in
theorem sumR_any (w : World) (l : List UInt8) (v : Value) (hl : Sl w 1 encU v l) :
    Calls Try.prog 12 #[v] w fun e w' => e = .returned (.int .i64 (crc l : Nat)) ∧ w = w' := by
  obtain ⟨ao, cap, rfl, hcap, hmax, hnil, hel⟩ := hl
  unfold maxLen at hmax
  have HEL := Lib.hid hel
  have HCR : Hid (crc l = crcOf 4294967295 (l.take l.length)) := Lib.hid (by rw [List.take_length]; rfl)
  generalize crc l = R at HCR ⊢
  clear hel
  go_enter Try.func12, Try.ntmps12
  go_wp2
  go_loopg [3, 4] l.length (fun gg s3 s4 wr => ∃ (n i : Nat), i ≤ l.length ∧ l.length - i ≤ gg ∧ s4 = .int .i64 i ∧ s3 = .int .i64 (n : Int) ∧ Aside (n = crcOf 4294967295 (l.take i)) ∧ n < 4294967296 ∧ w = wr)
  case atStart => exact ⟨4294967295, 0, Nat.zero_le _, by omega, rfl, rfl, (show Aside _ from rfl), by omega, rfl⟩
  obtain ⟨n, i, hi, hg, rfl, rfl, N, hn1, rfl⟩ := hrel
  have HN := Lib.hid N.out
  by_cases hlt : i < l.length
  · have hltz : (i : Int) < (l.length : Int) := by omega
    obtain ⟨x, hx⟩ : ∃ x, l[i]? = some x := ⟨l[i], by simp [hlt]⟩
    obtain ⟨b, off, hao, hc⟩ := HEL.out i x hx
    subst hao
    have c0 : w.cell? ⟨b, off + i, none⟩ = some (.int .u8 x.toNat) := by simpa using hc 0 _ rfl
    have HX := Lib.hid hx
    have hxl : x.toNat < 256 := x.toNat_lt
    obtain ⟨cc, hcc⟩ : ∃ cc, cc = x.toNat := ⟨_, rfl⟩
    rw [← hcc] at c0 hxl
    have HCC := Lib.hid hcc
    clear hx hc N hcc
    go_wp2
    go_loopg [3, 5] 8 (fun gg s3 s5 wr => ∃ (m j : Nat) (z : Int), j ≤ 8 ∧ 8 - j ≤ gg ∧ s5 = .int .i64 z ∧ -1 ≤ z ∧ z ≤ 7 ∧ Aside (z = 7 - (j : Int)) ∧ s3 = .int .i64 (m : Int) ∧ Aside (m = refBits n cc j) ∧ m < 4294967296 ∧ w = wr)
    case atStart => exact ⟨n, 0, 7, by omega, by omega, rfl, by omega, by omega, (show _ = _ by omega), rfl, (show Aside _ from rfl), hn1, rfl⟩
    obtain ⟨m, j, z, hj, hgj, rfl, hz1, hz2, HZ, rfl, M, hm1, rfl⟩ := hrel
    have HM := Lib.hid M.out
    have hz := HZ.out
    clear M HZ
    by_cases hlj : j < 8
    · obtain ⟨k, hk⟩ : ∃ k : Nat, k = 7 - j := ⟨_, rfl⟩
      obtain rfl : z = (k : Int) := by omega
      have hk7 : k ≤ 7 := by omega
      have HK := Lib.hid hk
      have hdk : (cc : Int) / 2 ^ k = ((cc / 2 ^ k : Nat) : Int) := by rw [Int.natCast_ediv]; simp
      have hmk : ((cc / 2 ^ k : Nat) : Int) % 2 = ((cc / 2 ^ k % 2 : Nat) : Int) := by omega
      have hd64 : (k : Int) ≤ 64 := by omega
      have hp1 : cc / 2 ^ k % 2 < 2 := Nat.mod_lt _ (by omega)
      have hd0 : (0 : Int) ≤ (k : Int) := Int.natCast_nonneg _
      obtain ⟨t, ht⟩ : ∃ t, t = cc / 2 ^ k % 2 := ⟨_, rfl⟩
      rw [← ht] at hmk hp1
      rw [← hdk] at hmk
      have hdc : (0 : Int) ≤ (cc : Int) / 2 ^ k := by rw [hdk]; exact Int.natCast_nonneg _
      have hmt : ((cc : Int) / 2 ^ k).tmod 2 = (t : Int) := by rw [Int.tmod_eq_emod_of_nonneg hdc]; exact hmk
      clear hdk
      have HST : Hid (refBits n cc (j + 1) = refStep m t) := Lib.hid (by show refStep _ _ = _; rw [← HM.out, ← hk, ← ht])
      have hdl : cc / 2 ^ k ≤ cc := Nat.div_le_self _ _
      have hx3 : bits .xor .i64 ((m : Int) * 2 % 4294967296) 79764919 = (((m * 2 % 4294967296) ^^^ 79764919 : Nat) : Int) := by
        have hmm : (m : Int) * 2 % 4294967296 = ((m * 2 % 4294967296 : Nat) : Int) := by omega
        rw [hmm]; exact xor64 _ 79764919 (by omega) (by omega)
      clear hz hk ht
      by_cases hne : m / 2147483648 ≠ t
      · have hb : ((m : Int) / 2147483648 != (t : Int)) = true := by simp; omega
        have HV : Hid (refBits n cc (j + 1) = (m * 2 % 4294967296) ^^^ 79764919) := Lib.hid (by rw [HST.out]; unfold refStep; rw [if_pos hne])
        have hvl : (m * 2 % 4294967296) ^^^ 79764919 < 4294967296 := xor_lt32 (by omega) (by omega)
        clear hne
        go_wp2
        go_roundg (8 - (j + 1))
        case measure => omega
        case rel => exact ⟨_, j + 1, (k : Int) - 1, by omega, by omega, by go_num, by omega, by omega, (show _ = _ by have := HK.out; omega), rfl, HV.out.symm, hvl, rfl⟩
      · have hb : ((m : Int) / 2147483648 != (t : Int)) = false := by simp; omega
        have HV : Hid (refBits n cc (j + 1) = m * 2 % 4294967296) := Lib.hid (by rw [HST.out]; unfold refStep; rw [if_neg hne])
        clear hne
        go_wp2
        go_roundg (8 - (j + 1))
        case measure => omega
        case rel => exact ⟨m * 2 % 4294967296, j + 1, (k : Int) - 1, by omega, by omega, by go_num, by omega, by omega, (show _ = _ by have := HK.out; omega), by simp, HV.out.symm, by omega, rfl⟩
    · obtain rfl : j = 8 := by omega
      obtain rfl : z = -1 := by omega
      have HB8 : Hid (m = crcOf 4294967295 (l.take (i + 1))) := Lib.hid (by rw [crcOf_take HX.out, ← HN.out, ← HCC.out, ← refBits_byte hn1 hxl]; exact HM.out)
      go_wp2
      go_roundg (l.length - (i + 1))
      case measure => omega
      case rel => exact ⟨m, i + 1, by omega, by omega, by go_num, rfl, HB8.out, hm1, rfl⟩
  · obtain rfl : i = l.length := by omega
    have hv : Hid ((n : Int) = (R : Int)) := Lib.hid (by rw [HCR.out, ← HN.out])
    clear N
    go_wp2
    go_ret
    exact ⟨ret_int hv.out, rfl⟩
end Go.Proofs.Ytkcnnfgdplccoaa

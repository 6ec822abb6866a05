/- What bytes say as a cue; plain. -/
import Derived.Test.YtkcnnfgdplccoaaPutF
namespace Go.Proofs.Ytkcnnfgdplccoaa
open Go.RowKit

/-- The bit number i of bytes. -/
def bitAt (l : List UInt8) (i : Nat) : Bool := (l.getD (i / 8) 0).toNat.testBit (7 - i % 8)
/-- What k bits from a place on say. -/
def numB (l : List UInt8) (a : Nat) : Nat → Nat
  | 0 => 0
  | k + 1 => numB l a k * 2 + b01 (bitAt l (a + k))
theorem numB_lt (l : List UInt8) (a : Nat) : ∀ k, numB l a k < 2 ^ k
  | 0 => by simp [numB]
  | k + 1 => by
    have h := numB_lt l a k
    have hb := b01_lt (bitAt l (a + k))
    rw [numB, Nat.pow_succ]
    omega
theorem numB_le (l : List UInt8) (a : Nat) {k : Nat} (hk : k ≤ 33) : numB l a k < 8589934592 :=
  Nat.lt_of_lt_of_le (numB_lt l a k) (Nat.le_trans (Nat.pow_le_pow_right (by omega) hk) (by decide))

def zeroC : Cue := ⟨0, 0, false, 0, 0, false⟩
def timedB (k : Nat) : Bool := (k == 1) || (k == 2)
/-- How many bytes follow the first three. -/
def sizeC (k : Nat) (now : Bool) : Nat := if k = 0 then 5 else if k = 3 then 9 else if k = 2 then (if now then 9 else 13) else (if now then 13 else 17)
def kindC (l : List UInt8) : Nat := numB l 24 3
def nowC (l : List UInt8) : Bool := timedB (kindC l) && bitAt l 59
def rightC (l : List UInt8) (n : Nat) : Bool := decide (kindC l ≤ 3) && (n == sizeC (kindC l) (nowC l))
/-- Behind the time. -/
def lastC (now : Bool) : Nat := if now then 60 else 93
def endC (k : Nat) (now : Bool) : Nat := if k = 0 then 27 else if k = 3 then 59 else if k = 2 then lastC now else lastC now + 34
def cueRd (l : List UInt8) : Cue :=
  { ki := kindC l, ev := if kindC l = 0 then 0 else numB l 27 32, no := nowC l, ti := if timedB (kindC l) && !nowC l then numB l 60 33 else 0,
    le := if kindC l = 1 then numB l (lastC (nowC l) + 1) 33 else 0, au := (kindC l == 1) && bitAt l (lastC (nowC l)) }
/-- The first bit of 0. -/
def badAt (l : List UInt8) (a : Nat) : Nat → Option Nat
  | 0 => none
  | m + 1 => if bitAt l a = true then badAt l (a + 1) m else some a
structure CueAns where
  cue : Cue
  at_ : Int
  fault : Int
def tailC (l : List UInt8) (c : Cue) : CueAns :=
  if crc l ≠ 0 then ⟨zeroC, 0, 15⟩ else if checkC c ≠ 0 then ⟨zeroC, 0, checkC c⟩ else ⟨c, 0, 0⟩
def fillO (t : CueAns) : Option Nat → CueAns
  | some i => ⟨zeroC, (i / 8 : Nat), 10⟩
  | none => t
def fillC (l : List UInt8) (a m : Nat) : CueAns := fillO (tailC l (cueRd l)) (badAt l a m)
def bodyRd (l : List UInt8) (n : Nat) : CueAns :=
  if rightC l n = false then ⟨zeroC, 1, 10⟩ else if numB l 20 4 ≠ 15 then ⟨zeroC, 2, 10⟩ else fillC l (endC (kindC l) (nowC l)) (8 * (n - 1) - endC (kindC l) (nowC l))
def headRd (l : List UInt8) (n : Nat) : CueAns :=
  if l.length < 3 + n then ⟨zeroC, l.length, 10⟩ else if 3 + n < l.length then ⟨zeroC, (3 + n : Nat), 10⟩ else bodyRd l n
/-- What bytes say: the cue, the place of the fault, the fault. -/
def readC (l : List UInt8) : CueAns :=
  if 300 < l.length then ⟨zeroC, 0, 2⟩ else if l.length < 3 then ⟨zeroC, l.length, 10⟩ else if l.getD 0 0 ≠ 252 then ⟨zeroC, 0, 10⟩ else headRd l (numB l 8 12)

theorem numB_add (l : List UInt8) (a j : Nat) : ∀ k, numB l a (j + k) = numB l a j * 2 ^ k + numB l (a + j) k
  | 0 => by simp [numB]
  | k + 1 => by
    rw [← Nat.add_assoc, numB, numB_add l a j k, numB, Nat.pow_succ, ← Nat.mul_assoc, Nat.add_mul, Nat.add_assoc, Nat.add_assoc]
theorem numB_in (l : List UInt8) (q s : Nat) : ∀ k, s + k ≤ 8 → numB l (8 * q + s) k = (l.getD q 0).toNat / 2 ^ (8 - s - k) % 2 ^ k
  | 0, _ => by simp [numB, Nat.mod_one]
  | k + 1, h => by
    rw [numB, numB_in l q s k (by omega)]
    have hb : bitAt l (8 * q + s + k) = (l.getD q 0).toNat.testBit (8 - s - (k + 1)) := by
      unfold bitAt
      have e1 : (8 * q + s + k) / 8 = q := by omega
      have e2 : 7 - (8 * q + s + k) % 8 = 8 - s - (k + 1) := by omega
      rw [e1, e2]
    rw [hb]
    generalize (l.getD q 0).toNat = B
    obtain ⟨m, hm⟩ : ∃ m, m = 8 - s - (k + 1) := ⟨_, rfl⟩
    have e3 : 8 - s - k = m + 1 := by omega
    rw [← hm, e3]
    have hbit : b01 (B.testBit m) = B / 2 ^ m % 2 := by
      rw [Nat.testBit_eq_decide_div_mod_eq]
      have : B / 2 ^ m % 2 < 2 := Nat.mod_lt _ (by omega)
      unfold b01
      by_cases h : B / 2 ^ m % 2 = 1
      · simp [h]
      · have h0 : B / 2 ^ m % 2 = 0 := by omega
        simp [h0]
    rw [hbit, Nat.pow_succ 2 m, ← Nat.div_div_eq_div_mul, Nat.pow_succ 2 k, Nat.mul_comm (2 ^ k) 2, Nat.mod_mul]
    omega
theorem len_bits (l : List UInt8) : numB l 8 12 = (l.getD 1 0).toNat * 16 + (l.getD 2 0).toNat / 16 := by
  have h1 := numB_add l 8 8 4
  have h2 := numB_in l 1 0 8 (by omega)
  have h3 := numB_in l 2 0 4 (by omega)
  have hb := (l.getD 1 0).toNat_lt
  have hc := (l.getD 2 0).toNat_lt
  simp only [Nat.reduceAdd, Nat.reduceMul, Nat.reduceSub, Nat.reducePow, Nat.div_one] at h1 h2 h3
  rw [h1, h2, h3]
  omega
theorem ones_bits (l : List UInt8) : numB l 20 4 = (l.getD 2 0).toNat % 16 := by
  have h3 := numB_in l 2 4 4 (by omega)
  simp only [Nat.reduceAdd, Nat.reduceMul, Nat.reduceSub, Nat.reducePow, Nat.div_one] at h3
  exact h3
theorem badAt_next {l : List UInt8} {a m : Nat} (h : bitAt l a = true) (hm : 0 < m) : badAt l a m = badAt l (a + 1) (m - 1) := by
  obtain ⟨k, rfl⟩ : ∃ k, m = k + 1 := ⟨m - 1, by omega⟩
  simp [badAt, h]
theorem badAt_hit {l : List UInt8} {a m : Nat} (h : bitAt l a = false) (hm : 0 < m) : badAt l a m = some a := by
  obtain ⟨k, rfl⟩ : ∃ k, m = k + 1 := ⟨m - 1, by omega⟩
  simp [badAt, h]
theorem endC_le {k n : Nat} {now : Bool} (hk : k ≤ 3) (h : n = sizeC k now) : endC k now ≤ 8 * (n - 1) := by
  subst h
  unfold sizeC endC lastC
  have : k = 0 ∨ k = 1 ∨ k = 2 ∨ k = 3 := by omega
  rcases this with rfl | rfl | rfl | rfl <;> cases now <;> simp
end Go.Proofs.Ytkcnnfgdplccoaa

/- What stands behind %, plain. -/
import Derived.Test.YtmgbmoiefgfemaaDoorDgL
import Derived.Test.YtmgbmoiefgfemaaDoorNameE
import Derived.Lib.Bytealg
namespace Go.Proofs.YtmgbmoiefgfemaaDoor
open Go.RowKit

def hexV (c : UInt8) : Option Nat :=
  if 48 ≤ c.toNat ∧ c.toNat ≤ 57 then some (c.toNat - 48) else if 65 ≤ c.toNat ∧ c.toNat ≤ 70 then some (c.toNat - 55) else if 97 ≤ c.toNat ∧ c.toNat ≤ 102 then some (c.toNat - 87) else none
def hexI (c : UInt8) : Int := match hexV c with | some n => (n : Int) | none => -1
/-- A byte that is written as it is. -/
def comU (c : UInt8) : Bool := (decide (65 ≤ c.toNat) && decide (c.toNat ≤ 90)) || (decide (97 ≤ c.toNat) && decide (c.toNat ≤ 122)) || (decide (48 ≤ c.toNat) && decide (c.toNat ≤ 57)) || decide (0 ≤ Lib.indexByte [45, 46, 95, 126] c)
def digU (n : Nat) : UInt8 := if n < 10 then UInt8.ofNat (48 + n) else UInt8.ofNat (55 + n)
/-- A byte as it is written. -/
def pctU (n : Nat) : List UInt8 := if comU (UInt8.ofNat n) = true then [UInt8.ofNat n] else [37, digU (n / 16), digU (n % 16)]
def decG : List UInt8 → Option (List UInt8)
  | [] => some []
  | c :: r =>
    if c = 37 then
      match r with
      | a :: b :: t => match hexV a, hexV b with
        | some x, some y => (decG t).map (pctU (16 * x + y) ++ ·)
        | _, _ => none
      | _ => none
    else (decG r).map (c :: ·)
theorem hexV_lt {c : UInt8} {n : Nat} (h : hexV c = some n) : n < 16 := by
  unfold hexV at h
  split at h
  · cases h; omega
  · split at h
    · cases h; omega
    · split at h
      · cases h; omega
      · cases h
theorem hexI_lt (c : UInt8) : hexI c < 16 ∧ -1 ≤ hexI c := by
  unfold hexI
  cases h : hexV c with
  | none => simp
  | some n => have := hexV_lt h; simp; omega
theorem decG_as {c : UInt8} (r : List UInt8) (h : c ≠ 37) : decG (c :: r) = (decG r).map (c :: ·) := by
  rw [decG.eq_def]
  simp only
  rw [if_neg h]
theorem decG_pct {a b : UInt8} {x y : Nat} (t : List UInt8) (hx : hexV a = some x) (hy : hexV b = some y) : decG (37 :: a :: b :: t) = (decG t).map (pctU (16 * x + y) ++ ·) := by
  rw [decG.eq_def]
  simp only
  rw [if_pos trivial]
  simp only [hx, hy]
theorem decG_no {a b : UInt8} (t : List UInt8) (h : hexV a = none ∨ hexV b = none) : decG (37 :: a :: b :: t) = none := by
  rw [decG.eq_def]
  simp only
  rw [if_pos trivial]
  rcases h with h | h
  · simp only [h]
  · cases hexV a <;> simp only [h]
theorem decG_short {r : List UInt8} (h : r.length < 2) : decG (37 :: r) = none := by
  rw [decG.eq_def]
  simp only
  rw [if_pos trivial]
  match r, h with
  | [], _ => rfl
  | [_], _ => rfl
theorem hexI_neg {c : UInt8} : hexI c < 0 ↔ hexV c = none := by
  unfold hexI
  cases h : hexV c with
  | none => simp
  | some n => simp
theorem hexI_some {c : UInt8} {n : Nat} (h : hexV c = some n) : hexI c = n := by unfold hexI; rw [h]
theorem pctU_len (n : Nat) : (pctU n).length ≤ 3 := by
  unfold pctU
  split <;> simp
theorem decG_len : ∀ (n : Nat) (l m : List UInt8), l.length ≤ n → decG l = some m → m.length ≤ l.length
  | _, [], m, _, h => by rw [decG] at h; cases h; simp
  | 0, c :: r, m, hn, h => by simp at hn
  | n + 1, c :: r, m, hn, h => by
    by_cases e : c = 37
    · subst e
      match r, hn, h with
      | [], _, h => rw [decG_short (by simp)] at h; cases h
      | [_], _, h => rw [decG_short (by simp)] at h; cases h
      | a :: b :: t, hn, h =>
        cases ha : hexV a with
        | none => rw [decG_no t (.inl ha)] at h; cases h
        | some x =>
          cases hb : hexV b with
          | none => rw [decG_no t (.inr hb)] at h; cases h
          | some y =>
            rw [decG_pct t ha hb] at h
            cases ht : decG t with
            | none => rw [ht] at h; cases h
            | some t' =>
              rw [ht] at h
              cases h
              have h1 := decG_len n t t' (by simp at hn; omega) ht
              have h2 := pctU_len (16 * x + y)
              simp
              omega
    · rw [decG_as r e] at h
      cases ht : decG r with
      | none => rw [ht] at h; cases h
      | some t' =>
        rw [ht] at h
        cases h
        have h1 := decG_len n r t' (by simp at hn; omega) ht
        simp
        omega
theorem chr_nat {s : ByteArray} {i : Nat} {c : UInt8} (h : s.data.toList[i]? = some c) : chr s i = (c.toNat : Int) := by
  have hi : i < s.size := by
    have := (List.getElem?_eq_some_iff.1 h).1
    rwa [Array.length_toList] at this
  rw [← chr_of hi]
  have e : s[i]'hi = c := by
    rw [Array.getElem?_toList] at h
    have := (Array.getElem?_eq_some_iff.1 h).2
    exact this
  rw [e]
end Go.Proofs.YtmgbmoiefgfemaaDoor

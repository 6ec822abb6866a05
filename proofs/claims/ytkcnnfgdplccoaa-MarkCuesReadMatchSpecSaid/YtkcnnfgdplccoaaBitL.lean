/- Lists of bits, and the bytes that hold them; plain. -/
import Derived.Test.YtkcnnfgdplccoaaLib
namespace Go.Proofs.Ytkcnnfgdplccoaa
open Go.RowKit

def b01 (b : Bool) : Nat := if b then 1 else 0
theorem b01_lt (b : Bool) : b01 b < 2 := by cases b <;> decide
/-- The byte number i of bits; d: what stands behind the last one. -/
def byD (d : Bool) (L : List Bool) (i : Nat) : Nat :=
  b01 (L.getD (8 * i) d) * 128 + b01 (L.getD (8 * i + 1) d) * 64 + b01 (L.getD (8 * i + 2) d) * 32 + b01 (L.getD (8 * i + 3) d) * 16 + b01 (L.getD (8 * i + 4) d) * 8 + b01 (L.getD (8 * i + 5) d) * 4 + b01 (L.getD (8 * i + 6) d) * 2 + b01 (L.getD (8 * i + 7) d)
theorem byD_lt (d : Bool) (L : List Bool) (i : Nat) : byD d L i < 256 := by
  unfold byD
  have h0 := b01_lt (L.getD (8 * i) d)
  have h1 := b01_lt (L.getD (8 * i + 1) d)
  have h2 := b01_lt (L.getD (8 * i + 2) d)
  have h3 := b01_lt (L.getD (8 * i + 3) d)
  have h4 := b01_lt (L.getD (8 * i + 4) d)
  have h5 := b01_lt (L.getD (8 * i + 5) d)
  have h6 := b01_lt (L.getD (8 * i + 6) d)
  have h7 := b01_lt (L.getD (8 * i + 7) d)
  omega
/-- The bytes of bits. -/
def pkD (d : Bool) (L : List Bool) : List UInt8 := (List.range ((L.length + 7) / 8)).map fun i => UInt8.ofNat (byD d L i)
theorem pkD_len (d : Bool) (L : List Bool) : (pkD d L).length = (L.length + 7) / 8 := by simp [pkD]
theorem pkD_get {d : Bool} {L : List Bool} {i : Nat} (h : i < (L.length + 7) / 8) : (pkD d L)[i]? = some (UInt8.ofNat (byD d L i)) := by
  unfold pkD
  rw [List.getElem?_map, List.getElem?_range h]
  rfl
theorem getD_out {L : List Bool} {d : Bool} {i : Nat} (h : L.length ≤ i) : L.getD i d = d := by
  rw [List.getD_eq_getElem?_getD, List.getElem?_eq_none h]; rfl
theorem getD_app {L : List Bool} {d t : Bool} {i : Nat} (h : i ≠ L.length) : (L ++ [t]).getD i d = L.getD i d := by
  rcases Nat.lt_or_ge i L.length with h1 | h1
  · simp only [List.getD_eq_getElem?_getD, List.getElem?_append_left h1]
  · rw [getD_out h1, getD_out (by simp; omega)]
theorem getD_last {L : List Bool} {d t : Bool} : (L ++ [t]).getD L.length d = t := by
  simp [List.getD_eq_getElem?_getD]
/-- The byte of a bit that is set alone. -/
def onB (t : Bool) (r : Nat) : Nat := b01 t * 2 ^ (7 - r)
theorem or_add {a b k : Nat} (ha : a % 2 ^ k = 0) (hb : b < 2 ^ k) : a ||| b = a + b := by
  have h := Nat.two_pow_add_eq_or_of_lt hb (a / 2 ^ k)
  have e : 2 ^ k * (a / 2 ^ k) = a := by rw [Nat.mul_comm]; exact Nat.div_mul_cancel (Nat.dvd_of_mod_eq_zero ha)
  rw [e] at h
  exact h.symm
theorem byD_other {d t : Bool} {L : List Bool} {i : Nat} (h : i ≠ L.length / 8) : byD d (L ++ [t]) i = byD d L i := by
  unfold byD
  rw [getD_app (by omega), getD_app (by omega), getD_app (by omega), getD_app (by omega), getD_app (by omega), getD_app (by omega), getD_app (by omega), getD_app (by omega)]
theorem byD_last {t : Bool} {L : List Bool} : byD false (L ++ [t]) (L.length / 8) = byD false L (L.length / 8) ||| onB t (L.length % 8) := by
  have hz : ∀ i, L.length ≤ i → b01 (L.getD i false) = 0 := fun i hi => by rw [getD_out hi]; rfl
  have hr : L.length % 8 < 8 := Nat.mod_lt _ (by omega)
  have hl : L.length = 8 * (L.length / 8) + L.length % 8 := by omega
  generalize hq : L.length / 8 = q at *
  generalize hrr : L.length % 8 = r at *
  have hs := fun i (h : i ≠ L.length) => getD_app (L := L) (d := false) (t := t) h
  have ht : (L ++ [t]).getD (8 * q + r) false = t := by rw [← hl]; exact getD_last
  have h0 := b01_lt (L.getD (8 * q) false)
  have h1 := b01_lt (L.getD (8 * q + 1) false)
  have h2 := b01_lt (L.getD (8 * q + 2) false)
  have h3 := b01_lt (L.getD (8 * q + 3) false)
  have h4 := b01_lt (L.getD (8 * q + 4) false)
  have h5 := b01_lt (L.getD (8 * q + 5) false)
  have h6 := b01_lt (L.getD (8 * q + 6) false)
  have hb := b01_lt t
  have hR : r = 0 ∨ r = 1 ∨ r = 2 ∨ r = 3 ∨ r = 4 ∨ r = 5 ∨ r = 6 ∨ r = 7 := by omega
  unfold byD onB
  rcases hR with rfl | rfl | rfl | rfl | rfl | rfl | rfl | rfl
  · rw [hs (8 * q + 1) (by omega), hs (8 * q + 2) (by omega), hs (8 * q + 3) (by omega), hs (8 * q + 4) (by omega), hs (8 * q + 5) (by omega), hs (8 * q + 6) (by omega), hs (8 * q + 7) (by omega), show 8 * q = 8 * q + 0 by omega, ht,
      hz (8 * q + 0) (by omega), hz (8 * q + 0 + 1) (by omega), hz (8 * q + 0 + 2) (by omega), hz (8 * q + 0 + 3) (by omega), hz (8 * q + 0 + 4) (by omega), hz (8 * q + 0 + 5) (by omega), hz (8 * q + 0 + 6) (by omega), hz (8 * q + 0 + 7) (by omega),
      or_add (k := 8) (by omega) (by simp; omega)]
    simp
  · rw [hs (8 * q) (by omega), hs (8 * q + 2) (by omega), hs (8 * q + 3) (by omega), hs (8 * q + 4) (by omega), hs (8 * q + 5) (by omega), hs (8 * q + 6) (by omega), hs (8 * q + 7) (by omega), ht,
      hz (8 * q + 1) (by omega), hz (8 * q + 2) (by omega), hz (8 * q + 3) (by omega), hz (8 * q + 4) (by omega), hz (8 * q + 5) (by omega), hz (8 * q + 6) (by omega), hz (8 * q + 7) (by omega),
      or_add (k := 7) (by omega) (by simp; omega)]
    simp
  · rw [hs (8 * q) (by omega), hs (8 * q + 1) (by omega), hs (8 * q + 3) (by omega), hs (8 * q + 4) (by omega), hs (8 * q + 5) (by omega), hs (8 * q + 6) (by omega), hs (8 * q + 7) (by omega), ht,
      hz (8 * q + 2) (by omega), hz (8 * q + 3) (by omega), hz (8 * q + 4) (by omega), hz (8 * q + 5) (by omega), hz (8 * q + 6) (by omega), hz (8 * q + 7) (by omega),
      or_add (k := 6) (by omega) (by simp; omega)]
    simp
  · rw [hs (8 * q) (by omega), hs (8 * q + 1) (by omega), hs (8 * q + 2) (by omega), hs (8 * q + 4) (by omega), hs (8 * q + 5) (by omega), hs (8 * q + 6) (by omega), hs (8 * q + 7) (by omega), ht,
      hz (8 * q + 3) (by omega), hz (8 * q + 4) (by omega), hz (8 * q + 5) (by omega), hz (8 * q + 6) (by omega), hz (8 * q + 7) (by omega),
      or_add (k := 5) (by omega) (by simp; omega)]
    simp
  · rw [hs (8 * q) (by omega), hs (8 * q + 1) (by omega), hs (8 * q + 2) (by omega), hs (8 * q + 3) (by omega), hs (8 * q + 5) (by omega), hs (8 * q + 6) (by omega), hs (8 * q + 7) (by omega), ht,
      hz (8 * q + 4) (by omega), hz (8 * q + 5) (by omega), hz (8 * q + 6) (by omega), hz (8 * q + 7) (by omega),
      or_add (k := 4) (by omega) (by simp; omega)]
    simp
  · rw [hs (8 * q) (by omega), hs (8 * q + 1) (by omega), hs (8 * q + 2) (by omega), hs (8 * q + 3) (by omega), hs (8 * q + 4) (by omega), hs (8 * q + 6) (by omega), hs (8 * q + 7) (by omega), ht,
      hz (8 * q + 5) (by omega), hz (8 * q + 6) (by omega), hz (8 * q + 7) (by omega),
      or_add (k := 3) (by omega) (by simp; omega)]
    simp
  · rw [hs (8 * q) (by omega), hs (8 * q + 1) (by omega), hs (8 * q + 2) (by omega), hs (8 * q + 3) (by omega), hs (8 * q + 4) (by omega), hs (8 * q + 5) (by omega), hs (8 * q + 7) (by omega), ht,
      hz (8 * q + 6) (by omega), hz (8 * q + 7) (by omega),
      or_add (k := 2) (by omega) (by simp; omega)]
    simp
  · rw [hs (8 * q) (by omega), hs (8 * q + 1) (by omega), hs (8 * q + 2) (by omega), hs (8 * q + 3) (by omega), hs (8 * q + 4) (by omega), hs (8 * q + 5) (by omega), hs (8 * q + 6) (by omega), ht,
      hz (8 * q + 7) (by omega),
      or_add (k := 1) (by omega) (by simp; omega)]
    simp
theorem byD_new {L : List Bool} (h : L.length % 8 = 0) : byD false L (L.length / 8) = 0 := by
  have hz : ∀ i, L.length ≤ i → b01 (L.getD i false) = 0 := fun i hi => by rw [getD_out hi]; rfl
  unfold byD
  rw [hz _ (by omega), hz _ (by omega), hz _ (by omega), hz _ (by omega), hz _ (by omega), hz _ (by omega), hz _ (by omega), hz _ (by omega)]

/-- Before a bit is put: room for it. -/
def roomB (L : List Bool) : List UInt8 := if L.length % 8 = 0 then pkD false L ++ [0] else pkD false L
theorem roomB_get (L : List Bool) : (roomB L)[L.length / 8]? = some (UInt8.ofNat (byD false L (L.length / 8))) ∧ (roomB L).length = L.length / 8 + 1 := by
  unfold roomB
  split
  · rename_i h
    have hl := pkD_len false L
    rw [byD_new h, List.getElem?_append_right (by omega), List.length_append]
    have e : L.length / 8 - (pkD false L).length = 0 := by omega
    rw [e]
    exact ⟨rfl, by simp; omega⟩
  · have hl := pkD_len false L
    exact ⟨pkD_get (by omega), by omega⟩
theorem put_bit (L : List Bool) (t : Bool) : (roomB L).set (L.length / 8) (UInt8.ofNat (byD false L (L.length / 8) ||| onB t (L.length % 8))) = pkD false (L ++ [t]) := by
  have hr := roomB_get L
  apply List.ext_getElem?
  intro i
  have hlen : (L ++ [t]).length = L.length + 1 := by simp
  rcases Nat.lt_trichotomy i (L.length / 8) with h | h | h
  · rw [List.getElem?_set_ne (by omega), pkD_get (by omega), byD_other (by omega)]
    unfold roomB
    split
    · rw [List.getElem?_append_left (by rw [pkD_len]; omega), pkD_get (by omega)]
    · rw [pkD_get (by omega)]
  · subst h
    rw [List.getElem?_set_self (by omega), pkD_get (by omega), byD_last]
  · rw [List.getElem?_eq_none (by rw [List.length_set]; omega), List.getElem?_eq_none (by rw [pkD_len]; omega)]

/-- The last so many bits of a number, the highest first. -/
def bitsN (n : Nat) : Nat → List Bool
  | 0 => []
  | k + 1 => n.testBit k :: bitsN n k
theorem bitsN_len (n : Nat) : ∀ k, (bitsN n k).length = k
  | 0 => rfl
  | k + 1 => by simp [bitsN, bitsN_len n k]
end Go.Proofs.Ytkcnnfgdplccoaa

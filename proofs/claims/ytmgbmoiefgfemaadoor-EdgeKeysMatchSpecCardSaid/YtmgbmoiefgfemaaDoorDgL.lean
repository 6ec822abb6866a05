/- The digest, plain. -/
import Derived.Test.YtmgbmoiefgfemaaDoorLib
import Derived.Laws.Bits64b
namespace Go.Proofs.YtmgbmoiefgfemaaDoor
open Go.RowKit

def encU (c : UInt8) : List Value := [.int .u8 c.toNat]
theorem encU_len (c : UInt8) : (encU c).length = 1 := rfl

theorem bits_or_u32 (a b : Nat) (ha : a < 4294967296) (hb : b < 4294967296) : bits .or .u32 (a : Int) (b : Int) = ((a ||| b : Nat) : Int) := by
  have hx : a ||| b < 2 ^ 32 := Nat.or_lt_two_pow (by omega) (by omega)
  have h1 : (BitVec.ofInt 32 (a : Int)).toNat = a := by
    rw [BitVec.ofInt_natCast, BitVec.toNat_ofNat]; exact Nat.mod_eq_of_lt (by omega)
  have h2 : (BitVec.ofInt 32 (b : Int)).toNat = b := by
    rw [BitVec.ofInt_natCast, BitVec.toNat_ofNat]; exact Nat.mod_eq_of_lt (by omega)
  show IntKind.u32.wrap ((BitVec.ofInt 32 (a : Int) ||| BitVec.ofInt 32 (b : Int)).toNat : Int) = _
  rw [BitVec.toNat_or, h1, h2, IntKind.wrap_u32]
  omega
theorem bits_xor_u32 (a b : Nat) (ha : a < 4294967296) (hb : b < 4294967296) : bits .xor .u32 (a : Int) (b : Int) = ((a ^^^ b : Nat) : Int) := by
  have hx : a ^^^ b < 2 ^ 32 := Nat.xor_lt_two_pow (by omega) (by omega)
  have h1 : (BitVec.ofInt 32 (a : Int)).toNat = a := by
    rw [BitVec.ofInt_natCast, BitVec.toNat_ofNat]; exact Nat.mod_eq_of_lt (by omega)
  have h2 : (BitVec.ofInt 32 (b : Int)).toNat = b := by
    rw [BitVec.ofInt_natCast, BitVec.toNat_ofNat]; exact Nat.mod_eq_of_lt (by omega)
  show IntKind.u32.wrap ((BitVec.ofInt 32 (a : Int) ^^^ BitVec.ofInt 32 (b : Int)).toNat : Int) = _
  rw [BitVec.toNat_xor, h1, h2, IntKind.wrap_u32]
  omega
theorem bits_and3_u32 (a : Nat) (ha : a < 4294967296) : bits .and .u32 (a : Int) 3 = ((a % 4 : Nat) : Int) := by
  have h1 : (BitVec.ofInt 32 (a : Int)).toNat = a := by
    rw [BitVec.ofInt_natCast, BitVec.toNat_ofNat]; exact Nat.mod_eq_of_lt (by omega)
  have h3 : a &&& 3 = a % 4 := Nat.and_two_pow_sub_one_eq_mod a 2
  show IntKind.u32.wrap ((BitVec.ofInt 32 (a : Int) &&& BitVec.ofInt 32 (3 : Int)).toNat : Int) = _
  rw [BitVec.toNat_and, h1, show (BitVec.ofInt 32 (3 : Int)).toNat = 3 by rfl, h3, IntKind.wrap_u32]
  omega
theorem bits_xor_u8 (a b : Nat) (ha : a < 256) (hb : b < 256) : bits .xor .u8 (a : Int) (b : Int) = ((a ^^^ b : Nat) : Int) := by
  have hx : a ^^^ b < 2 ^ 8 := Nat.xor_lt_two_pow (by omega) (by omega)
  have h1 : (BitVec.ofInt 8 (a : Int)).toNat = a := by
    rw [BitVec.ofInt_natCast, BitVec.toNat_ofNat]; exact Nat.mod_eq_of_lt (by omega)
  have h2 : (BitVec.ofInt 8 (b : Int)).toNat = b := by
    rw [BitVec.ofInt_natCast, BitVec.toNat_ofNat]; exact Nat.mod_eq_of_lt (by omega)
  show IntKind.u8.wrap ((BitVec.ofInt 8 (a : Int) ^^^ BitVec.ofInt 8 (b : Int)).toNat : Int) = _
  rw [BitVec.toNat_xor, h1, h2, IntKind.wrap_u8]
  omega
theorem or_addN {a b k : Nat} (ha : a % 2 ^ k = 0) (hb : b < 2 ^ k) : a ||| b = a + b := by
  obtain ⟨c, hc⟩ := Nat.dvd_of_mod_eq_zero ha
  subst hc
  exact (Nat.two_pow_add_eq_or_of_lt hb c).symm

/-- Four bytes as a number, and a number as four bytes. -/
def num4 (x0 x1 x2 x3 : UInt8) : Nat := x0.toNat * 16777216 + x1.toNat * 65536 + x2.toNat * 256 + x3.toNat
theorem num4_lt (x0 x1 x2 x3 : UInt8) : num4 x0 x1 x2 x3 < 4294967296 := by
  have h0 := x0.toNat_lt
  have h1 := x1.toNat_lt
  have h2 := x2.toNat_lt
  have h3 := x3.toNat_lt
  unfold num4
  omega
def numAt (l : List UInt8) (i : Nat) : Nat := num4 (l.getD i 0) (l.getD (i + 1) 0) (l.getD (i + 2) 0) (l.getD (i + 3) 0)
theorem numAt_lt (l : List UInt8) (i : Nat) : numAt l i < 4294967296 := num4_lt _ _ _ _
def bytes4 (n : Nat) : List UInt8 := [UInt8.ofNat (n / 16777216), UInt8.ofNat (n / 65536), UInt8.ofNat (n / 256), UInt8.ofNat n]
theorem u8_toNat (n : Nat) : (UInt8.ofNat n).toNat = n % 256 := by simp
theorem or4 (x0 x1 x2 x3 : UInt8) : ((x0.toNat * 16777216 ||| x1.toNat * 65536) ||| x2.toNat * 256) ||| x3.toNat = num4 x0 x1 x2 x3 := by
  have h0 := x0.toNat_lt
  have h1 := x1.toNat_lt
  have h2 := x2.toNat_lt
  have h3 := x3.toNat_lt
  have e1 : x0.toNat * 16777216 ||| x1.toNat * 65536 = x0.toNat * 16777216 + x1.toNat * 65536 := or_addN (k := 24) (by omega) (by omega)
  have e2 : (x0.toNat * 16777216 + x1.toNat * 65536) ||| x2.toNat * 256 = x0.toNat * 16777216 + x1.toNat * 65536 + x2.toNat * 256 := or_addN (k := 16) (by omega) (by omega)
  have e3 : (x0.toNat * 16777216 + x1.toNat * 65536 + x2.toNat * 256) ||| x3.toNat = num4 x0 x1 x2 x3 := or_addN (k := 8) (by omega) (by omega)
  rw [e1, e2, e3]

/-- The cipher. -/
def mixN (x : Nat) : Nat := ((x * 16 % 4294967296 ^^^ x / 32) + x) % 4294967296
structure Hlf where
  a : Nat
  b : Nat
  s : Nat
def addN (h s k : Nat) : Nat := mixN h ^^^ ((s + k) % 4294967296)
def rndN (K : Nat → Nat) (x : Hlf) : Hlf :=
  let a := (x.a + addN x.b x.s (K (x.s % 4))) % 4294967296
  let s := (x.s + 2654435769) % 4294967296
  ⟨a, (x.b + addN a s (K (s / 2048 % 4))) % 4294967296, s⟩
def rndsN (K : Nat → Nat) (x : Hlf) : Nat → Hlf
  | 0 => x
  | n + 1 => rndN K (rndsN K x n)
def okHl (x : Hlf) : Prop := x.a < 4294967296 ∧ x.b < 4294967296 ∧ x.s < 4294967296
theorem rndN_ok (K : Nat → Nat) (x : Hlf) : okHl (rndN K x) := ⟨Nat.mod_lt _ (by decide), Nat.mod_lt _ (by decide), Nat.mod_lt _ (by decide)⟩
theorem rndsN_ok {K : Nat → Nat} {x : Hlf} (h : okHl x) : ∀ n, okHl (rndsN K x n)
  | 0 => h
  | _ + 1 => rndN_ok K _
theorem mixN_lt (x : Nat) : mixN x < 4294967296 := Nat.mod_lt _ (by decide)
theorem addN_lt (h s k : Nat) : addN h s k < 4294967296 := Nat.xor_lt_two_pow (n := 32) (mixN_lt h) (Nat.mod_lt _ (by decide))
def encZ (k b : List UInt8) : List UInt8 := bytes4 (rndsN (fun i => numAt k (4 * i)) ⟨numAt b 0, numAt b 4, 0⟩ 16).a ++ bytes4 (rndsN (fun i => numAt k (4 * i)) ⟨numAt b 0, numAt b 4, 0⟩ 16).b
theorem encZ_len (k b : List UInt8) : (encZ k b).length = 8 := rfl
def xorB (a b : List UInt8) : List UInt8 := List.zipWith (· ^^^ ·) a b
/-- One block of the digest. -/
def dgStep (st p : List UInt8) : List UInt8 := xorB (encZ p (st.take 8)) (st.take 8) ++ xorB (encZ (p.map (fun x => ~~~ x)) (st.drop 8)) (st.drop 8)
def dgRun : Nat → List UInt8 → List UInt8 → List UInt8
  | 0, st, _ => st
  | n + 1, st, t => if t = [] then st else dgRun n (dgStep st (t.take 16)) (t.drop 16)
def padZ : Nat → List UInt8 → List UInt8
  | 0, t => t
  | n + 1, t => if t.length % 16 = 8 then t else padZ n (t ++ [0])
def dgText (l : List UInt8) : List UInt8 := padZ 16 (l ++ [128]) ++ (bytes4 (l.length / 4294967296 % 4294967296) ++ bytes4 (l.length % 4294967296))
def dgStart : List UInt8 := [0, 1, 2, 3, 4, 5, 6, 7, 8, 9, 10, 11, 12, 13, 14, 15]
def digN (l : List UInt8) : List UInt8 := dgRun ((dgText l).length + 1) dgStart (dgText l)
end Go.Proofs.YtmgbmoiefgfemaaDoor

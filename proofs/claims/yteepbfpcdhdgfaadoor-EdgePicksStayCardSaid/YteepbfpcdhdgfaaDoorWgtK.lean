/- weight of a cache for a key. -/
import Derived.Test.YteepbfpcdhdgfaaDoorDgD
import Derived.Lib.SmallJoins
import Derived.Lib.ConvBytes
namespace Go.Proofs.YteepbfpcdhdgfaaDoor
open Go.RowKit

def wgtN : List UInt8 → Nat → Nat
  | [], n => n
  | x :: r, n => wgtN r (n * 256 + x.toNat)
theorem wgtN_snoc : ∀ (l : List UInt8) (x : UInt8) (n : Nat), wgtN (l ++ [x]) n = wgtN l n * 256 + x.toNat
  | [], _, _ => rfl
  | y :: r, x, n => wgtN_snoc r x (n * 256 + y.toNat)
theorem wgtN_lt : ∀ (l : List UInt8) (n k : Nat), n < 256 ^ k → wgtN l n < 256 ^ (k + l.length)
  | [], n, k, h => h
  | x :: r, n, k, h => by
    have h1 := x.toNat_lt
    have h2 := wgtN_lt r (n * 256 + x.toNat) (k + 1) (by rw [Nat.pow_succ]; omega)
    rw [List.length_cons, show k + (r.length + 1) = k + 1 + r.length by omega]
    exact h2
/-- The bytes of which a weight is made. -/
def wgtB (a k : ByteArray) : ByteArray := a ++ ⟨#[0]⟩ ++ k
def wgtK (a k : ByteArray) : Nat := wgtN ((digN (wgtB a k).data.toList).take 8) 0
theorem dgStep_len {st p : List UInt8} (h : st.length = 16) : (dgStep st p).length = 16 := by
  unfold dgStep
  rw [List.length_append, xorB_len (encZ_len _ _) (by rw [List.length_take]; omega), xorB_len (encZ_len _ _) (by rw [List.length_drop]; omega)]
theorem dgRun_len : ∀ (n : Nat) (st t : List UInt8), st.length = 16 → (dgRun n st t).length = 16
  | 0, _, _, h => h
  | n + 1, st, t, h => by
    show (if t = [] then st else dgRun n (dgStep st (t.take 16)) (t.drop 16)).length = 16
    split
    · exact h
    · exact dgRun_len n _ _ (dgStep_len h)
theorem digN_len (l : List UInt8) : (digN l).length = 16 := dgRun_len _ _ _ rfl

set_option maxRecDepth 100000 in
set_option maxHeartbeats 4000000 in
theorem weight_any (w : World) (a k : ByteArray) (ha : a.size ≤ 40) (hk : k.size ≤ 300) :
    Calls Tryd.prog 40 #[.string a, .string k] w fun e w' => e = .returned (.int .u64 (wgtK a k : Nat)) ∧ Below w.heap.size w w' := by
  have h1 : ¬ 9223372036854775807 < a.size + 1 := by omega
  have h2 : ¬ 9223372036854775807 < a.size + 1 + k.size := by omega
  have hcv := Lib.run_convert_string_bytes (P := Tryd.prog) w 9 58 5 (a ++ { data := #[0] } ++ k) Tryd.underlying9 Tryd.underlying58 Tryd.underlying5
  obtain ⟨X, hX⟩ : ∃ X, X = a ++ ({ data := #[0] } : ByteArray) ++ k := ⟨_, rfl⟩
  rw [← hX] at hcv
  have hxs : X.size ≤ 341 := by
    have hd : ({ data := #[0] } : ByteArray).size = 1 := rfl
    rw [hX]
    simp
    omega
  obtain ⟨w1, hw1⟩ : ∃ w1, w1 = Lib.bytesWorld w 5 X := ⟨_, rfl⟩
  obtain ⟨C, hC⟩ : ∃ C, C = grownCap w X.size 0 5 := ⟨_, rfl⟩
  have HB1 : Hid (Below w.heap.size w w1) := Lib.hid (by rw [hw1]; exact Joins.below_bytesWorld _ w _ X (Nat.le_refl _))
  have hbt : BytesAt w1 w.heap.size 0 X.data.toList := fun i x hx => by
    have hi := (List.getElem?_eq_some_iff.1 hx).1
    have h := Lib.bytesWorld_cell w 5 X i (by rw [Array.length_toList] at hi; exact hi)
    rw [hw1, Nat.zero_add, h, List.getD_eq_getElem?_getD, hx]
    rfl
  have hsl := hbt.sl (n := X.size) (cap := C) (by rw [Array.length_toList]; rfl) (by rw [hC]; exact grownCap_ge _ _ _ _) (by rw [hC]; exact grownCap_le_maxLen _ _ _ _ (by unfold maxLen; omega))
  have HDG := Lib.hid (digest_any w1 X.data.toList _ hsl (by rw [Array.length_toList]; show X.size ≤ 1000; omega))
  rw [← hw1, ← hC, hX] at hcv
  rw [← hX] at hcv
  have hcv2 : (convert 9 58 (.string (a ++ { data := #[0] } ++ k))).run Tryd.prog w = .ok (.slice (some ⟨w.heap.size, 0, none⟩) X.size C) w1 := by rw [← hX]; exact hcv
  clear hcv
  have HV : Hid (wgtK a k = wgtN ((digN X.data.toList).take 8) 0) := Lib.hid (by rw [hX]; rfl)
  have HZ := Lib.hid (digN_len X.data.toList)
  have HX := Lib.hid hX
  unfold DgP at HDG
  generalize digN X.data.toList = z at HDG HV HZ
  clear hX hbt hsl hw1 hC
  go_enter Tryd.func40, Tryd.ntmps40
  go_wp2_with fail
  refine HDG.out.mono ?_
  rintro e w2 ⟨S, hS, rfl, hk2, hb2⟩
  have HB2 := Lib.hid (HB1.out.thru hb2)
  have HK2 := Lib.hid hk2
  clear hS hk2 hb2 hcv2
  go_wp2_with fail
  go_loopg [5, 16] 8 (fun gg s5 s16 wr => ∃ i : Nat, i ≤ 8 ∧ 8 - i ≤ gg ∧ s16 = .int .i64 i ∧ s5 = .int .u64 (wgtN (z.take i) 0 : Nat) ∧ wr = w2)
  case atStart => exact ⟨0, by omega, by omega, rfl, rfl, rfl⟩
  case round =>
    obtain ⟨i, hi, hgi, rfl, rfl, hwr⟩ := hrel
    subst hwr
    by_cases hil : i < 8
    · have hiz : (i : Int) < 8 := by omega
      have hzl := HZ.out
      obtain ⟨x, hx⟩ : ∃ x, z[i]? = some x := ⟨z[i]'(by omega), by simp⟩
      have hc := HK2.out.bytes i x hx
      rw [Nat.zero_add] at hc
      have hlt := wgtN_lt (z.take i) 0 0 (by decide)
      rw [List.length_take, Nat.min_eq_left (by omega), Nat.zero_add] at hlt
      have hpw : 256 ^ i ≤ 256 ^ 7 := Nat.pow_le_pow_right (by decide) (by omega)
      have h256 : (256 : Nat) ^ 7 = 72057594037927936 := by decide
      have HNX : Hid (wgtN (z.take (i + 1)) 0 = wgtN (z.take i) 0 * 256 + x.toNat) := Lib.hid (by rw [take_next hx, wgtN_snoc])
      obtain ⟨m, hm⟩ : ∃ m, m = wgtN (z.take i) 0 := ⟨_, rfl⟩
      obtain ⟨y, hy⟩ : ∃ y, y = x.toNat := ⟨_, rfl⟩
      have hy8 : y < 256 := by rw [hy]; exact x.toNat_lt
      rw [← hy] at hc HNX
      rw [← hm] at hlt HNX ⊢
      have hm56 : m < 72057594037927936 := by omega
      obtain ⟨p, hp⟩ : ∃ p, p = m * 256 := ⟨_, rfl⟩
      obtain ⟨r, hr⟩ : ∃ r, r = m * 256 + y := ⟨_, rfl⟩
      have e1 : (m : Int) * 256 % 18446744073709551616 = (p : Int) := by omega
      have e1' : (m : Int) * 256 = (p : Int) := by omega
      have e2 : bits .or .u64 (p : Int) (y : Int) = (r : Int) := by
        rw [bits_or_u64_nat p y (by omega) (by omega), or_addN (k := 8) (by omega) (by omega), hr, hp]
      have HR := Lib.hid hr
      clear hlt hpw h256 hx hm hy hp hr hzl
      go_wp2
      go_roundg (8 - (i + 1))
      case measure => omega
      case rel => exact ⟨i + 1, by omega, by omega, by go_num, by rw [HNX.out, ← HR.out], rfl⟩
    · obtain rfl : i = 8 := by omega
      go_wp2
      go_ret
      exact ⟨ret_u (by rw [HV.out]; rfl), HB2.out⟩
end Go.Proofs.YteepbfpcdhdgfaaDoor

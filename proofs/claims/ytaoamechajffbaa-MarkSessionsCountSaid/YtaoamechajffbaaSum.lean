/- mark.Sum: the check sum of bytes; and headendlaw7.awake. -/
import Derived.Test.YtaoamechajffbaaBase
import Derived.Test.YtaoamechajffbaaProg
import Derived.Laws.BitsAllLaws
import Derived.Lib.SlBytesConst
namespace Go.Proofs.Ytaoamechajffbaa
open Go.RowKit

def encU (c : UInt8) : List Value := [.int .u8 c.toNat]
theorem encU_len (x : UInt8) : (encU x).length = 1 := rfl

def bitStep (n : Nat) : Nat := if n / 2147483648 = 1 then (n * 2 % 4294967296) ^^^ 79764919 else n * 2 % 4294967296
def iterN (f : Nat → Nat) : Nat → Nat → Nat
  | 0, n => n
  | k + 1, n => f (iterN f k n)
def byteStep (n c : Nat) : Nat := iterN bitStep 8 (n ^^^ (c * 16777216))
def crcOf (n : Nat) (l : List UInt8) : Nat := l.foldl (fun n c => byteStep n c.toNat) n
/-- The check sum of bytes. -/
def crc (l : List UInt8) : Nat := crcOf 4294967295 l

theorem xor_lt32 {a b : Nat} (ha : a < 4294967296) (hb : b < 4294967296) : a ^^^ b < 4294967296 := Nat.xor_lt_two_pow (n := 32) ha hb

theorem bitStep_lt (n : Nat) : bitStep n < 4294967296 := by
  unfold bitStep
  split
  · exact xor_lt32 (by omega) (by omega)
  · omega

theorem iterN_lt {n : Nat} (hn : n < 4294967296) : ∀ k, iterN bitStep k n < 4294967296
  | 0 => hn
  | _ + 1 => bitStep_lt _

theorem byteStep_lt (n c : Nat) : byteStep n c < 4294967296 := bitStep_lt _

theorem crcOf_lt : ∀ (l : List UInt8) {n : Nat}, n < 4294967296 → crcOf n l < 4294967296
  | [], _, h => h
  | c :: r, n, _ => crcOf_lt r (n := byteStep n c.toNat) (byteStep_lt _ _)

theorem crcOf_append (n : Nat) (a b : List UInt8) : crcOf n (a ++ b) = crcOf (crcOf n a) b := by simp [crcOf]

theorem crcOf_take {n : Nat} {l : List UInt8} {k : Nat} {x : UInt8} (hx : l[k]? = some x) : crcOf n (l.take (k + 1)) = byteStep (crcOf n (l.take k)) x.toNat := by
  obtain ⟨hk, rfl⟩ := List.getElem?_eq_some_iff.1 hx
  rw [List.take_succ_eq_append_getElem hk, crcOf_append]
  rfl

set_option maxRecDepth 100000 in
set_option maxHeartbeats 1000000 in
theorem sum_any (w : World) (l : List UInt8) (v : Value) (hl : Sl w 1 encU v l) :
    Calls Try.prog 27 #[v] w fun e w' => e = .returned (.int .i64 (crc l : Nat)) ∧ w = w' := by
  obtain ⟨ao, cap, rfl, hcap, hmax, hnil, hel⟩ := hl
  unfold maxLen at hmax
  go_enter Try.func27, Try.ntmps27
  go_wp2
  go_loop [3, 9] (fun s3 s9 => ∃ (n : Nat) (kk : Nat), kk ≤ l.length ∧ s9 = .int .i64 kk ∧ s3 = .int .u32 (n : Int) ∧ Aside (n = crcOf 4294967295 (l.take kk)) ∧ n < 4294967296) (fun _ i => l.length - (intOf i).toNat)
  case atStart => exact ⟨4294967295, 0, Nat.zero_le _, rfl, rfl, (show Aside _ from rfl), by omega⟩
  case round =>
    obtain ⟨n, kk, hkk, rfl, rfl, N, hn1⟩ := hrel
    by_cases hlt : kk < l.length
    · have hltz : (kk : Int) < (l.length : Int) := by omega
      obtain ⟨x, hx⟩ : ∃ x, l[kk]? = some x := ⟨l[kk], by simp [hlt]⟩
      obtain ⟨b, off, rfl, hc⟩ := hel kk x hx
      have c0 : w.cell? ⟨b, off + kk, none⟩ = some (.int .u8 x.toNat) := by simpa using hc 0 _ rfl
      have HX := Lib.hid hx
      have hxl : x.toNat < 256 := x.toNat_lt
      clear hx hc hel
      have hfin : bits .xor .u32 (n : Int) ((x.toNat : Int) * 16777216) = ((n ^^^ (x.toNat * 16777216) : Nat) : Int) := by
        rw [show ((x.toNat : Int) * 16777216) = ((x.toNat * 16777216 : Nat) : Int) by omega]
        exact u32_xor_nat n (x.toNat * 16777216) hn1 (by omega)
      have hlt0 : n ^^^ (x.toNat * 16777216) < 4294967296 := xor_lt32 hn1 (by omega)
      go_wp2
      go_loop [3, 18] (fun s3 s18 => ∃ (m : Nat) (k : Nat), k ≤ 8 ∧ s18 = .int .i64 k ∧ s3 = .int .u32 (m : Int) ∧ Aside (m = iterN bitStep k (n ^^^ (x.toNat * 16777216))) ∧ m < 4294967296) (fun _ i => 8 - (intOf i).toNat)
      case atStart => exact ⟨_, 0, by omega, rfl, rfl, (show Aside _ from rfl), hlt0⟩
      case round =>
        obtain ⟨m, k, hk, rfl, rfl, M, hm1⟩ := hrel
        clear hfin
        by_cases hlk : k < 8
        · have hx2 := u32_xor_nat (m * 2 % 4294967296) 79764919 (by omega) (by omega)
          have hx3 : bits .xor .u32 ((m : Int) * 2 % 4294967296) 79764919 = (((m * 2 % 4294967296) ^^^ 79764919 : Nat) : Int) := by
            rw [← hx2]; congr 1
          clear hx2
          by_cases ht : m / 2147483648 = 1
          · have ht' : ((m : Int) / 2147483648 == 1) = true := by rw [beq_iff_eq]; omega
            have T := Lib.hid ht
            clear ht
            go_wp2
            go_round
            case rel => exact ⟨_, k + 1, by omega, by go_num, rfl, (show Aside _ from by show _ = _; rw [iterN, ← M.out, bitStep, if_pos T.out]), xor_lt32 (by omega) (by omega)⟩
            case measure => simp [intOf]; omega
          · have ht' : ((m : Int) / 2147483648 == 1) = false := by rw [beq_eq_false_iff_ne]; omega
            have T := Lib.hid ht
            clear ht
            go_wp2
            go_round
            case rel => exact ⟨m * 2 % 4294967296, k + 1, by omega, by go_num, by simp, (show Aside _ from by show _ = _; rw [iterN, ← M.out, bitStep, if_neg T.out]), by omega⟩
            case measure => simp [intOf]; omega
        · obtain rfl : k = 8 := by omega
          go_wp2
          go_round
          case rel => exact ⟨m, kk + 1, by omega, by go_num, rfl, (show Aside _ from by rw [crcOf_take HX.out, ← N.out]; exact M.out), hm1⟩
          case measure => simp [intOf]; omega
    · obtain rfl : kk = l.length := by omega
      clear hel
      have hn2 : (n : Int) < 18446744073709551616 := by omega
      go_wp2
      go_ret
      exact ⟨ret_int (by rw [N.out, List.take_length]; rfl), rfl⟩

theorem crc_test : crc [49, 50, 51, 52, 53, 54, 55, 56, 57] = 58124007 := by decide +kernel

set_option maxRecDepth 100000 in
theorem awake_any (w : World) : Calls Try.prog 10 #[] w fun e w' => e = .returned (.bool true) ∧ Below w.heap.size w w' := by
  have kc := fun (w : World) (C : Array Value) (n c : Nat) => Lib.run_convert_bytes_const (P := Try.prog) w 59 5 C n c Try.underlying59 Try.underlying5
  go_enter Try.func10, Try.ntmps10
  have hs : Sl (w.alloc (.cells #[.int .u8 49, .int .u8 50, .int .u8 51, .int .u8 52, .int .u8 53, .int .u8 54, .int .u8 55, .int .u8 56, .int .u8 57] 5 (9, 10))) 1 encU (.slice (some ⟨w.heap.size, 0, none⟩) 9 9) [49, 50, 51, 52, 53, 54, 55, 56, 57] :=
    Sl.fresh encU_len w 5 (9, 10) [49, 50, 51, 52, 53, 54, 55, 56, 57] (by simp [maxLen])
  have hs' := sum_any _ _ _ hs
  rw [crc_test] at hs'
  clear hs
  go_wp2_with (go_at_call 27; refine hs'.mono ?_; rintro e w' ⟨rfl, rfl⟩)
  go_ret
  exact ⟨by simp, (Below.refl _ _).alloc (Nat.le_refl _) _⟩
end Go.Proofs.Ytaoamechajffbaa

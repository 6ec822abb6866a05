/- CueBytes of the program. -/
import Derived.Test.YtpdeodoidlcdoaaG26
import Derived.Test.YtpdeodoidlcdoaaG04
import Derived.Test.YtpdeodoidlcdoaaG06
namespace Go.Proofs.Ytpdeodoidlcdoaa
open Go.RowKit

/-- The bytes of a cue, before its sum. -/
def bodyC (c : Cue) : List UInt8 := pkD false (padO (fieldsL c))
def headC (n : Nat) : List UInt8 := pkD false ((bitsN 252 8 ++ bitsN n 12) ++ bitsN 15 4)
def noSum (c : Cue) : List UInt8 := headC ((bodyC c).length + 4) ++ bodyC c
def cueB (c : Cue) : List UInt8 := noSum c ++ sumBytes (crc (noSum c))
def cueR (c : Cue) : List UInt8 := if checkC c = 0 then cueB c else []
theorem padO_len (L : List Bool) : (padO L).length ≤ L.length + 7 := by unfold padO; simp; omega
theorem bodyC_len (c : Cue) : (bodyC c).length ≤ 14 := by
  unfold bodyC
  rw [pkD_len]
  have h1 := padO_len (fieldsL c)
  have h2 := fieldsL_len c
  omega
theorem headC_len (n : Nat) : (headC n).length = 3 := by
  unfold headC
  rw [pkD_len]
  simp [bitsN_len]

theorem putZ (z m : Int) (n many : Nat) (hz : z = n) (hm' : m = many) (w : World) (P : Nat) (L : List Bool) (v : Value) (hb : BL w P L v) (hm : many ≤ 60) (hn : n < 1152921504606846976) (hL : L.length ≤ 1000) :
    Calls Try.prog 13 #[.pointer (some ⟨P, 0, none⟩), .int .i64 z, .int .i64 m] w (PutP w P (L ++ bitsN n many)) := by
  subst hz hm'
  exact put_any w P L v n many hb hm hn hL
theorem BL.below {w w' : World} {P B : Nat} {L : List Bool} {v : Value} (h : BL w P L v) (hb : Below B w w') (hB : w.heap.size ≤ B) : BL w' P L v :=
  ⟨(hb.block P (Nat.lt_of_lt_of_le (lt_of_block h.1) hB)).trans h.1, h.2.below hb hB⟩

set_option maxRecDepth 100000 in
set_option maxHeartbeats 4000000 in
theorem CueBytes_any (c : Cue) (w : World) : Calls Try.prog 4 #[agC c] w (SlPost w 1 encU (cueR c) (checkC c)) := by
  have HB0 := Lib.hid ((Below.refl w.heap.size w).alloc (Nat.le_refl _) (boxC c))
  have HK0 := Lib.hid (block_new w (boxC c))
  have HC := Lib.hid (fun W => checkCue_any c W)
  have HV : Hid (cueR c = if checkC c = 0 then cueB c else []) := Lib.hid rfl
  have HZ := Lib.hid (fun (h : checkC c = 0) => checkC_zero h)
  obtain ⟨F, hF⟩ : ∃ F, F = checkC c := ⟨_, rfl⟩
  rw [← hF] at HC HV HZ ⊢
  generalize cueR c = R at HV ⊢
  clear hF
  cases e1 : (F != 0)
  case true =>
    have hne : F ≠ 0 := by simpa using e1
    have hv2 : Hid (R = []) := Lib.hid (by rw [HV.out, if_neg hne])
    clear hne
    go_enter Try.func4, Try.ntmps4
    go_wp2_with fail
    refine (HC.out _).mono ?_
    rintro e w1 ⟨rfl, hb⟩
    go_wp2
    go_ret2
    exact SlPost.mk rfl (by rw [hv2.out]; exact Sl.nil) (HB0.out.thru hb)
  obtain rfl : F = 0 := by simpa using e1
  have HR : Hid (R = cueB c) := Lib.hid (by rw [HV.out]; rfl)
  obtain ⟨hk, _, ⟨hev, hti, hle⟩, _⟩ := HZ.out rfl
  clear HV HZ e1
  obtain ⟨ki, ev, no, ti, le, au⟩ := c
  simp only at hk hev hti hle
  obtain ⟨k, rfl⟩ := Int.eq_ofNat_of_zero_le hk.1
  obtain ⟨e, rfl⟩ := Int.eq_ofNat_of_zero_le hev.1
  obtain ⟨t, rfl⟩ := Int.eq_ofNat_of_zero_le hti.1
  obtain ⟨q, rfl⟩ := Int.eq_ofNat_of_zero_le hle.1
  have hbl := bodyC_len ⟨k, e, no, t, q, au⟩
  have HCB : Hid (cueB ⟨k, e, no, t, q, au⟩ = (headC ((bodyC ⟨k, e, no, t, q, au⟩).length + 4) ++ bodyC ⟨k, e, no, t, q, au⟩) ++ sumBytes (crc (headC ((bodyC ⟨k, e, no, t, q, au⟩).length + 4) ++ bodyC ⟨k, e, no, t, q, au⟩))) := Lib.hid rfl
  have HBY : Hid (pkD false (padO (fieldsL ⟨k, e, no, t, q, au⟩)) = bodyC ⟨k, e, no, t, q, au⟩) := Lib.hid rfl
  have hpl := padO_len (fieldsL ⟨k, e, no, t, q, au⟩)
  have hfl := fieldsL_len ⟨k, e, no, t, q, au⟩
  generalize cueB ⟨k, e, no, t, q, au⟩ = CB at HR HCB
  have HPF := Lib.hid (fun W P v (hb : BL W P [] v) => putF_nn W P v k e t q no au hb (by omega) (by omega) (by omega) (by omega))
  generalize bodyC ⟨k, e, no, t, q, au⟩ = BY at hbl HCB HBY
  generalize padO (fieldsL ⟨k, e, no, t, q, au⟩) = PL at HPF HBY hpl
  go_enter Try.func4, Try.ntmps4
  go_wp2_with fail
  refine (HC.out _).mono ?_
  rintro e1 w1 ⟨rfl, hb⟩
  have HB1 := Lib.hid (HB0.out.thru hb)
  have HK1 := Lib.hid ((hb.block _ (lt_of_block HK0.out)).trans HK0.out)
  have hsz1 := HB1.out.size
  have HP1 : Hid (BL (w1.alloc (.cells #[.slice none 0 0, .int .i64 0] 57)) w1.heap.size [] (.slice none 0 0)) := Lib.hid ⟨block_new w1 _, Own.nil⟩
  have hk2 := (Below.heap_alloc w1 (.cells #[.slice none 0 0, .int .i64 0] 57) _ (lt_of_block HK1.out)).trans HK1.out
  have HW1 : Hid (Below w.heap.size w (w1.alloc (.cells #[.slice none 0 0, .int .i64 0] 57))) := Lib.hid (HB1.out.alloc hsz1 _)
  have b0 := (cell_of_block (i := 0) HK1.out).trans rfl
  have b1 := (cell_of_block (i := 1) HK1.out).trans rfl
  have b2 := (cell_of_block (i := 2) HK1.out).trans rfl
  have b3 := (cell_of_block (i := 3) HK1.out).trans rfl
  have b4 := (cell_of_block (i := 4) HK1.out).trans rfl
  have b5 := (cell_of_block (i := 5) HK1.out).trans rfl
  have hlb := lt_of_block HK1.out
  clear hb hk2
  go_wp2_with fail
  refine (HPF.out _ _ _ HP1.out).mono ?_
  rintro e1 w2 ⟨rfl, ⟨v2, hb2⟩, hw2, hk2⟩
  have HB2 := Lib.hid (HW1.out.trans (hw2.mono hsz1))
  obtain ⟨fo, fcap, rfl, hfcap, hfmax, _, _⟩ := Own.sl hb2.2 encU_len
  rw [HBY.out] at hb2 hfcap
  unfold maxLen at hfmax
  have HL1 := Lib.hid hb2
  have hsz2 := HB2.out.size
  have hlp := lt_of_block hb2.1
  -- the second list
  have HP2 : Hid (BL (w2.alloc (.cells #[.slice none 0 0, .int .i64 0] 57)) w2.heap.size [] (.slice none 0 0)) := Lib.hid ⟨block_new w2 _, Own.nil⟩
  have HL2 := Lib.hid (hb2.alloc (.cells #[.slice none 0 0, .int .i64 0] 57))
  have HW2 : Hid (Below w.heap.size w (w2.alloc (.cells #[.slice none 0 0, .int .i64 0] 57))) := Lib.hid (HB2.out.alloc hsz2 _)
  clear hb2 hw2 hk2 HPF HP1 b0 b1 b2 b3 b4 b5 hlb
  go_wp2_with fail
  refine (putL 8 8 rfl _ _ [] _ 252 HP2.out (by omega) (by omega) (by simp)).mono ?_
  rintro e1 w3 ⟨rfl, ⟨v3, hb3⟩, hw3, hk3⟩
  have hA2 : Below w2.heap.size w2 (w2.alloc (.cells #[.slice none 0 0, .int .i64 0] 57)) := (Below.refl _ _).alloc (Nat.le_refl _) _
  have HB3 := Lib.hid hb3
  have HW3 := Lib.hid (hA2.trans hw3)
  have hF3 := HL1.out.below HW3.out (Nat.le_refl _)
  have c0 := (cell_of_block (i := 0) hF3.1).trans rfl
  have hl3 := lt_of_block hF3.1
  clear hb3 hw3 hk3 hA2 hF3
  go_wp2_with fail
  refine (putZ ((BY.length : Int) + 4) 12 (BY.length + 4) 12 (by omega) rfl _ _ _ v3 HB3.out (by omega) (by omega) (by simp [bitsN_len])).mono ?_
  rintro e1 w4 ⟨rfl, ⟨v4, hb4⟩, hw4, hk4⟩
  have HB4 := Lib.hid hb4
  have HW4 := Lib.hid (HW3.out.trans hw4)
  clear hb4 hw4 hk4 c0 hl3
  go_wp2_with fail
  refine (putL 4 4 rfl _ _ _ v4 15 HB4.out (by omega) (by omega) (by simp [bitsN_len])).mono ?_
  rintro e1 w5 ⟨rfl, ⟨v5, hb5⟩, hw5, hk5⟩
  have HW5 := Lib.hid (HW4.out.trans hw5)
  have hhl := headC_len (BY.length + 4)
  have HHC : Hid (pkD false ([] ++ bitsN 252 8 ++ bitsN (BY.length + 4) 12 ++ bitsN 15 4) = headC (BY.length + 4)) := Lib.hid (by unfold headC; rw [List.nil_append])
  unfold BL at hb5
  rw [HHC.out] at hb5
  generalize headC (BY.length + 4) = HC5 at hb5 hhl HCB HHC
  have hhl3 : HC5.length ≤ 3 := by omega
  clear hhl
  obtain ⟨lo, lcap, rfl, hlcap, hlmax, _, _⟩ := Own.sl hb5.2 encU_len
  unfold maxLen at hlmax
  have HB5 := Lib.hid hb5.2
  have c0 := (cell_of_block (i := 0) hb5.1).trans rfl
  have hl5 := lt_of_block hb5.1
  have hF5 := HL1.out.below HW5.out (Nat.le_refl _)
  have d0 := (cell_of_block (i := 0) hF5.1).trans rfl
  have hl6 := lt_of_block hF5.1
  have HSB := Lib.hid (by have := hF5.2; rw [HBY.out] at this; exact this.sl encU_len : Sl w5 1 encU (.slice fo BY.length fcap) BY)
  have HBW5 := Lib.hid (HB2.out.trans (HW5.out.mono hsz2))
  clear hb5 hw5 hk5 hF5 HHC HW3 HW4 HB3 HB4
  have HB5D : Hid (Own w5.drew (w2.heap.size + 1) 5 1 encU (.slice lo HC5.length lcap) HC5) := Lib.hid (show Own w5 (w2.heap.size + 1) 5 1 encU (.slice lo HC5.length lcap) HC5 from HB5.out)
  have HSBD : Hid (Sl w5.drew 1 encU (.slice fo BY.length fcap) BY) := Lib.hid (show Sl w5 1 encU (.slice fo BY.length fcap) BY from HSB.out)
  have hbs : w2.heap.size + 1 ≤ w5.drew.heap.size := (by omega : w2.heap.size + 1 ≤ w5.heap.size)
  go_upto_region 10 with (fail)
  go_still_tail 8, (by kernel_rfl)
  change wpList _ _ _ _ _ w5.drew
  go_wp2_with (at_builtin; refine wpList_extend (v := .slice lo HC5.length lcap) (u := .slice fo BY.length fcap) (l := HC5) (m := BY) rfl _ _ 24 rfl slU encU_len (fun _ => rfl) rfl rfl HB5D.out HSBD.out (by omega) hbs ?_; intro v6 w6 ho6 hb6; obtain ⟨ao6, L6, cp6, rfl⟩ := Own.slv encU_len ho6; have HO6 := Lib.hid ho6; have HB6 := Lib.hid (HBW5.out.trans (((Below.refl _ _).drew.trans hb6).mono (by omega))); have HS6 := Lib.hid (ho6.sl encU_len); have hsz6 : w2.heap.size + 1 ≤ w6.heap.size := by have := hb6.size; have h5 : w5.drew.heap.size = w5.heap.size := rfl; omega)
  have HSUM := Lib.hid (sum_any w6 (HC5 ++ BY) _ HS6.out)
  have hlt := crc_lt (HC5 ++ BY)
  have hC : Hid ((sumBytes (crc (HC5 ++ BY))).flatMap encU = [.int .u8 ((crc (HC5 ++ BY) : Nat) / 16777216 : Int), .int .u8 ((crc (HC5 ++ BY) : Nat) / 65536 % 256 : Int), .int .u8 ((crc (HC5 ++ BY) : Nat) / 256 % 256 : Int), .int .u8 ((crc (HC5 ++ BY) : Nat) % 256 : Int)]) := Lib.hid (by
    simp [sumBytes, encU, UInt8.toNat_ofNat']
    omega)
  have HCB3 : Hid (R = (HC5 ++ BY) ++ sumBytes (crc (HC5 ++ BY))) := Lib.hid (by rw [HR.out]; exact HCB.out)
  have hnl : ((HC5 ++ BY).length + 4) * 1 ≤ 140737488355328 := by simp; omega
  have HNL := Lib.hid hnl
  generalize HC5 ++ BY = X at HSUM hlt hC HCB3 HO6 HNL
  clear hnl HCB HS6
  obtain ⟨c, hc⟩ : ∃ c, c = crc X := ⟨_, rfl⟩
  rw [← hc] at HSUM hlt hC HCB3
  clear hc
  go_wp2_with fail
  refine HSUM.out.mono ?_
  rintro e1 w7 ⟨rfl, rfl⟩
  go_wp2_with (at_builtin; refine wpList_pushes (m := 4) rfl _ _ 24 rfl slU encU_len (fun _ => rfl) rfl rfl (sumBytes c) hC.out rfl HO6.out rfl HNL.out hsz6 ?_; intro v8 w8 ho8 hb8; have HO8 := Lib.hid ho8; have HB8 := Lib.hid (HB6.out.trans (hb8.mono (by omega))); clear ho8 hb8)
  go_ret2
  exact SlPost.mk rfl (by rw [HCB3.out]; exact HO8.out.sl encU_len) HB8.out
end Go.Proofs.Ytpdeodoidlcdoaa

/- What bytes say as a cue; plain. -/
namespace Go.Proofs.Ytpdeodoidlcdoaa
open Go.RowKit

/-- The bit number i of bytes. -/
def bitAt (l : List UInt8) (i : Nat) : Bool := (l.getD (i / 8) 0).toNat.testBit (7 - i % 8)
/-- What k bits from a place on say. -/
def numB (l : List UInt8) (a : Nat) : Nat → Nat
  | 0 => 0
  | k + 1 => numB l a k * 2 + b01 (bitAt l (a + k))
theorem numB_lt (l : List UInt8) (a : Nat) : ∀ k, numB l a k < 2 ^ k
  | 0 => by simp [numB]
  | k + 1 => by
    have h := numB_lt l a k
    have hb := b01_lt (bitAt l (a + k))
    rw [numB, Nat.pow_succ]
    omega
theorem numB_le (l : List UInt8) (a : Nat) {k : Nat} (hk : k ≤ 33) : numB l a k < 8589934592 :=
  Nat.lt_of_lt_of_le (numB_lt l a k) (Nat.le_trans (Nat.pow_le_pow_right (by omega) hk) (by decide))

def zeroC : Cue := ⟨0, 0, false, 0, 0, false⟩
def timedB (k : Nat) : Bool := (k == 1) || (k == 2)
/-- How many bytes follow the first three. -/
def sizeC (k : Nat) (now : Bool) : Nat := if k = 0 then 5 else if k = 3 then 9 else if k = 2 then (if now then 9 else 13) else (if now then 13 else 17)
def kindC (l : List UInt8) : Nat := numB l 24 3
def nowC (l : List UInt8) : Bool := timedB (kindC l) && bitAt l 59
def rightC (l : List UInt8) (n : Nat) : Bool := decide (kindC l ≤ 3) && (n == sizeC (kindC l) (nowC l))
/-- Behind the time. -/
def lastC (now : Bool) : Nat := if now then 60 else 93
def endC (k : Nat) (now : Bool) : Nat := if k = 0 then 27 else if k = 3 then 59 else if k = 2 then lastC now else lastC now + 34
def cueRd (l : List UInt8) : Cue :=
  { ki := kindC l, ev := if kindC l = 0 then 0 else numB l 27 32, no := nowC l, ti := if timedB (kindC l) && !nowC l then numB l 60 33 else 0,
    le := if kindC l = 1 then numB l (lastC (nowC l) + 1) 33 else 0, au := (kindC l == 1) && bitAt l (lastC (nowC l)) }
/-- The first bit of 0. -/
def badAt (l : List UInt8) (a : Nat) : Nat → Option Nat
  | 0 => none
  | m + 1 => if bitAt l a = true then badAt l (a + 1) m else some a
structure CueAns where
  cue : Cue
  at_ : Int
  fault : Int
def tailC (l : List UInt8) (c : Cue) : CueAns :=
  if crc l ≠ 0 then ⟨zeroC, 0, 15⟩ else if checkC c ≠ 0 then ⟨zeroC, 0, checkC c⟩ else ⟨c, 0, 0⟩
def fillO (t : CueAns) : Option Nat → CueAns
  | some i => ⟨zeroC, (i / 8 : Nat), 10⟩
  | none => t
def fillC (l : List UInt8) (a m : Nat) : CueAns := fillO (tailC l (cueRd l)) (badAt l a m)
def bodyRd (l : List UInt8) (n : Nat) : CueAns :=
  if rightC l n = false then ⟨zeroC, 1, 10⟩ else if numB l 20 4 ≠ 15 then ⟨zeroC, 2, 10⟩ else fillC l (endC (kindC l) (nowC l)) (8 * (n - 1) - endC (kindC l) (nowC l))
def headRd (l : List UInt8) (n : Nat) : CueAns :=
  if l.length < 3 + n then ⟨zeroC, l.length, 10⟩ else if 3 + n < l.length then ⟨zeroC, (3 + n : Nat), 10⟩ else bodyRd l n
/-- What bytes say: the cue, the place of the fault, the fault. -/
def readC (l : List UInt8) : CueAns :=
  if 300 < l.length then ⟨zeroC, 0, 2⟩ else if l.length < 3 then ⟨zeroC, l.length, 10⟩ else if l.getD 0 0 ≠ 252 then ⟨zeroC, 0, 10⟩ else headRd l (numB l 8 12)

theorem numB_add (l : List UInt8) (a j : Nat) : ∀ k, numB l a (j + k) = numB l a j * 2 ^ k + numB l (a + j) k
  | 0 => by simp [numB]
  | k + 1 => by
    rw [← Nat.add_assoc, numB, numB_add l a j k, numB, Nat.pow_succ, ← Nat.mul_assoc, Nat.add_mul, Nat.add_assoc, Nat.add_assoc]
theorem numB_in (l : List UInt8) (q s : Nat) : ∀ k, s + k ≤ 8 → numB l (8 * q + s) k = (l.getD q 0).toNat / 2 ^ (8 - s - k) % 2 ^ k
  | 0, _ => by simp [numB, Nat.mod_one]
  | k + 1, h => by
    rw [numB, numB_in l q s k (by omega)]
    have hb : bitAt l (8 * q + s + k) = (l.getD q 0).toNat.testBit (8 - s - (k + 1)) := by
      unfold bitAt
      have e1 : (8 * q + s + k) / 8 = q := by omega
      have e2 : 7 - (8 * q + s + k) % 8 = 8 - s - (k + 1) := by omega
      rw [e1, e2]
    rw [hb]
    generalize (l.getD q 0).toNat = B
    obtain ⟨m, hm⟩ : ∃ m, m = 8 - s - (k + 1) := ⟨_, rfl⟩
    have e3 : 8 - s - k = m + 1 := by omega
    rw [← hm, e3]
    have hbit : b01 (B.testBit m) = B / 2 ^ m % 2 := by
      rw [Nat.testBit_eq_decide_div_mod_eq]
      have : B / 2 ^ m % 2 < 2 := Nat.mod_lt _ (by omega)
      unfold b01
      by_cases h : B / 2 ^ m % 2 = 1
      · simp [h]
      · have h0 : B / 2 ^ m % 2 = 0 := by omega
        simp [h0]
    rw [hbit, Nat.pow_succ 2 m, ← Nat.div_div_eq_div_mul, Nat.pow_succ 2 k, Nat.mul_comm (2 ^ k) 2, Nat.mod_mul]
    omega
theorem len_bits (l : List UInt8) : numB l 8 12 = (l.getD 1 0).toNat * 16 + (l.getD 2 0).toNat / 16 := by
  have h1 := numB_add l 8 8 4
  have h2 := numB_in l 1 0 8 (by omega)
  have h3 := numB_in l 2 0 4 (by omega)
  have hb := (l.getD 1 0).toNat_lt
  have hc := (l.getD 2 0).toNat_lt
  simp only [Nat.reduceAdd, Nat.reduceMul, Nat.reduceSub, Nat.reducePow, Nat.div_one] at h1 h2 h3
  rw [h1, h2, h3]
  omega
theorem ones_bits (l : List UInt8) : numB l 20 4 = (l.getD 2 0).toNat % 16 := by
  have h3 := numB_in l 2 4 4 (by omega)
  simp only [Nat.reduceAdd, Nat.reduceMul, Nat.reduceSub, Nat.reducePow, Nat.div_one] at h3
  exact h3
theorem badAt_next {l : List UInt8} {a m : Nat} (h : bitAt l a = true) (hm : 0 < m) : badAt l a m = badAt l (a + 1) (m - 1) := by
  obtain ⟨k, rfl⟩ : ∃ k, m = k + 1 := ⟨m - 1, by omega⟩
  simp [badAt, h]
theorem badAt_hit {l : List UInt8} {a m : Nat} (h : bitAt l a = false) (hm : 0 < m) : badAt l a m = some a := by
  obtain ⟨k, rfl⟩ : ∃ k, m = k + 1 := ⟨m - 1, by omega⟩
  simp [badAt, h]
theorem endC_le {k n : Nat} {now : Bool} (hk : k ≤ 3) (h : n = sizeC k now) : endC k now ≤ 8 * (n - 1) := by
  subst h
  unfold sizeC endC lastC
  have : k = 0 ∨ k = 1 ∨ k = 2 ∨ k = 3 := by omega
  rcases this with rfl | rfl | rfl | rfl <;> cases now <;> simp
end Go.Proofs.Ytpdeodoidlcdoaa

/- get: bits are taken. -/
namespace Go.Proofs.Ytpdeodoidlcdoaa
open Go.RowKit

theorem Onl.drewN (P : Nat) (w : World) (n : Nat) : Onl P w (w.drewN n) := ⟨rfl, rfl, rfl, Nat.le_refl _, fun _ _ _ => rfl⟩
/-- Block P holds bytes that are read, at bit i. -/
def BR (w : World) (P : Nat) (v : Value) (i : Nat) : Prop := w.heap[P]? = some (.cells #[v, .int .i64 i] 57 (0, 0))
def GetP (w : World) (P : Nat) (v : Value) (i n : Nat) : Ending → World → Prop := fun e w' => e = .returned (.int .i64 n) ∧ BR w' P v i ∧ Onl P w w'

theorem and1_u8 (m : Nat) (hm : m < 256) : bits .and .u8 (m : Int) 1 = ((m % 2 : Nat) : Int) := by
  have := u8_and_nat m 1 hm (by omega)
  rw [Nat.and_one_is_mod] at this
  exact this
theorem or1_i64 (n t : Nat) (hn : n < 8589934592) (ht : t < 2) : bits .or .i64 ((n : Int) * 2) (t : Int) = ((n * 2 + t : Nat) : Int) := by
  have e : ((n : Int) * 2) = ((n * 2 : Nat) : Int) := by omega
  rw [e]
  show IntKind.i64.wrap ((BitVec.ofInt 64 ((n * 2 : Nat) : Int) ||| BitVec.ofInt 64 (t : Int)).toNat : Int) = _
  rw [BitVec.toNat_or, ofInt_64 _ (by omega), ofInt_64 t (by omega), or_add (k := 1) (by omega) (by omega), IntKind.wrap_i64]
  omega

set_option maxRecDepth 100000 in
set_option maxHeartbeats 4000000 in
theorem get_any (w : World) (P i many : Nat) (v : Value) (l : List UInt8) (hb : BR w P v i) (hl : Sl w 1 encU v l) (ho : offB P v) (hi : i + many ≤ 8 * l.length) (hm : many ≤ 33) (hn : l.length ≤ 300) :
    Calls Try.prog 18 #[.pointer (some ⟨P, 0, none⟩), .int .i64 many] w (GetP w P v (i + many) (numB l i many)) := by
  have HB := Lib.hid hb
  have HL := Lib.hid hl
  have HO := Lib.hid ho
  clear hb hl ho
  go_enter Try.func18, Try.ntmps18
  go_wp2
  go_loopg [5, 7] (many + 1) (fun gg s5 s7 wr => ∃ (k N : Nat), k ≤ many ∧ many - k ≤ gg ∧ s5 = .int .i64 N ∧ N < 8589934592 ∧ s7 = .int .i64 k ∧ Aside (N = numB l i k) ∧ Aside (BR wr P v (i + k)) ∧ Aside (Onl P w wr))
  case atStart => exact ⟨0, 0, Nat.zero_le _, by omega, by go_num, by omega, by go_num, (show _ = _ from rfl), HB.out, Onl.refl P w⟩
  obtain ⟨k, N, hk, hg, rfl, hN, rfl, HN, HBr, HOr⟩ := hrel
  have HN := Lib.hid HN.out
  have HBr := Lib.hid HBr.out
  have HOr := Lib.hid HOr.out
  by_cases hkm : k < many
  · have hS := HL.out.onl HO.out HOr.out
    have hkmz : (k : Int) < (many : Int) := by omega
    obtain ⟨X, hX⟩ : ∃ X, X = i + k := ⟨_, rfl⟩
    have HBX : Hid (BR wr P v X) := Lib.hid (by rw [hX]; exact HBr.out)
    have hXl : X < 8 * l.length := by omega
    obtain ⟨Q, hQ⟩ : ∃ Q, Q = X / 8 := ⟨_, rfl⟩
    obtain ⟨r, hr⟩ : ∃ r, r = X % 8 := ⟨_, rfl⟩
    have hQl : Q < l.length := by omega
    obtain ⟨ao, cap, rfl, hcap, hmax, hnil, hel⟩ := hS
    unfold maxLen at hmax
    obtain ⟨b, off, rfl, hc⟩ := hel Q l[Q] (by simp)
    obtain ⟨B, hB⟩ : ∃ B, B = l[Q].toNat := ⟨_, rfl⟩
    have hB256 : B < 256 := by rw [hB]; exact l[Q].toNat_lt
    have cb : wr.cell? ⟨b, off + Q, none⟩ = some (.int .u8 B) := by
      have := hc 0 _ rfl
      rw [← hB] at this
      simpa using this
    have HT : Hid (B / 2 ^ (7 - r) % 2 = b01 (bitAt l (i + k))) := Lib.hid (by
      rw [bit_at]
      unfold bitAt
      rw [← hX, ← hQ, ← hr, hB]
      simp [List.getD_eq_getElem?_getD, hQl])
    obtain ⟨t, ht⟩ : ∃ t, t = b01 (bitAt l (i + k)) := ⟨_, rfl⟩
    have ht2 : t < 2 := by rw [ht]; exact b01_lt _
    have HNX : Hid (N * 2 + t = numB l i (k + 1)) := Lib.hid (by rw [ht, HN.out]; rfl)
    have hNX : N * 2 + t < 8589934592 := by rw [HNX.out]; exact numB_le l i (by omega)
    have hdiv : (X : Int) / 8 = (Q : Int) := by omega
    have hmod : (X : Int) % 8 = (r : Int) := by omega
    have hr8 : r < 8 := by omega
    have td : (X : Int).tdiv 8 = (Q : Int) := by rw [Int.tdiv_eq_ediv_of_nonneg (by omega)]; exact hdiv
    have tm : (X : Int).tmod 8 = (r : Int) := by rw [Int.tmod_eq_emod_of_nonneg (by omega)]; exact hmod
    have m1 : IntKind.i64.wrap (Q : Int) = (Q : Int) := IntWalk.i64_in _ (by omega)
    have m2 : IntKind.i64.wrap (7 - (r : Int)) = 7 - (r : Int) := IntWalk.i64_in _ (by omega)
    have m3 : (7 - (r : Int)).toNat = 7 - r := by omega
    have m4 : (0 : Int) ≤ 7 - (r : Int) := by omega
    have m5 : 7 - (r : Int) ≤ 8 := by omega
    have m6 : (Q : Int) < (l.length : Int) := by omega
    have m7 : IntKind.i64.wrap ((N : Int) * 2) = (N : Int) * 2 := IntWalk.i64_in _ (by omega)
    have m8 : IntKind.i64.wrap (t : Int) = (t : Int) := IntWalk.i64_in _ (by omega)
    have hand : bits .and .u8 ((B : Int) / 2 ^ (7 - r)) 1 = (t : Int) := by
      have e : (B : Int) / 2 ^ (7 - r) = ((B / 2 ^ (7 - r) : Nat) : Int) := by rw [Int.natCast_ediv]; simp
      rw [e, and1_u8 _ (Nat.lt_of_le_of_lt (Nat.div_le_self _ _) hB256), HT.out, ht]
    have hor : bits .or .i64 ((N : Int) * 2) (t : Int) = ((N * 2 + t : Nat) : Int) := or1_i64 N t hN ht2
    have HX := Lib.hid hX
    have hP := lt_of_blk HBX.out
    have c0 := (cell_of_block (i := 0) HBX.out).trans rfl
    have c1 := (cell_of_block (i := 1) HBX.out).trans rfl
    have f1 := froz_of_block (i := 1) HBX.out
    have HNEW : Hid (BR (wr.setCell ⟨P, 1, none⟩ (.int .i64 ((X : Int) + 1))) P (.slice (some ⟨b, off, none⟩) l.length cap) (i + (k + 1))) := Lib.hid (by
      unfold BR
      rw [heap_setCell_same _ P 1 _ _ (.int .i64 ((X : Int) + 1)) HBX.out]
      have e : ((i + (k + 1) : Nat) : Int) = (X : Int) + 1 := by omega
      rw [e]
      rfl)
    have HON : Hid (∀ n, Onl P w ((wr.drewN n).setCell ⟨P, 1, none⟩ (.int .i64 ((X : Int) + 1)))) := Lib.hid (fun n => (HOr.out.trans (Onl.drewN P wr n)).trans (Onl.set P _ 1 (.int .i64 ((X : Int) + 1))))
    clear hX hQ hr hB ht hdiv hmod hel hc hnil
    go_upto_region 5 with (fail)
    go_quiet (fail)
    clear td tm m1 m2 m3 m4 m5 m7 m8 hand hor
    go_wp2
    go_roundg (many - (k + 1))
    case measure => omega
    case rel => exact ⟨k + 1, N * 2 + t, by omega, by omega, by go_num, hNX, by go_num, HNX.out, HNEW.out, HON.out _⟩
  · obtain rfl : k = many := by omega
    have hkmz : ¬ (k : Int) < (k : Int) := by omega
    go_wp2
    go_ret
    exact ⟨ret_int (by rw [HN.out]), HBr.out, HOr.out⟩
end Go.Proofs.Ytpdeodoidlcdoaa

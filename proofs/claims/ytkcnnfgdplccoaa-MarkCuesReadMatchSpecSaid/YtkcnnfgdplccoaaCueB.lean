/- CueBytes of the program. -/
import Derived.Test.YtkcnnfgdplccoaaPutG
import Derived.Test.YtkcnnfgdplccoaaApp
namespace Go.Proofs.Ytkcnnfgdplccoaa
open Go.RowKit

/-- The bytes of a cue, before its sum. -/
def bodyC (c : Cue) : List UInt8 := pkD false (padO (fieldsL c))
def headC (n : Nat) : List UInt8 := pkD false ((bitsN 252 8 ++ bitsN n 12) ++ bitsN 15 4)
def noSum (c : Cue) : List UInt8 := headC ((bodyC c).length + 4) ++ bodyC c
def cueB (c : Cue) : List UInt8 := noSum c ++ sumBytes (crc (noSum c))
def cueR (c : Cue) : List UInt8 := if checkC c = 0 then cueB c else []
theorem padO_len (L : List Bool) : (padO L).length ≤ L.length + 7 := by unfold padO; simp; omega
theorem bodyC_len (c : Cue) : (bodyC c).length ≤ 14 := by
  unfold bodyC
  rw [pkD_len]
  have h1 := padO_len (fieldsL c)
  have h2 := fieldsL_len c
  omega
theorem headC_len (n : Nat) : (headC n).length = 3 := by
  unfold headC
  rw [pkD_len]
  simp [bitsN_len]

theorem putZ (z m : Int) (n many : Nat) (hz : z = n) (hm' : m = many) (w : World) (P : Nat) (L : List Bool) (v : Value) (hb : BL w P L v) (hm : many ≤ 60) (hn : n < 1152921504606846976) (hL : L.length ≤ 1000) :
    Calls Try.prog 19 #[.pointer (some ⟨P, 0, none⟩), .int .i64 z, .int .i64 m] w (PutP w P (L ++ bitsN n many)) := by
  subst hz hm'
  exact put_any w P L v n many hb hm hn hL
theorem BL.below {w w' : World} {P B : Nat} {L : List Bool} {v : Value} (h : BL w P L v) (hb : Below B w w') (hB : w.heap.size ≤ B) : BL w' P L v :=
  ⟨(hb.block P (Nat.lt_of_lt_of_le (lt_of_block h.1) hB)).trans h.1, h.2.below hb hB⟩

set_option maxRecDepth 100000 in
set_option maxHeartbeats 4000000 in
theorem CueBytes_any (c : Cue) (w : World) : Calls Try.prog 10 #[agC c] w (SlPost w 1 encU (cueR c) (checkC c)) := by
  have HB0 := Lib.hid ((Below.refl w.heap.size w).alloc (Nat.le_refl _) (boxC c))
  have HK0 := Lib.hid (block_new w (boxC c))
  have HC := Lib.hid (fun W => checkCue_any c W)
  have HV : Hid (cueR c = if checkC c = 0 then cueB c else []) := Lib.hid rfl
  have HZ := Lib.hid (fun (h : checkC c = 0) => checkC_zero h)
  obtain ⟨F, hF⟩ : ∃ F, F = checkC c := ⟨_, rfl⟩
  rw [← hF] at HC HV HZ ⊢
  generalize cueR c = R at HV ⊢
  clear hF
  cases e1 : (F != 0)
  case true =>
    have hne : F ≠ 0 := by simpa using e1
    have hv2 : Hid (R = []) := Lib.hid (by rw [HV.out, if_neg hne])
    clear hne
    go_enter Try.func10, Try.ntmps10
    go_wp2_with fail
    refine (HC.out _).mono ?_
    rintro e w1 ⟨rfl, hb⟩
    go_wp2
    go_ret2
    exact SlPost.mk rfl (by rw [hv2.out]; exact Sl.nil) (HB0.out.thru hb)
  obtain rfl : F = 0 := by simpa using e1
  have HR : Hid (R = cueB c) := Lib.hid (by rw [HV.out]; rfl)
  obtain ⟨hk, _, ⟨hev, hti, hle⟩, _⟩ := HZ.out rfl
  clear HV HZ e1
  obtain ⟨ki, ev, no, ti, le, au⟩ := c
  simp only at hk hev hti hle
  obtain ⟨k, rfl⟩ := Int.eq_ofNat_of_zero_le hk.1
  obtain ⟨e, rfl⟩ := Int.eq_ofNat_of_zero_le hev.1
  obtain ⟨t, rfl⟩ := Int.eq_ofNat_of_zero_le hti.1
  obtain ⟨q, rfl⟩ := Int.eq_ofNat_of_zero_le hle.1
  have hbl := bodyC_len ⟨k, e, no, t, q, au⟩
  have HCB : Hid (cueB ⟨k, e, no, t, q, au⟩ = (headC ((bodyC ⟨k, e, no, t, q, au⟩).length + 4) ++ bodyC ⟨k, e, no, t, q, au⟩) ++ sumBytes (crc (headC ((bodyC ⟨k, e, no, t, q, au⟩).length + 4) ++ bodyC ⟨k, e, no, t, q, au⟩))) := Lib.hid rfl
  have HBY : Hid (pkD false (padO (fieldsL ⟨k, e, no, t, q, au⟩)) = bodyC ⟨k, e, no, t, q, au⟩) := Lib.hid rfl
  have hpl := padO_len (fieldsL ⟨k, e, no, t, q, au⟩)
  have hfl := fieldsL_len ⟨k, e, no, t, q, au⟩
  generalize cueB ⟨k, e, no, t, q, au⟩ = CB at HR HCB
  have HPF := Lib.hid (fun W P v (hb : BL W P [] v) => putF_nn W P v k e t q no au hb (by omega) (by omega) (by omega) (by omega))
  generalize bodyC ⟨k, e, no, t, q, au⟩ = BY at hbl HCB HBY
  generalize padO (fieldsL ⟨k, e, no, t, q, au⟩) = PL at HPF HBY hpl
  go_enter Try.func10, Try.ntmps10
  go_wp2_with fail
  refine (HC.out _).mono ?_
  rintro e1 w1 ⟨rfl, hb⟩
  have HB1 := Lib.hid (HB0.out.thru hb)
  have HK1 := Lib.hid ((hb.block _ (lt_of_block HK0.out)).trans HK0.out)
  have hsz1 := HB1.out.size
  have HP1 : Hid (BL (w1.alloc (.cells #[.slice none 0 0, .int .i64 0] 42)) w1.heap.size [] (.slice none 0 0)) := Lib.hid ⟨block_new w1 _, Own.nil⟩
  have hk2 := (Below.heap_alloc w1 (.cells #[.slice none 0 0, .int .i64 0] 42) _ (lt_of_block HK1.out)).trans HK1.out
  have HW1 : Hid (Below w.heap.size w (w1.alloc (.cells #[.slice none 0 0, .int .i64 0] 42))) := Lib.hid (HB1.out.alloc hsz1 _)
  have b0 := (cell_of_block (i := 0) HK1.out).trans rfl
  have b1 := (cell_of_block (i := 1) HK1.out).trans rfl
  have b2 := (cell_of_block (i := 2) HK1.out).trans rfl
  have b3 := (cell_of_block (i := 3) HK1.out).trans rfl
  have b4 := (cell_of_block (i := 4) HK1.out).trans rfl
  have b5 := (cell_of_block (i := 5) HK1.out).trans rfl
  have hlb := lt_of_block HK1.out
  clear hb hk2
  go_wp2_with fail
  refine (HPF.out _ _ _ HP1.out).mono ?_
  rintro e1 w2 ⟨rfl, ⟨v2, hb2⟩, hw2, hk2⟩
  have HB2 := Lib.hid (HW1.out.trans (hw2.mono hsz1))
  obtain ⟨fo, fcap, rfl, hfcap, hfmax, _, _⟩ := Own.sl hb2.2 encU_len
  rw [HBY.out] at hb2 hfcap
  unfold maxLen at hfmax
  have HL1 := Lib.hid hb2
  have hsz2 := HB2.out.size
  have hlp := lt_of_block hb2.1
  -- the second list
  have HP2 : Hid (BL (w2.alloc (.cells #[.slice none 0 0, .int .i64 0] 42)) w2.heap.size [] (.slice none 0 0)) := Lib.hid ⟨block_new w2 _, Own.nil⟩
  have HL2 := Lib.hid (hb2.alloc (.cells #[.slice none 0 0, .int .i64 0] 42))
  have HW2 : Hid (Below w.heap.size w (w2.alloc (.cells #[.slice none 0 0, .int .i64 0] 42))) := Lib.hid (HB2.out.alloc hsz2 _)
  clear hb2 hw2 hk2 HPF HP1 b0 b1 b2 b3 b4 b5 hlb
  go_wp2_with fail
  refine (putL 8 8 rfl _ _ [] _ 252 HP2.out (by omega) (by omega) (by simp)).mono ?_
  rintro e1 w3 ⟨rfl, ⟨v3, hb3⟩, hw3, hk3⟩
  have hA2 : Below w2.heap.size w2 (w2.alloc (.cells #[.slice none 0 0, .int .i64 0] 42)) := (Below.refl _ _).alloc (Nat.le_refl _) _
  have HB3 := Lib.hid hb3
  have HW3 := Lib.hid (hA2.trans hw3)
  have hF3 := HL1.out.below HW3.out (Nat.le_refl _)
  have c0 := (cell_of_block (i := 0) hF3.1).trans rfl
  have hl3 := lt_of_block hF3.1
  clear hb3 hw3 hk3 hA2 hF3
  go_wp2_with fail
  refine (putZ ((BY.length : Int) + 4) 12 (BY.length + 4) 12 (by omega) rfl _ _ _ v3 HB3.out (by omega) (by omega) (by simp [bitsN_len])).mono ?_
  rintro e1 w4 ⟨rfl, ⟨v4, hb4⟩, hw4, hk4⟩
  have HB4 := Lib.hid hb4
  have HW4 := Lib.hid (HW3.out.trans hw4)
  clear hb4 hw4 hk4 c0 hl3
  go_wp2_with fail
  refine (putL 4 4 rfl _ _ _ v4 15 HB4.out (by omega) (by omega) (by simp [bitsN_len])).mono ?_
  rintro e1 w5 ⟨rfl, ⟨v5, hb5⟩, hw5, hk5⟩
  have HW5 := Lib.hid (HW4.out.trans hw5)
  have hhl := headC_len (BY.length + 4)
  have HHC : Hid (pkD false ([] ++ bitsN 252 8 ++ bitsN (BY.length + 4) 12 ++ bitsN 15 4) = headC (BY.length + 4)) := Lib.hid (by unfold headC; rw [List.nil_append])
  unfold BL at hb5
  rw [HHC.out] at hb5
  generalize headC (BY.length + 4) = HC5 at hb5 hhl HCB HHC
  have hhl3 : HC5.length ≤ 3 := by omega
  clear hhl
  obtain ⟨lo, lcap, rfl, hlcap, hlmax, _, _⟩ := Own.sl hb5.2 encU_len
  unfold maxLen at hlmax
  have HB5 := Lib.hid hb5.2
  have c0 := (cell_of_block (i := 0) hb5.1).trans rfl
  have hl5 := lt_of_block hb5.1
  have hF5 := HL1.out.below HW5.out (Nat.le_refl _)
  have d0 := (cell_of_block (i := 0) hF5.1).trans rfl
  have hl6 := lt_of_block hF5.1
  have HSB := Lib.hid (by have := hF5.2; rw [HBY.out] at this; exact this.sl encU_len : Sl w5 1 encU (.slice fo BY.length fcap) BY)
  have HBW5 := Lib.hid (HB2.out.trans (HW5.out.mono hsz2))
  clear hb5 hw5 hk5 hF5 HHC HW3 HW4 HB3 HB4
  have HB5D : Hid (Own w5.drew (w2.heap.size + 1) 5 1 encU (.slice lo HC5.length lcap) HC5) := Lib.hid (show Own w5 (w2.heap.size + 1) 5 1 encU (.slice lo HC5.length lcap) HC5 from HB5.out)
  have HSBD : Hid (Sl w5.drew 1 encU (.slice fo BY.length fcap) BY) := Lib.hid (show Sl w5 1 encU (.slice fo BY.length fcap) BY from HSB.out)
  have hbs : w2.heap.size + 1 ≤ w5.drew.heap.size := (by omega : w2.heap.size + 1 ≤ w5.heap.size)
  go_upto_region 10 with (fail)
  go_still_tail 8, (by kernel_rfl)
  change wpList _ _ _ _ _ w5.drew
  go_wp2_with (at_builtin; refine wpList_extend (v := .slice lo HC5.length lcap) (u := .slice fo BY.length fcap) (l := HC5) (m := BY) rfl _ _ 22 rfl slU encU_len (fun _ => rfl) rfl rfl HB5D.out HSBD.out (by omega) hbs ?_; intro v6 w6 ho6 hb6; obtain ⟨ao6, L6, cp6, rfl⟩ := Own.slv encU_len ho6; have HO6 := Lib.hid ho6; have HB6 := Lib.hid (HBW5.out.trans (((Below.refl _ _).drew.trans hb6).mono (by omega))); have HS6 := Lib.hid (ho6.sl encU_len); have hsz6 : w2.heap.size + 1 ≤ w6.heap.size := by have := hb6.size; have h5 : w5.drew.heap.size = w5.heap.size := rfl; omega)
  have HSUM := Lib.hid (sum_any w6 (HC5 ++ BY) _ HS6.out)
  have hlt := crc_lt (HC5 ++ BY)
  have hC : Hid ((sumBytes (crc (HC5 ++ BY))).flatMap encU = [.int .u8 ((crc (HC5 ++ BY) : Nat) / 16777216 : Int), .int .u8 ((crc (HC5 ++ BY) : Nat) / 65536 % 256 : Int), .int .u8 ((crc (HC5 ++ BY) : Nat) / 256 % 256 : Int), .int .u8 ((crc (HC5 ++ BY) : Nat) % 256 : Int)]) := Lib.hid (by
    simp [sumBytes, encU, UInt8.toNat_ofNat']
    omega)
  have HCB3 : Hid (R = (HC5 ++ BY) ++ sumBytes (crc (HC5 ++ BY))) := Lib.hid (by rw [HR.out]; exact HCB.out)
  have hnl : ((HC5 ++ BY).length + 4) * 1 ≤ 140737488355328 := by simp; omega
  have HNL := Lib.hid hnl
  generalize HC5 ++ BY = X at HSUM hlt hC HCB3 HO6 HNL
  clear hnl HCB HS6
  obtain ⟨c, hc⟩ : ∃ c, c = crc X := ⟨_, rfl⟩
  rw [← hc] at HSUM hlt hC HCB3
  clear hc
  go_wp2_with fail
  refine HSUM.out.mono ?_
  rintro e1 w7 ⟨rfl, rfl⟩
  go_wp2_with (at_builtin; refine wpList_pushes (m := 4) rfl _ _ 22 rfl slU encU_len (fun _ => rfl) rfl rfl (sumBytes c) hC.out rfl HO6.out rfl HNL.out hsz6 ?_; intro v8 w8 ho8 hb8; have HO8 := Lib.hid ho8; have HB8 := Lib.hid (HB6.out.trans (hb8.mono (by omega))); clear ho8 hb8)
  go_ret2
  exact SlPost.mk rfl (by rw [HCB3.out]; exact HO8.out.sl encU_len) HB8.out
end Go.Proofs.Ytkcnnfgdplccoaa

/- CueBytes of the reference. -/
import Derived.Test.YtkcnnfgdplccoaaRPad
namespace Go.Proofs.Ytkcnnfgdplccoaa
open Go.RowKit

theorem crc_lt' (l : List UInt8) : crc l < 4294967296 := crc_lt l
theorem cueB_ref (c : Cue) : cueB c = (pkD true ((bitsN 252 8 ++ bitsN ((bodyC c).length + 4) 12) ++ [true, true, true, true]) ++ bodyC c) ++ pkD true (bitsN (crc (pkD true ((bitsN 252 8 ++ bitsN ((bodyC c).length + 4) 12) ++ [true, true, true, true]) ++ bodyC c)) 32) := by
  rw [show [true, true, true, true] = bitsN 15 4 from rfl, headC_ref, sum32]
  rfl

theorem bitsRZ (z m : Int) (n many : Nat) (hz : z = n) (hm' : m = many) (hm : many ≤ 60) (w : World) :
    Calls Try.prog 32 #[.int .i64 z, .int .i64 m] w (BitsRet w (bitsN n many)) := by
  subst hz hm'
  exact bitsR_any n many hm w

set_option maxRecDepth 100000 in
set_option maxHeartbeats 4000000 in
theorem cueBytesR_any (k e t q : Nat) (no au : Bool) (w : World) :
    Calls Try.prog 20 #[agC ⟨k, e, no, t, q, au⟩] w (OwnRet w 5 1 encU (cueB ⟨k, e, no, t, q, au⟩)) := by
  have HFL := Lib.hid (fun W => fieldsR_any k e t q no au W)
  have hfl := fieldsL_len ⟨k, e, no, t, q, au⟩
  have hbl := bodyC_len ⟨k, e, no, t, q, au⟩
  have HBY := Lib.hid (bodyC_ref ⟨k, e, no, t, q, au⟩)
  have HV := Lib.hid (cueB_ref ⟨k, e, no, t, q, au⟩)
  have HB0 := Lib.hid ((Below.refl w.heap.size w).alloc (Nat.le_refl _) (boxC ⟨k, e, no, t, q, au⟩))
  generalize cueB ⟨k, e, no, t, q, au⟩ = R at HV ⊢
  generalize bodyC ⟨k, e, no, t, q, au⟩ = BY at HV HBY hbl
  generalize fieldsL ⟨k, e, no, t, q, au⟩ = FL at HFL HBY hfl
  go_enter Try.func20, Try.ntmps20
  go_wp2_with fail
  refine (HFL.out _).mono ?_
  rintro e1 w1 ⟨v1, rfl, ho, hb⟩
  have HS1 := Lib.hid (ho.sl encT_len)
  have HB1 := Lib.hid hb
  clear ho hb
  go_wp2_with fail
  refine (packedR_any _ FL _ HS1.out (by omega)).mono ?_
  rintro e1 w2 ⟨v2, rfl, ho, hb⟩
  rw [HBY.out] at ho
  obtain ⟨a2, c2, rfl, hc2, hm2, _, _⟩ := Own.sl ho encU_len
  unfold maxLen at hm2
  have HS2 := Lib.hid (ho.sl encU_len)
  have HB2 := Lib.hid ((HB0.out.thru HB1.out).thru hb)
  clear ho hb HS1 HB1
  go_wp2_with fail
  refine (bitsRL 8 8 rfl 252 (by omega) _).mono ?_
  rintro e1 w3 ⟨v3, rfl, ho, hb⟩
  have HO3 := Lib.hid ho
  have HW3 := Lib.hid hb
  have HB3 := Lib.hid (HB2.out.thru hb)
  clear ho hb
  go_wp2_with fail
  refine (bitsRZ ((BY.length : Int) + 4) 12 (BY.length + 4) 12 (by omega) rfl (by omega) _).mono ?_
  rintro e1 w4 ⟨v4, rfl, ho, hb⟩
  have HQ4 := Lib.hid (ho.sl encT_len)
  have HO4 := Lib.hid (HO3.out.below hb (Nat.le_refl _))
  have HW4 := Lib.hid (HW3.out.trans (hb.mono HW3.out.size))
  have HB4 := Lib.hid (HB3.out.thru hb)
  have hsz4 : w2.heap.size ≤ w4.heap.size := HW4.out.size
  clear ho hb HO3 HB3 HW3 HB4
  obtain ⟨a3, m3, c3, rfl⟩ := Own.slv encT_len HO4.out
  go_wp2_with (at_builtin; first | (refine wpList_extend (v := .slice a3 m3 c3) (u := v4) (l := bitsN 252 8) (m := bitsN (BY.length + 4) 12) rfl _ _ 50 rfl slI encT_len (fun _ => rfl) rfl rfl HO4.out HQ4.out (by simp [bitsN_len]) hsz4 ?_; intro v5 w5 ho5 hb5; have HO5 := Lib.hid ho5; have HB5 := Lib.hid (HW4.out.trans hb5);  have hsz5 := HB5.out.size; clear ho5 hb5) | (refine wpList_pushes (m := 4) rfl _ _ 50 rfl slI encT_len (fun _ => rfl) rfl rfl [true, true, true, true] rfl rfl HO5.out rfl (by simp [bitsN_len]) hsz5 ?_; intro v6 w6 ho6 hb6; have HO6 := Lib.hid ho6; have HB6 := Lib.hid (HB5.out.trans hb6); have hsz6 := HB6.out.size; clear ho6 hb6))
  refine (packedR_any _ _ _ (HO6.out.sl encT_len) (by simp [bitsN_len])).mono ?_
  rintro e1 w7 ⟨v7, rfl, ho, hb⟩
  have HO7 := Lib.hid (ho.low hsz6)
  have HW7 := Lib.hid (HB6.out.trans (hb.mono hsz6))
  have HS7 := Lib.hid (HS2.out.below HW7.out (Nat.le_refl _))
  have HB7 := Lib.hid (HB2.out.thru HW7.out)
  have hsz7 := HW7.out.size
  clear ho hb
  have HL7 : (pkD true ((bitsN 252 8 ++ bitsN (BY.length + 4) 12) ++ [true, true, true, true])).length ≤ 3 := by rw [pkD_len]; simp [bitsN_len]
  generalize pkD true ((bitsN 252 8 ++ bitsN (BY.length + 4) 12) ++ [true, true, true, true]) = HD at HO7 HV HL7
  obtain ⟨a7, m7, c7, rfl⟩ := Own.slv encU_len HO7.out
  go_wp2_with (at_builtin; refine wpList_extend (v := .slice a7 m7 c7) (u := .slice a2 BY.length c2) (l := HD) (m := BY) rfl _ _ 22 rfl slU encU_len (fun _ => rfl) rfl rfl HO7.out HS7.out (by omega) hsz7 ?_; intro v8 w8 ho8 hb8; obtain ⟨a8, m8, c8, rfl⟩ := Own.slv encU_len ho8; have HO8 := Lib.hid ho8; have HW8 := Lib.hid (HW7.out.trans hb8); have hsz8 := HW8.out.size; clear ho8 hb8)
  refine (sumR_any w8 (HD ++ BY) _ (HO8.out.sl encU_len)).mono ?_
  rintro e1 w9 ⟨rfl, rfl⟩
  go_wp2_with fail
  refine (bitsRZ _ 32 (crc (HD ++ BY)) 32 rfl rfl (by omega) _).mono ?_
  rintro e1 w10 ⟨v10, rfl, ho, hb⟩
  have HT10 := Lib.hid (ho.sl encT_len)
  have HO10 := Lib.hid (HO8.out.below hb (Nat.le_refl _))
  have HW10 := Lib.hid (HW8.out.trans (hb.mono hsz8))
  clear ho hb
  go_wp2_with fail
  refine (packedR_any _ _ _ HT10.out (by simp [bitsN_len])).mono ?_
  rintro e1 w11 ⟨v11, rfl, ho, hb⟩
  have HQ11 := Lib.hid (ho.sl encU_len)
  have HO11 := Lib.hid (HO10.out.below hb (Nat.le_refl _))
  have HW11 := Lib.hid (HW10.out.trans (hb.mono HW10.out.size))
  have hsz11 := HW11.out.size
  clear ho hb
  have hpl := pkD_len true (bitsN (crc (HD ++ BY)) 32)
  rw [bitsN_len] at hpl
  generalize pkD true (bitsN (crc (HD ++ BY)) 32) = SB at HQ11 HV hpl
  have hsb : SB.length ≤ 4 := by omega
  clear hpl
  go_wp2_with (at_builtin; refine wpList_extend (v := .slice a8 m8 c8) (u := v11) (l := HD ++ BY) (m := SB) rfl _ _ 22 rfl slU encU_len (fun _ => rfl) rfl rfl HO11.out HQ11.out (by simp; omega) hsz11 ?_; intro v12 w12 ho12 hb12; have HO12 := Lib.hid ho12; have HW12 := Lib.hid (HW11.out.trans hb12); clear ho12 hb12)
  go_ret
  exact OwnRet.mk (by rw [HV.out]; exact HO12.out.low HB2.out.size) (HB2.out.thru HW12.out)
end Go.Proofs.Ytkcnnfgdplccoaa

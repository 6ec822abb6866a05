/- CueBytes of the reference. -/
import Derived.Test.YtkcnnfgdplccoaaRCb7
import Derived.Test.YtkcnnfgdplccoaaCueR
namespace Go.Proofs.Ytkcnnfgdplccoaa
open Go.RowKit

set_option maxRecDepth 100000 in
set_option maxHeartbeats 4000000 in
theorem CueBytesR_any (c : Cue) (w : World) : Calls Try.prog 11 #[agC c] w (SlPost w 1 encU (cueR c) (checkC c)) := by
  have HB0 := Lib.hid ((Below.refl w.heap.size w).alloc (Nat.le_refl _) (boxC c))
  have HK0 := Lib.hid (block_new w (boxC c))
  have HC := Lib.hid (fun W => checkCueR_any c W)
  have HV : Hid (cueR c = if checkC c = 0 then cueB c else []) := Lib.hid rfl
  have HZ := Lib.hid (fun (h : checkC c = 0) => checkC_zero h)
  obtain ⟨F, hF⟩ : ∃ F, F = checkC c := ⟨_, rfl⟩
  rw [← hF] at HC HV HZ ⊢
  generalize cueR c = R at HV ⊢
  clear hF
  cases e1 : (F != 0)
  case true =>
    have hne : F ≠ 0 := by simpa using e1
    have hv2 : Hid (R = []) := Lib.hid (by rw [HV.out, if_neg hne])
    clear hne
    go_enter Try.func11, Try.ntmps11
    go_wp2_with fail
    refine (HC.out _).mono ?_
    rintro e w1 ⟨rfl, hb⟩
    go_wp2
    go_ret2
    exact SlPost.mk rfl (by rw [hv2.out]; exact Sl.nil) (HB0.out.thru hb)
  obtain rfl : F = 0 := by simpa using e1
  have HR : Hid (R = cueB c) := Lib.hid (by rw [HV.out]; rfl)
  obtain ⟨hk, _, ⟨hev, hti, hle⟩, _⟩ := HZ.out rfl
  clear HV HZ e1
  obtain ⟨ki, ev, no, ti, le, au⟩ := c
  simp only at hk hev hti hle
  obtain ⟨k, rfl⟩ := Int.eq_ofNat_of_zero_le hk.1
  obtain ⟨e, rfl⟩ := Int.eq_ofNat_of_zero_le hev.1
  obtain ⟨t, rfl⟩ := Int.eq_ofNat_of_zero_le hti.1
  obtain ⟨q, rfl⟩ := Int.eq_ofNat_of_zero_le hle.1
  have HCB := Lib.hid (fun W => cueBytesR_any k e t q no au W)
  generalize cueB ⟨k, e, no, t, q, au⟩ = CB at HR HCB
  go_enter Try.func11, Try.ntmps11
  go_wp2_with fail
  refine (HC.out _).mono ?_
  rintro e1 w1 ⟨rfl, hb⟩
  have HB1 := Lib.hid (HB0.out.thru hb)
  have HK1 := Lib.hid ((hb.block _ (lt_of_block HK0.out)).trans HK0.out)
  have hsz1 := HB1.out.size
  have b0 := (cell_of_block (i := 0) HK1.out).trans rfl
  have b1 := (cell_of_block (i := 1) HK1.out).trans rfl
  have b2 := (cell_of_block (i := 2) HK1.out).trans rfl
  have b3 := (cell_of_block (i := 3) HK1.out).trans rfl
  have b4 := (cell_of_block (i := 4) HK1.out).trans rfl
  have b5 := (cell_of_block (i := 5) HK1.out).trans rfl
  have hlb := lt_of_block HK1.out
  clear hb
  go_wp2_with fail
  refine (HCB.out _).mono ?_
  rintro e1 w2 ⟨v2, rfl, ho, hb⟩
  have HO2 := Lib.hid ho
  have HB2 := Lib.hid (HB1.out.thru hb)
  clear ho hb
  go_wp2
  go_ret2
  exact SlPost.mk rfl (by rw [HR.out]; exact HO2.out.sl encU_len) HB2.out
end Go.Proofs.Ytkcnnfgdplccoaa

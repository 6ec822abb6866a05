/- Steps of the reference. -/
import Derived.Test.YtlomnfaedhgciaaStpW
import Derived.Test.YtlomnfaedhgciaaWrgR
namespace Go.Proofs.Ytlomnfaedhgciaa
open Go.RowKit

/-- The array, when numbers from i on are done. -/
def LS (nr : Nat → Nat → Bool) (N : Nat) (wb : World) (bm i : Nat) (w : World) : Prop :=
  ∃ mx : List Int, Arr w bm mx ∧ mx.length = N ∧ (∀ j, i ≤ j → j < N → mx[j]? = some ((lf nr N j : Nat) : Int)) ∧ (∀ j, j < i → j < N → mx[j]? = some 0) ∧ Below wb.heap.size wb w
/-- The array, when of number q those below m have been tried. -/
def LI (nr : Nat → Nat → Bool) (N : Nat) (wb : World) (bm q m : Nat) (w : World) : Prop :=
  ∃ mx : List Int, Arr w bm mx ∧ mx.length = N ∧ (∀ j, q < j → j < N → mx[j]? = some ((lf nr N j : Nat) : Int)) ∧ (∀ j, j < q → j < N → mx[j]? = some 0) ∧ mx[q]? = some ((lfA nr (lf nr N) q m : Nat) : Int) ∧ Below wb.heap.size wb w
theorem LS.start {nr : Nat → Nat → Bool} {N : Nat} {wb w : World} {bm q : Nat} (h : LS nr N wb bm (q + 1) w) (hq : q < N) (hbm : wb.heap.size ≤ bm) : LI nr N wb bm q (q + 1) (w.setCell ⟨bm, q, none⟩ (.int .i64 1000)) := by
  obtain ⟨mx, h1, h3, h5, h6, h10⟩ := h
  have e := lfA_init nr (lf nr N) q (q + 1) (Nat.le_refl _)
  refine ⟨mx.set q 1000, h1.set q _, by simpa using h3, fun j hj hjN => ?_, fun j hj hjN => ?_, ?_, h10.setCell hbm _⟩
  · rw [List.getElem?_set_ne (by omega)]; exact h5 j (by omega) hjN
  · rw [List.getElem?_set_ne (by omega)]; exact h6 j (by omega) hjN
  · rw [List.getElem?_set_self (by omega), e]; rfl
theorem LI.toLS {nr : Nat → Nat → Bool} {N : Nat} {wb w : World} {bm q : Nat} (h : LI nr N wb bm q N w) (hq : q + 1 < N) : LS nr N wb bm q w := by
  obtain ⟨mx, h1, h3, h5, h6, h7, h10⟩ := h
  rw [← lf_eq hq] at h7
  refine ⟨mx, h1, h3, fun j hj hjN => ?_, h6, h10⟩
  by_cases e : j = q
  · subst e; exact h7
  · exact h5 j (by omega) hjN
theorem LI.below {nr : Nat → Nat → Bool} {N : Nat} {wb w w' : World} {bm q m : Nat} (h : LI nr N wb bm q m w) (hb : Below w.heap.size w w') : LI nr N wb bm q m w' := by
  obtain ⟨mx, h1, h3, h5, h6, h7, h10⟩ := h
  exact ⟨mx, h1.below hb, h3, h5, h6, h7, h10.trans (hb.mono h10.size)⟩
theorem LI.drew {nr : Nat → Nat → Bool} {N : Nat} {wb w : World} {bm q m : Nat} (h : LI nr N wb bm q m w) : LI nr N wb bm q m w.drew := by
  obtain ⟨mx, h1, h3, h5, h6, h7, h10⟩ := h
  exact ⟨mx, h1, h3, h5, h6, h7, h10.drew⟩
theorem LI.skip {nr : Nat → Nat → Bool} {N : Nat} {wb w : World} {bm q m : Nat} (h : LI nr N wb bm q m w) (hno : nr q m = false) : LI nr N wb bm q (m + 1) w := by
  obtain ⟨mx, h1, h3, h5, h6, h7, h10⟩ := h
  have e1 : lfA nr (lf nr N) q (m + 1) = lfA nr (lf nr N) q m := by
    show (if q < m ∧ nr q m = true then min (lfA nr (lf nr N) q m) (lf nr N m + 1) else lfA nr (lf nr N) q m) = _
    rw [if_neg (fun h => by rw [hno] at h; cases h.2)]
  exact ⟨mx, h1, h3, h5, h6, by rw [e1]; exact h7, h10⟩
theorem LI.take {nr : Nat → Nat → Bool} {N : Nat} {wb w : World} {bm q m : Nat} (h : LI nr N wb bm q m w) (hqm : q < m) (hqN : q < N) (hbm : wb.heap.size ≤ bm) (hyes : nr q m = true) (z : Int) (hz : z = ((min (lfA nr (lf nr N) q m) (lf nr N m + 1) : Nat) : Int)) :
    LI nr N wb bm q (m + 1) (w.setCell ⟨bm, q, none⟩ (.int .i64 z)) := by
  obtain ⟨mx, h1, h3, h5, h6, h7, h10⟩ := h
  have e1 : lfA nr (lf nr N) q (m + 1) = min (lfA nr (lf nr N) q m) (lf nr N m + 1) := by
    show (if q < m ∧ nr q m = true then min (lfA nr (lf nr N) q m) (lf nr N m + 1) else lfA nr (lf nr N) q m) = _
    rw [if_pos ⟨hqm, hyes⟩]
  refine ⟨mx.set q z, h1.set q _, by simpa using h3, fun j hj hjN => ?_, fun j hj hjN => ?_, ?_, h10.setCell hbm _⟩
  · rw [List.getElem?_set_ne (by omega)]; exact h5 j hj hjN
  · rw [List.getElem?_set_ne (by omega)]; exact h6 j hj hjN
  · rw [List.getElem?_set_self (by omega), e1, hz]
theorem rmF_eq (l : List Rng) (n d : Int) : rmF l n d = if checkR l ≠ 0 then checkR l else if mostB n d = true then 1 else 0 := rfl

set_option maxRecDepth 100000 in
set_option maxHeartbeats 4000000 in
theorem stepsR_any (w : World) (l : List Rng) (v : Value) (n d : Int) (hl : Sl w 4 encR v l) (hw : ∀ x, x ∈ l → WfR x) :
    Calls Try.prog 9 #[v, .agg #[.int .i64 n, .int .i64 d]] w (SlP3 w (stpL l n d) (stpB l n d) (rmF l n d)) := by
  have HR := Lib.hid (fun (W : World) (hb : Below w.heap.size w W) => checkRenR_any W l v (hl.below hb (Nat.le_refl _)) hw)
  have HM := Lib.hid (fun (W : World) => isStep_any n d W)
  have HF : Hid (rmF l n d = if checkR l ≠ 0 then checkR l else if mostB n d = true then 1 else 0) := Lib.hid (rmF_eq l n d)
  have HZ := Lib.hid (fun (h : rmF l n d = 0) => rmF_zero h)
  have HL : Hid (rmF l n d ≠ 0 → stpB l n d = false ∧ stpL l n d = []) := Lib.hid (fun h => ⟨by unfold stpB; rw [if_neg (fun h2 => h h2.1)], by unfold stpL; rw [if_neg (fun h2 => h h2.1)]⟩)
  have hFF : Hid (∀ F : Int, F = rmF l n d → F = 0 → rmF l n d = 0) := Lib.hid (fun F h1 h2 => by rw [← h1]; exact h2)
  obtain ⟨F, hF⟩ : ∃ F, F = rmF l n d := ⟨_, rfl⟩
  have hFz := fun h => hFF.out F hF h
  rw [← hF] at HF HZ HL ⊢
  have HCK := Lib.hid (fun (h : checkR l = 0) => checkR_zero h)
  have HMK := Lib.hid (fun (h : mostF n d = 0) => mostF_zero h)
  generalize checkR l = r1 at HR HZ HCK HF
  have HSL := Lib.hid hl
  have HK := Lib.hid (block_new w (.cells #[.int .i64 n, .int .i64 d] 24))
  have HB := Lib.hid ((Below.refl w.heap.size w).alloc (Nat.le_refl _) (.cells #[.int .i64 n, .int .i64 d] 24))
  obtain ⟨ao, cap, rfl, hcap, hmax, hnil, hel⟩ := hl
  unfold maxLen at hmax
  have HMB : Hid (mostF n d = if mostB n d = true then 1 else 0) := Lib.hid rfl
  generalize mostB n d = mb at HM HF HMB
  clear hF hw hel hFF
  go_enter Try.func9, Try.ntmps9
  go_wp2_with fail
  refine (HR.out _ HB.out).mono ?_
  rintro e w1 ⟨rfl, hb⟩
  have HB1 := Lib.hid (HB.out.thru hb)
  have HK1 := Lib.hid ((hb.block _ (lt_of_block HK.out)).trans HK.out)
  clear hb HR
  cases e1 : (r1 != 0)
  case true =>
    have hne : r1 ≠ 0 := by simpa using e1
    have hv : Hid (r1 = F) := Lib.hid (by rw [HF.out, if_pos hne])
    have hv2 := Lib.hid (HL.out (by rw [← hv.out]; exact hne))
    clear hne
    go_wp2
    go_ret3
    exact SlP3.mk hv.out hv2.out.1 (by rw [hv2.out.2]; exact Sl.nil) HB1.out
  obtain rfl : r1 = 0 := by simpa using e1
  have hc1 := HCK.out rfl
  obtain ⟨hlen, _, hrng⟩ := hc1
  have HRNG := Lib.hid (fun x hx => (hrng x hx).2.1)
  clear hrng HCK
  have c0 := (cell_of_block (i := 0) HK1.out).trans rfl
  have c1 := (cell_of_block (i := 1) HK1.out).trans rfl
  go_wp2_with fail
  refine (HM.out _).mono ?_
  rintro e w2 ⟨rfl, hb⟩
  have HB2 := Lib.hid (HB1.out.thru hb)
  have HK2 := Lib.hid ((hb.block _ (lt_of_block HK1.out)).trans HK1.out)
  clear hb HM c0 c1 e1 HK1
  cases mb
  case true =>
    have hv : Hid (1 = F) := Lib.hid (by rw [HF.out]; rfl)
    have hv2 := Lib.hid (HL.out (by rw [← hv.out]; decide))
    go_wp2
    go_ret3
    exact SlP3.mk hv.out hv2.out.1 (by rw [hv2.out.2]; exact Sl.nil) HB2.out
  have hF0 : F = 0 := by rw [HF.out]; rfl
  obtain rfl := hF0
  have hFz := hFz rfl
  have hc2 := HMK.out (by rw [HMB.out]; rfl)
  obtain ⟨hn0, hd0, _⟩ := hc2
  clear HZ HL HMB HMK HF
  by_cases hN0 : l.length = 0
  · have hN0' : ((l.length : Int) == 0) = true := by simpa using hN0
    have hv2 : Hid (stpB l n d = false ∧ stpL l n d = []) := Lib.hid ⟨by unfold stpB; rw [if_neg (fun h2 => by omega)], by unfold stpL; rw [if_neg (fun h2 => by omega)]⟩
    clear hN0
    go_wp2
    go_ret3
    exact SlP3.mk rfl hv2.out.1 (by rw [hv2.out.2]; exact Sl.nil) HB2.out
  have hN0' : ((l.length : Int) == 0) = false := by simpa using hN0
  have hmk := make_ints l.length (by omega)
  have hSLc := HSL.out.below HB2.out (Nat.le_refl _)
  obtain ⟨_, _, he, _, _, _, hel⟩ := hSLc
  simp only [Value.slice.injEq, true_and] at he
  obtain ⟨rfl, rfl⟩ := he
  have HEL := Lib.hid hel
  have HHZ : Hid (rmF l n d = 0) := Lib.hid hFz
  obtain ⟨wb, rfl⟩ : ∃ wb, wb = w2 := ⟨_, rfl⟩
  have hrbl := lt_of_block HK2.out
  have HSC : Hid (LS (nrB l n d) l.length wb wb.heap.size (l.length - 1) (wb.alloc (.cells ((List.replicate l.length (0 : Int)).map (Value.int .i64)).toArray 3))) := Lib.hid (by
    refine ⟨List.replicate l.length 0, Arr.made wb _, by simp, fun j h1 h2 => ?_, fun j h1 h2 => ?_, (Below.refl _ _).alloc (Nat.le_refl _) _⟩
    · rw [lf_last (by omega), List.getElem?_replicate, if_pos h2]; rfl
    · rw [List.getElem?_replicate, if_pos h2])
  clear hel hFz
  go_wp2
  obtain ⟨wz, hwz⟩ : ∃ wz, wz = wb.alloc (.cells ((List.replicate l.length (0 : Int)).map (Value.int .i64)).toArray 3) := ⟨_, rfl⟩
  rw [zeros_eq] at hwz HSC
  rw [← hwz] at HSC ⊢
  obtain ⟨bm, hbm⟩ : ∃ bm, bm = wb.heap.size := ⟨_, rfl⟩
  rw [← hbm] at HSC ⊢
  have HBM : Hid (wb.heap.size ≤ bm) := Lib.hid (by omega)
  clear hbm hwz hmk
  go_loopg [9] l.length (fun gg s9 wr => ∃ (i : Nat) (z : Int), i ≤ l.length - 1 ∧ i ≤ gg ∧ s9 = .int .i64 z ∧ -1 ≤ z ∧ z ≤ 100 ∧ Aside (z = (i : Int) - 1) ∧ Aside (LS (nrB l n d) l.length wb bm i wr))
  case atStart => exact ⟨l.length - 1, (l.length : Int) - 2, Nat.le_refl _, by omega, by go_num, by omega, by omega, (show _ = _ by omega), HSC.out⟩
  obtain ⟨i, z, hi, hg, rfl, hz1, hz2, HZI, HM⟩ := hrel
  have hzi := HZI.out
  cases i with
  | zero =>
    obtain rfl : z = -1 := by omega
    clear HZI hzi hz1 hz2
    obtain ⟨mx, h1, h3, h5, _, h8⟩ := HM.out
    have cm := h1.cell (h5 0 (Nat.le_refl _) (by omega))
    have hl1 := h1.lt
    have HA1 := Lib.hid h1
    have HNL := Lib.hid h5
    have HB8 := Lib.hid h8
    clear h1 h3 h5 h8 HM
    have hlz : (0 : Int) < (l.length : Int) := by omega
    by_cases h0 : lf (nrB l n d) l.length 0 < 1000
    · have hv2 : Hid (stpB l n d = true ∧ stpL l n d = pathL (nrB l n d) l.length (lf (nrB l n d) l.length 0)) := Lib.hid ⟨by unfold stpB; rw [if_pos ⟨HHZ.out, by omega, h0⟩], by unfold stpL; rw [if_pos ⟨HHZ.out, by omega, h0⟩]⟩
      have HOKI := Lib.hid (fun j hj => itN_ok (nr := nrB l n d) (N := l.length) (by omega) h0 j hj)
      have HEND := Lib.hid (fun j hj => itN_end (nr := nrB l n d) (N := l.length) (by omega) h0 (j := j) hj)
      have hlb := lf_bd (nr := nrB l n d) (N := l.length) l.length 0 (by omega)
      obtain ⟨T, hT⟩ : ∃ T, T = lf (nrB l n d) l.length 0 := ⟨_, rfl⟩
      rw [← hT] at cm h0 hv2 HOKI HEND hlb
      have HTT := Lib.hid hT
      have hT1 : T ≤ 100 := by omega
      have hd0' : ¬ (1000 : Int) ≤ (T : Int) := by omega
      have hn1 : IntKind.i64.wrap ((l.length : Int) - 1) = (l.length : Int) - 1 := IntWalk.i64_in _ (by omega)
      have HOL := Lib.hid (show Own (wr.alloc (.cells #[.int .i64 0] 3)) wr.heap.size 3 1 encI (.slice (some ⟨wr.heap.size, 0, none⟩) 1 1) [0] from World.ownsRow_lit wr #[.int .i64 0] 1 (Nat.le_refl _) (by simp [maxLen]) rfl)
      have hbn := HA1.out.lt
      clear hT hlb
      obtain ⟨wo, rfl⟩ : ∃ wo, wo = wr := ⟨_, rfl⟩
      go_wp2
      go_loopg [11, 12] T (fun gg s11 s12 wr => ∃ j : Nat, j ≤ T ∧ T - j ≤ gg ∧ s12 = .int .i64 (itN (nrB l n d) l.length j) ∧ Aside (Own wr wo.heap.size 3 1 encI s11 (pathL (nrB l n d) l.length j)) ∧ Aside (Below wo.heap.size wo wr))
      case atStart => exact ⟨0, Nat.zero_le _, by omega, rfl, HOL.out, (Below.refl _ _).alloc (Nat.le_refl _) _⟩
      obtain ⟨j, hj, hgj, rfl, HO, HW⟩ := hrel
      have HOO := Lib.hid HO.out
      obtain ⟨ao5, L5, cp5, rfl⟩ := Own.slv encI_len HO.out
      have hok := HOKI.out j hj
      have hend := HEND.out j hj
      have HPL := Lib.hid (pathL_len (nrB l n d) l.length j)
      have HPN : Hid (pathL (nrB l n d) l.length (j + 1) = pathL (nrB l n d) l.length j ++ [(itN (nrB l n d) l.length (j + 1) : Int)]) := Lib.hid rfl
      have HITN : Hid (itN (nrB l n d) l.length (j + 1) = nx (nrB l n d) l.length (itN (nrB l n d) l.length j)) := Lib.hid rfl
      obtain ⟨hok1, hok2⟩ := hok
      by_cases hjT : j < T
      · have hi1 := hend.2 hjT
        have hspec := nx_spec (nr := nrB l n d) hi1 (by omega)
        have hLI := HNL.out (itN (nrB l n d) l.length j) (Nat.zero_le _) (by omega)
        have hcnt : Hid (((pathL (nrB l n d) l.length j).length + 1) * 8 ≤ 140737488355328) := Lib.hid (by rw [HPL.out]; omega)
        obtain ⟨I, hI⟩ : ∃ I, I = itN (nrB l n d) l.length j := ⟨_, rfl⟩
        obtain ⟨I2, hI2⟩ : ∃ I2, I2 = itN (nrB l n d) l.length (j + 1) := ⟨_, rfl⟩
        rw [← hI2, ← hI] at HITN
        rw [← hI2] at HPN
        rw [← hI] at hok1 hok2 hi1 hspec hLI ⊢
        rw [← HITN.out] at hspec
        obtain ⟨⟨s1, s2, s3, s4⟩, s5⟩ := hspec
        obtain ⟨LA, hLA⟩ : ∃ LA, LA = lf (nrB l n d) l.length I := ⟨_, rfl⟩
        rw [← hLA] at hok2 hLI s4 s5
        have S3 := Lib.hid s3
        have S5 := Lib.hid s5
        have HI2 := Lib.hid hI2
        have hIz : (I : Int) < (l.length : Int) - 1 := by omega
        have hIz2 : (I : Int) < (l.length : Int) := by omega
        obtain ⟨x, hx⟩ : ∃ x, l[I]? = some x := ⟨l[I]'(by omega), by simp⟩
        obtain ⟨b, off, hao, hc⟩ := HEL.out I x hx
        subst hao
        have hblt : b < wb.heap.size := World.block_lt_of_cell? wb ⟨b, off + I * 4 + 0, none⟩ (hc 0 _ rfl)
        have HX1 : Hid (wb.cell? ⟨b, off + I * 4 + 1, none⟩ = some (.int .i64 x.ra)) := Lib.hid (hc 1 _ rfl)
        have hxr := HRNG.out x (List.mem_of_getElem? hx)
        have HGX : Hid (l.getD I default = x) := Lib.hid (getD_of hx)
        have HWJ := Lib.hid HW.out
        have hszj := HW.out.size
        clear hend hI hI2 hLA s3 s5 hx hc HO HW HITN
        obtain ⟨wj, rfl⟩ : ∃ wj, wj = wr := ⟨_, rfl⟩
        go_wp2
        go_loopg [11, 12, 13] l.length (fun gg s11 s12 s13 wr => ∃ m : Nat, I + 1 ≤ m ∧ m ≤ I2 ∧ I2 - m ≤ gg ∧ s11 = .slice ao5 L5 cp5 ∧ s12 = .int .i64 I ∧ s13 = .int .i64 m ∧ Aside (Below wj.heap.size wj wr))
        case atStart => exact ⟨I + 1, Nat.le_refl _, by omega, by omega, rfl, rfl, by go_num, Below.refl _ wj⟩
        obtain ⟨m, hm1, hm2, hgm, rfl, rfl, rfl, HWM⟩ := hrel
        have hmz : (m : Int) < (l.length : Int) := by omega
        have hml : m < l.length := by omega
        obtain ⟨y, hy⟩ : ∃ y, l[m]? = some y := ⟨l[m], by simp [hml]⟩
        obtain ⟨b', off', hao', hd⟩ := HEL.out m y hy
        simp only [Option.some.injEq, Addr.mk.injEq, and_true] at hao'
        obtain ⟨rfl, rfl⟩ := hao'
        have hyr := HRNG.out y (List.mem_of_getElem? hy)
        have HNR : Hid (nrB l n d I m = !farB x.ra y.ra n d) := Lib.hid (by unfold nrB; rw [HGX.out, getD_of hy])
        have HWA := Lib.hid (HWJ.out.trans (HWM.out.mono hszj))
        have HWB := Lib.hid (HB8.out.thru HWA.out)
        have ym : wr.cell? ⟨b, off + m * 4 + 1, none⟩ = some (.int .i64 y.ra) := (HWB.out.cell (p := ⟨b, off + m * 4 + 1, none⟩) hblt).trans (hd 1 _ rfl)
        have xm : wr.cell? ⟨b, off + I * 4 + 1, none⟩ = some (.int .i64 x.ra) := (HWB.out.cell (p := ⟨b, off + I * 4 + 1, none⟩) hblt).trans HX1.out
        have hrb := (HWB.out.block w.heap.size hrbl).trans HK2.out
        have g0 := (cell_of_block (i := 0) hrb).trans rfl
        have g1 := (cell_of_block (i := 1) hrb).trans rfl
        have hl1 := lt_of_block hrb
        have hl2 : b < wr.heap.size := by have := HWB.out.size; omega
        have hl3 : bm < wr.heap.size := by have := HWA.out.size; omega
        have cm2 := (HWA.out.cell (p := ⟨bm, m, none⟩) hbn).trans (HA1.out.cell (HNL.out m (Nat.zero_le _) hml))
        have ci := (HWA.out.cell (p := ⟨bm, I, none⟩) hbn).trans (HA1.out.cell hLI)
        have HNE := Lib.hid (fun W => near_any x.ra y.ra n d W (by omega) (by omega) (by omega) (by omega))
        have hbc : Below wr.heap.size wr wr.drew := (Below.refl _ wr).drew
        have hLb := lf_bd (nr := nrB l n d) (N := l.length) (l.length - m) m (Nat.le_refl _)
        have HM2 : Hid (m = I2 → nrB l n d I m = true ∧ lf (nrB l n d) l.length m + 1 = LA) := Lib.hid (fun e => by subst e; exact ⟨S3.out, s4⟩)
        have HM5 : Hid (m ≠ I2 → nrB l n d I m = true → LA < lf (nrB l n d) l.length m + 1) := Lib.hid (fun e hn => S5.out m (by omega) (by omega) hn)
        generalize lf (nrB l n d) l.length m = LM at cm2 hLb HM2 HM5
        generalize farB x.ra y.ra n d = fb at HNR HNE
        rw [HNR.out] at HM2 HM5
        have hwr : IntKind.i64.wrap ((LA : Int) - 1) = (LA : Int) - 1 := IntWalk.i64_in _ (by omega)
        clear hy hd hrb hLb hLI s4
        go_upto_region 26 with (fail)
        go_cut [112] (fun s112 w4 => s112 = .bool (decide (m = I2)) ∧ Aside (Below wr.heap.size wr w4))
        case first =>
          cases fb
          case true =>
            have hv : Hid (decide (m = I2) = false) := Lib.hid (decide_eq_false (fun e => by have := (HM2.out e).1; cases this))
            refine wp_region_held_drew (S := (fun w' => w'.cell? ⟨b, off + I * 4 + 1, none⟩ = some (.int .i64 x.ra) ∧ w'.cell? ⟨b, off + m * 4 + 1, none⟩ = some (.int .i64 y.ra) ∧ w'.cell? ⟨w.heap.size, 0, none⟩ = some (.int .i64 n) ∧ w'.cell? ⟨w.heap.size, 1, none⟩ = some (.int .i64 d) ∧ w'.cell? ⟨bm, m, none⟩ = some (.int .i64 (LM : Int)) ∧ w'.cell? ⟨bm, I, none⟩ = some (.int .i64 (LA : Int)))) (by kernel_rfl) (by exact ⟨(hbc.cell (p := ⟨b, off + I * 4 + 1, none⟩) hl2).trans xm, (hbc.cell (p := ⟨b, off + m * 4 + 1, none⟩) hl2).trans ym, (hbc.cell (p := ⟨w.heap.size, 0, none⟩) hl1).trans g0, (hbc.cell (p := ⟨w.heap.size, 1, none⟩) hl1).trans g1, (hbc.cell (p := ⟨bm, m, none⟩) hl3).trans cm2, (hbc.cell (p := ⟨bm, I, none⟩) hl3).trans ci⟩) (fun hHeld => ?_)
            refine takeIn (v := ?_) 0 89 rfl rfl (by kernel_rfl) (by kernel_rfl) (by kernel_rfl) (fun _ _ _ h => h) hHeld (by rfl) ?_ ?_
            rotate_left
            · (intro w' hSw; (try dsimp only at hSw); go_simp) <;> with_reducible rfl
            try simp only [Act.put, List.setIfInBounds_toArray, List.set_cons_zero, List.set_cons_succ]
            refine takeIn (v := ?_) 1 90 rfl rfl (by kernel_rfl) (by kernel_rfl) (by kernel_rfl) (fun _ _ _ h => h) hHeld (by rfl) ?_ ?_
            rotate_left
            · (intro w' hSw; (try dsimp only at hSw); go_simp) <;> with_reducible rfl
            try simp only [Act.put, List.setIfInBounds_toArray, List.set_cons_zero, List.set_cons_succ]
            refine takeIn (v := ?_) 2 91 rfl rfl (by kernel_rfl) (by kernel_rfl) (by kernel_rfl) (fun _ _ _ h => h) hHeld (by rfl) ?_ ?_
            rotate_left
            · (intro w' hSw; (try dsimp only at hSw); go_simp) <;> with_reducible rfl
            try simp only [Act.put, List.setIfInBounds_toArray, List.set_cons_zero, List.set_cons_succ]
            refine takeIn (v := ?_) 3 92 rfl rfl (by kernel_rfl) (by kernel_rfl) (by kernel_rfl) (fun _ _ _ h => h) hHeld (by rfl) ?_ ?_
            rotate_left
            · (intro w' hSw; (try dsimp only at hSw); go_simp) <;> with_reducible rfl
            try simp only [Act.put, List.setIfInBounds_toArray, List.set_cons_zero, List.set_cons_succ]
            refine takeIn (v := ?_) 4 93 rfl rfl (by kernel_rfl) (by kernel_rfl) (by kernel_rfl) (fun _ _ _ h => h) hHeld (by rfl) ?_ ?_
            rotate_left
            · (intro w' hSw; (try dsimp only at hSw); go_simp) <;> with_reducible rfl
            try simp only [Act.put, List.setIfInBounds_toArray, List.set_cons_zero, List.set_cons_succ]
            refine takeIn (v := ?_) 5 94 rfl rfl (by kernel_rfl) (by kernel_rfl) (by kernel_rfl) (fun _ _ _ h => h) hHeld (by rfl) ?_ ?_
            rotate_left
            · (intro w' hSw; (try dsimp only at hSw); go_simp) <;> with_reducible rfl
            try simp only [Act.put, List.setIfInBounds_toArray, List.set_cons_zero, List.set_cons_succ]
            refine takeIn (v := ?_) 6 95 rfl rfl (by kernel_rfl) (by kernel_rfl) (by kernel_rfl) (fun _ _ _ h => h) hHeld (by rfl) ?_ ?_
            rotate_left
            · (intro w' hSw; (try dsimp only at hSw); go_simp) <;> with_reducible rfl
            try simp only [Act.put, List.setIfInBounds_toArray, List.set_cons_zero, List.set_cons_succ]
            refine takeIn (v := ?_) 7 96 rfl rfl (by kernel_rfl) (by kernel_rfl) (by kernel_rfl) (fun _ _ _ h => h) hHeld (by rfl) ?_ ?_
            rotate_left
            · (intro w' hSw; (try dsimp only at hSw); go_simp) <;> with_reducible rfl
            try simp only [Act.put, List.setIfInBounds_toArray, List.set_cons_zero, List.set_cons_succ]
            refine takeIn (v := ?_) 8 97 rfl rfl (by kernel_rfl) (by kernel_rfl) (by kernel_rfl) (fun _ _ _ h => h) hHeld (by rfl) ?_ ?_
            rotate_left
            · (intro w' hSw; (try dsimp only at hSw); go_simp) <;> with_reducible rfl
            try simp only [Act.put, List.setIfInBounds_toArray, List.set_cons_zero, List.set_cons_succ]
            refine takeIn (v := ?_) 9 98 rfl rfl (by kernel_rfl) (by kernel_rfl) (by kernel_rfl) (fun _ _ _ h => h) hHeld (by rfl) ?_ ?_
            rotate_left
            · (intro w' hSw; (try dsimp only at hSw); go_simp) <;> with_reducible rfl
            try simp only [Act.put, List.setIfInBounds_toArray, List.set_cons_zero, List.set_cons_succ]
            refine takeIn (v := ?_) 10 99 rfl rfl (by kernel_rfl) (by kernel_rfl) (by kernel_rfl) (fun _ _ _ h => h) hHeld (by rfl) ?_ ?_
            rotate_left
            · (intro w' hSw; (try dsimp only at hSw); go_simp) <;> with_reducible rfl
            try simp only [Act.put, List.setIfInBounds_toArray, List.set_cons_zero, List.set_cons_succ]
            refine callIn (f := 25) (args := #[.int .i64 x.ra, .int .i64 y.ra, .agg #[.int .i64 n, .int .i64 d]]) 11 100 rfl rfl (by kernel_rfl) (by rfl) (by go_simp) ?_
            clear hHeld
            refine (HNE.out _).mono ?_
            rintro e w2 ⟨rfl, hb⟩
            replace hbc := hbc.thru hb
            clear hb
            have hHeld : (fun w' => w'.cell? ⟨b, off + I * 4 + 1, none⟩ = some (.int .i64 x.ra) ∧ w'.cell? ⟨b, off + m * 4 + 1, none⟩ = some (.int .i64 y.ra) ∧ w'.cell? ⟨w.heap.size, 0, none⟩ = some (.int .i64 n) ∧ w'.cell? ⟨w.heap.size, 1, none⟩ = some (.int .i64 d) ∧ w'.cell? ⟨bm, m, none⟩ = some (.int .i64 (LM : Int)) ∧ w'.cell? ⟨bm, I, none⟩ = some (.int .i64 (LA : Int))) w2 := by exact ⟨(hbc.cell (p := ⟨b, off + I * 4 + 1, none⟩) hl2).trans xm, (hbc.cell (p := ⟨b, off + m * 4 + 1, none⟩) hl2).trans ym, (hbc.cell (p := ⟨w.heap.size, 0, none⟩) hl1).trans g0, (hbc.cell (p := ⟨w.heap.size, 1, none⟩) hl1).trans g1, (hbc.cell (p := ⟨bm, m, none⟩) hl3).trans cm2, (hbc.cell (p := ⟨bm, I, none⟩) hl3).trans ci⟩
            refine ⟨_, rfl, hHeld, ?_⟩
            try simp only [Act.put, List.setIfInBounds_toArray, List.set_cons_zero, List.set_cons_succ]
            refine takeIn (v := ?_) 12 101 rfl rfl (by kernel_rfl) (by kernel_rfl) (by kernel_rfl) (fun _ _ _ h => h) hHeld (by rfl) ?_ ?_
            rotate_left
            · (intro w' hSw; (try dsimp only at hSw); go_simp) <;> with_reducible rfl
            try simp only [Act.put, List.setIfInBounds_toArray, List.set_cons_zero, List.set_cons_succ]
            refine takeOut 13 102 rfl rfl (by kernel_rfl) (by kernel_rfl) (by kernel_rfl) (fun _ _ _ h => h) hHeld (by rfl) ?_
            try simp only [Act.put, List.setIfInBounds_toArray, List.set_cons_zero, List.set_cons_succ]
            refine takeOut 14 103 rfl rfl (by kernel_rfl) (by kernel_rfl) (by kernel_rfl) (fun _ _ _ h => h) hHeld (by rfl) ?_
            try simp only [Act.put, List.setIfInBounds_toArray, List.set_cons_zero, List.set_cons_succ]
            refine takeOut 15 104 rfl rfl (by kernel_rfl) (by kernel_rfl) (by kernel_rfl) (fun _ _ _ h => h) hHeld (by rfl) ?_
            try simp only [Act.put, List.setIfInBounds_toArray, List.set_cons_zero, List.set_cons_succ]
            refine takeOut 16 105 rfl rfl (by kernel_rfl) (by kernel_rfl) (by kernel_rfl) (fun _ _ _ h => h) hHeld (by rfl) ?_
            try simp only [Act.put, List.setIfInBounds_toArray, List.set_cons_zero, List.set_cons_succ]
            refine takeOut 17 106 rfl rfl (by kernel_rfl) (by kernel_rfl) (by kernel_rfl) (fun _ _ _ h => h) hHeld (by rfl) ?_
            try simp only [Act.put, List.setIfInBounds_toArray, List.set_cons_zero, List.set_cons_succ]
            refine takeOut 18 107 rfl rfl (by kernel_rfl) (by kernel_rfl) (by kernel_rfl) (fun _ _ _ h => h) hHeld (by rfl) ?_
            try simp only [Act.put, List.setIfInBounds_toArray, List.set_cons_zero, List.set_cons_succ]
            refine takeOut 19 108 rfl rfl (by kernel_rfl) (by kernel_rfl) (by kernel_rfl) (fun _ _ _ h => h) hHeld (by rfl) ?_
            try simp only [Act.put, List.setIfInBounds_toArray, List.set_cons_zero, List.set_cons_succ]
            refine takeOut 20 109 rfl rfl (by kernel_rfl) (by kernel_rfl) (by kernel_rfl) (fun _ _ _ h => h) hHeld (by rfl) ?_
            try simp only [Act.put, List.setIfInBounds_toArray, List.set_cons_zero, List.set_cons_succ]
            refine takeOut 21 110 rfl rfl (by kernel_rfl) (by kernel_rfl) (by kernel_rfl) (fun _ _ _ h => h) hHeld (by rfl) ?_
            try simp only [Act.put, List.setIfInBounds_toArray, List.set_cons_zero, List.set_cons_succ]
            refine takeOut 22 111 rfl rfl (by kernel_rfl) (by kernel_rfl) (by kernel_rfl) (fun _ _ _ h => h) hHeld (by rfl) ?_
            try simp only [Act.put, List.setIfInBounds_toArray, List.set_cons_zero, List.set_cons_succ]
            refine takeIn (v := ?_) 23 112 rfl rfl (by kernel_rfl) (by kernel_rfl) (by kernel_rfl) (fun _ _ _ h => h) hHeld (by rfl) ?_ ?_
            rotate_left
            · (intro w' hSw; (try dsimp only at hSw); go_simp) <;> with_reducible rfl
            try simp only [Act.put, List.setIfInBounds_toArray, List.set_cons_zero, List.set_cons_succ]
            refine wpAnyH_done (by kernel_rfl) ?_ _
            go_wp2
            go_meet
            exact ⟨by rw [hv.out], hbc⟩
          case false =>
            have hv : Hid (((LM : Int) == (LA : Int) - 1) = decide (m = I2)) := Lib.hid (by
              by_cases e : m = I2
              · have := (HM2.out e).2
                rw [decide_eq_true e]
                simp
                omega
              · have := HM5.out e rfl
                rw [decide_eq_false e]
                simp
                omega)
            first
            | (go_region_held3 (fun w' => w'.cell? ⟨b, off + I * 4 + 1, none⟩ = some (.int .i64 x.ra) ∧ w'.cell? ⟨b, off + m * 4 + 1, none⟩ = some (.int .i64 y.ra) ∧ w'.cell? ⟨w.heap.size, 0, none⟩ = some (.int .i64 n) ∧ w'.cell? ⟨w.heap.size, 1, none⟩ = some (.int .i64 d) ∧ w'.cell? ⟨bm, m, none⟩ = some (.int .i64 (LM : Int)) ∧ w'.cell? ⟨bm, I, none⟩ = some (.int .i64 (LA : Int)))
                (first | exact ⟨(hbc.cell (p := ⟨b, off + I * 4 + 1, none⟩) hl2).trans xm, (hbc.cell (p := ⟨b, off + m * 4 + 1, none⟩) hl2).trans ym, (hbc.cell (p := ⟨w.heap.size, 0, none⟩) hl1).trans g0, (hbc.cell (p := ⟨w.heap.size, 1, none⟩) hl1).trans g1, (hbc.cell (p := ⟨bm, m, none⟩) hl3).trans cm2, (hbc.cell (p := ⟨bm, I, none⟩) hl3).trans ci⟩ | fail "keep")
                (first | (go_at_call 25; ((with_reducible refine (HNE.out _).mono ?_); rintro e w' ⟨rfl, hb⟩; replace hbc := hbc.thru hb; clear hb)) | fail "arms"))
            | fail "held3"
            all_goals
              go_wp2
              go_meet
              exact ⟨by rw [← hv.out], hbc⟩
        obtain ⟨rfl, HC⟩ := hcut
        obtain ⟨we, rfl⟩ : ∃ we, we = wc := ⟨_, rfl⟩
        have HWE := Lib.hid (HWM.out.thru HC.out)
        have HWO := Lib.hid (HWJ.out.trans (HWE.out.mono hszj))
        clear ym xm g0 g1 hl1 hl2 hl3 cm2 ci hbc HWM HC HNE hwr HWA HWB
        by_cases e : m = I2
        · subst e
          have hd1 : decide (m = m) = true := decide_eq_true rfl
          have HOE := Lib.hid (HOO.out.below HWE.out (Nat.le_refl _))
          have hbw := HWO.out.size
          rw [hd1]
          clear hd1
          go_wp2_with (at_builtin; refine wpList_push rfl _ _ 25 rfl slI rfl rfl (m : Int) rfl rfl rfl HOE.out rfl hcnt.out hbw ?_; intro v5 w5 ho5 hb5; obtain ⟨ao6, L6, cp6, rfl⟩ := Own.slv encI_len ho5; have HO5 := Lib.hid ho5; have HB5 := Lib.hid (HWO.out.trans hb5); clear ho5 hb5)
          go_roundg (T - (j + 1))
          case measure => omega
          case rel => exact ⟨j + 1, by omega, by omega, by rw [HI2.out], (show Own _ _ _ _ _ _ _ by rw [HPN.out]; exact HO5.out), HB5.out⟩
        · have hd1 : decide (m = I2) = false := decide_eq_false e
          rw [hd1]
          clear hd1
          go_wp2
          go_roundg (I2 - (m + 1))
          case measure => omega
          case rel => exact ⟨m + 1, by omega, by omega, by omega, rfl, rfl, by go_num, HWE.out⟩
      · obtain rfl : j = T := by omega
        have hi1 : ¬ itN (nrB l n d) l.length j + 1 < l.length := fun h => hjT (hend.1 h)
        have HS := Lib.hid (HOO.out.sl encI_len)
        have HBF := Lib.hid (HB2.out.thru ((HB8.out).thru HW.out))
        have hIz : ¬ ((itN (nrB l n d) l.length j : Nat) : Int) < (l.length : Int) - 1 := by omega
        clear hend HO
        go_wp2
        go_ret3
        exact SlP3.mk rfl hv2.out.1 (by rw [hv2.out.2]; exact HS.out) HBF.out
    · have hv2 : Hid (stpB l n d = false ∧ stpL l n d = []) := Lib.hid ⟨by unfold stpB; rw [if_neg (fun h => h0 h.2.2)], by unfold stpL; rw [if_neg (fun h => h0 h.2.2)]⟩
      have hge : (1000 : Int) ≤ ((lf (nrB l n d) l.length 0 : Nat) : Int) := by omega
      clear h0
      go_wp2
      go_ret3
      exact SlP3.mk rfl hv2.out.1 (by rw [hv2.out.2]; exact Sl.nil) (HB2.out.thru HB8.out)
  | succ q =>
    obtain rfl : z = q := by omega
    clear HZI hzi hz1 hz2
    have hq : q + 1 < l.length := by omega
    obtain ⟨x, hx⟩ : ∃ x, l[q]? = some x := ⟨l[q]'(by omega), by simp⟩
    obtain ⟨b, off, hao, hc⟩ := HEL.out q x hx
    subst hao
    have hblt : b < wb.heap.size := World.block_lt_of_cell? wb ⟨b, off + q * 4 + 0, none⟩ (hc 0 _ rfl)
    have HX1 : Hid (wb.cell? ⟨b, off + q * 4 + 1, none⟩ = some (.int .i64 x.ra)) := Lib.hid (hc 1 _ rfl)
    have hxr := HRNG.out x (List.mem_of_getElem? hx)
    have HGX : Hid (l.getD q default = x) := Lib.hid (getD_of hx)
    have HLI := Lib.hid (HM.out.start (by omega) HBM.out)
    obtain ⟨mx0, k1, k3, _, k6, _⟩ := HM.out
    have cz := k1.cell (k6 q (by omega) (by omega))
    have zf := k1.free q
    have hqz : (q : Int) < (l.length : Int) := by omega
    have hlm := k1.lt
    clear hx hc HM k1 k3 k6
    obtain ⟨wo, rfl⟩ : ∃ wo, wo = wr := ⟨_, rfl⟩
    go_wp2
    clear cz zf hlm
    go_loopg [10] l.length (fun gg s10 wr => ∃ m : Nat, q + 1 ≤ m ∧ m ≤ l.length ∧ l.length - m ≤ gg ∧ s10 = .int .i64 m ∧ Aside (LI (nrB l n d) l.length wb bm q m wr))
    case atStart => exact ⟨q + 1, Nat.le_refl _, by omega, by omega, by go_num, HLI.out⟩
    obtain ⟨m, hqm, hm, hgm, rfl, HI⟩ := hrel
    have HI := Lib.hid HI.out
    by_cases hml : m < l.length
    · have hmz : (m : Int) < (l.length : Int) := by omega
      obtain ⟨y, hy⟩ : ∃ y, l[m]? = some y := ⟨l[m], by simp [hml]⟩
      obtain ⟨b', off', hao', hd⟩ := HEL.out m y hy
      simp only [Option.some.injEq, Addr.mk.injEq, and_true] at hao'
      obtain ⟨rfl, rfl⟩ := hao'
      have hyr := HRNG.out y (List.mem_of_getElem? hy)
      have HNR : Hid (nrB l n d q m = !farB x.ra y.ra n d) := Lib.hid (by unfold nrB; rw [HGX.out, getD_of hy])
      obtain ⟨mx, h1, h3, h5, h6, h7, h10⟩ := HI.out
      have ym : wr.cell? ⟨b, off + m * 4 + 1, none⟩ = some (.int .i64 y.ra) := (h10.cell (p := ⟨b, off + m * 4 + 1, none⟩) hblt).trans (hd 1 _ rfl)
      have xm : wr.cell? ⟨b, off + q * 4 + 1, none⟩ = some (.int .i64 x.ra) := (h10.cell (p := ⟨b, off + q * 4 + 1, none⟩) hblt).trans HX1.out
      have hrb := (h10.block w.heap.size hrbl).trans HK2.out
      have g0 := (cell_of_block (i := 0) hrb).trans rfl
      have g1 := (cell_of_block (i := 1) hrb).trans rfl
      have hl1 := lt_of_block hrb
      have hl2 : b < wr.heap.size := by have := h10.size; omega
      have HNE := Lib.hid (fun W => near_any x.ra y.ra n d W (by omega) (by omega) (by omega) (by omega))
      have hbc : Below wr.heap.size wr wr.drew := (Below.refl _ wr).drew
      generalize farB x.ra y.ra n d = fb at HNR HNE
      clear hy hd h1 h3 h5 h6 h7 h10 hrb
      go_upto_region 16 with (fail)
      go_cut [57] (fun s57 w4 => s57 = .bool (!fb) ∧ Aside (Below wr.heap.size wr w4))
      case first =>
        go_region_held3 (fun w' => w'.cell? ⟨b, off + q * 4 + 1, none⟩ = some (.int .i64 x.ra) ∧ w'.cell? ⟨b, off + m * 4 + 1, none⟩ = some (.int .i64 y.ra) ∧ w'.cell? ⟨w.heap.size, 0, none⟩ = some (.int .i64 n) ∧ w'.cell? ⟨w.heap.size, 1, none⟩ = some (.int .i64 d))
          (first | exact ⟨(hbc.cell (p := ⟨b, off + q * 4 + 1, none⟩) hl2).trans xm, (hbc.cell (p := ⟨b, off + m * 4 + 1, none⟩) hl2).trans ym, (hbc.cell (p := ⟨w.heap.size, 0, none⟩) hl1).trans g0, (hbc.cell (p := ⟨w.heap.size, 1, none⟩) hl1).trans g1⟩ | fail "keep")
          (first | (go_at_call 25; ((with_reducible refine (HNE.out _).mono ?_); rintro e w' ⟨rfl, hb⟩; replace hbc := hbc.thru hb; clear hb)) | fail "arms")
        all_goals
          go_wp2
          go_meet
          exact ⟨rfl, hbc⟩
      obtain ⟨rfl, HW4⟩ := hcut
      obtain ⟨we, rfl⟩ : ∃ we, we = wc := ⟨_, rfl⟩
      have HE := Lib.hid (HI.out.below HW4.out)
      clear ym xm g0 g1 hl1 hl2 hbc HI HNE HW4
      cases fb
      case true =>
        have HSK := Lib.hid (HE.out.skip (by rw [HNR.out]; rfl))
        go_wp2
        go_roundg (l.length - (m + 1))
        case measure => omega
        case rel => exact ⟨m + 1, by omega, by omega, by omega, by go_num, HSK.out⟩
      case false =>
        have hLb := lf_bd (nr := nrB l n d) (N := l.length) (l.length - m) m (Nat.le_refl _)
        have hA1 := lfA_le (nrB l n d) (lf (nrB l n d) l.length) q m
        have HTK := Lib.hid (fun z hz => HE.out.take (by omega) (by omega) HBM.out (by rw [HNR.out]; rfl) z hz)
        obtain ⟨mx, h1, h3, h5, h6, h7, h10⟩ := HE.out
        have cm := h1.cell (h5 m (by omega) hml)
        have cq := h1.cell h7
        have zf := h1.free q
        have hlm := h1.lt
        generalize lf (nrB l n d) l.length m = L at hLb HTK cm
        generalize lfA (nrB l n d) (lf (nrB l n d) l.length) q m = a at hA1 HTK cq
        have hwr : IntKind.i64.wrap ((L : Int) + 1) = (L : Int) + 1 := IntWalk.i64_in _ (by omega)
        clear h1 h3 h5 h6 h7 h10 HE
        by_cases hmin : (L : Int) + 1 < (a : Int)
        · have hmin2 : ¬ (a : Int) ≤ (L : Int) + 1 := by omega
          have HT2 := Lib.hid (HTK.out ((L : Int) + 1) (by omega))
          clear HTK
          go_wp2
          go_region
          all_goals
            go_wp2
            go_roundg (l.length - (m + 1))
            case measure => omega
            case rel => exact ⟨m + 1, by omega, by omega, by omega, by go_num, HT2.out.drew⟩
        · have hmin2 : (a : Int) ≤ (L : Int) + 1 := by omega
          have HT2 := Lib.hid (HTK.out (a : Int) (by omega))
          clear HTK
          go_wp2
          go_region
          all_goals
            go_wp2
            go_roundg (l.length - (m + 1))
            case measure => omega
            case rel => exact ⟨m + 1, by omega, by omega, by omega, by go_num, HT2.out.drew⟩
    · obtain rfl : m = l.length := by omega
      have HLS := Lib.hid (HI.out.toLS hq)
      go_wp2
      go_roundg q
      case measure => omega
      case rel => exact ⟨q, (q : Int) - 1, by omega, Nat.le_refl _, by go_num, by omega, by omega, (show _ = _ from rfl), HLS.out⟩
end Go.Proofs.Ytlomnfaedhgciaa

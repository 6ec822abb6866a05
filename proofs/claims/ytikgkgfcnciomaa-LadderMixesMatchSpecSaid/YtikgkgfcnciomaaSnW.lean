/- Sensible, of the program and of the reference. -/
import Derived.Test.YtikgkgfcnciomaaHulC
import Derived.Test.YtikgkgfcnciomaaRren
namespace Go.Proofs.Ytikgkgfcnciomaa
open Go.RowKit

set_option maxRecDepth 100000 in
set_option maxHeartbeats 4000000 in
theorem Sensible_any (w : World) (l : List Rng) (v : Value) (hl : Sl w 4 encR v l) (hw : ∀ x, x ∈ l → WfR x) :
    Calls Try.prog 7 #[v] w (SlPost w 1 encI (senR l) (checkR l)) := by
  have HC := Lib.hid (checkRen_any w l v hl hw)
  have HV : Hid (senR l = if checkR l = 0 then zL (senN l l.length) else []) := Lib.hid rfl
  have HZ := Lib.hid (fun (h : checkR l = 0) => (checkR_zero h).1)
  have HSL := Lib.hid hl
  obtain ⟨C, hC⟩ : ∃ C, C = checkR l := ⟨_, rfl⟩
  rw [← hC] at HC HZ HV ⊢
  generalize senR l = RL at HV ⊢
  clear hC hw hl
  cases e1 : (C != 0)
  case true =>
    have hne : C ≠ 0 := by simpa using e1
    have hv2 : Hid (RL = []) := Lib.hid (by rw [HV.out, if_neg hne])
    clear hne
    go_enter Try.func7, Try.ntmps7
    go_wp2_with (go_at_call 9; refine HC.out.mono ?_; rintro e w1 ⟨rfl, hb⟩)
    go_ret2
    exact SlPost.mk rfl (by rw [hv2.out]; exact Sl.nil) hb
  obtain rfl : C = 0 := by simpa using e1
  have hlen := HZ.out rfl
  have HRL : Hid (RL = zL (senN l l.length)) := Lib.hid (by rw [HV.out]; rfl)
  obtain ⟨ao, cap, rfl, hcap, hmax, _, hel⟩ := HSL.out
  unfold maxLen at hmax
  have HEL := Lib.hid hel
  clear e1 HZ HV hel
  go_enter Try.func7, Try.ntmps7
  go_wp2_with fail
  refine HC.out.mono ?_
  rintro e w1 ⟨rfl, hb⟩
  have HB1 := Lib.hid hb
  have hsz1 := hb.size
  clear hb HC
  go_wp2
  obtain ⟨wq, rfl⟩ : ∃ wq, wq = w1 := ⟨_, rfl⟩
  go_loopg [5, 15] l.length (fun gg s5 s15 wr => ∃ j : Nat, j ≤ l.length ∧ l.length - j ≤ gg ∧ s15 = .int .i64 j ∧ Aside (Own wr wq.heap.size 3 1 encI s5 (zL (senN l j))) ∧ Aside (Below wq.heap.size wq wr))
  case atStart => exact ⟨0, Nat.zero_le _, by omega, rfl, (show Own _ _ _ _ _ _ (zL []) from Own.nil), Below.refl _ wq⟩
  obtain ⟨j, hj, hg, rfl, OW, BW⟩ := hrel
  by_cases hlt : j < l.length
  · have hltz : (j : Int) < (l.length : Int) := by omega
    obtain ⟨x, hx⟩ : ∃ x, l[j]? = some x := ⟨l[j], by simp [hlt]⟩
    obtain ⟨b, off, hao, hc⟩ := HEL.out j x hx
    subst hao
    have hblt : b < w.heap.size := World.block_lt_of_cell? w ⟨b, off + j * 4 + 0, none⟩ (hc 0 _ rfl)
    have HBX := Lib.hid (HB1.out.trans (BW.out.mono hsz1))
    have c0 : wr.cell? ⟨b, off + j * 4, none⟩ = some (.string x.na) := (HBX.out.cell (p := ⟨b, off + j * 4 + 0, none⟩) hblt).trans (hc 0 _ rfl)
    have c1 := (HBX.out.cell (p := ⟨b, off + j * 4 + 1, none⟩) hblt).trans (hc 1 _ rfl)
    have c2 := (HBX.out.cell (p := ⟨b, off + j * 4 + 2, none⟩) hblt).trans (hc 2 _ rfl)
    have c3 := (HBX.out.cell (p := ⟨b, off + j * 4 + 3, none⟩) hblt).trans (hc 3 _ rfl)
    have HOW := Lib.hid OW.out
    have HBWj := Lib.hid BW.out
    have hszj := BW.out.size
    have hsx : Hid (Sl wr 4 encR (.slice (some ⟨b, off, none⟩) l.length cap) l) := Lib.hid (HSL.out.below HBX.out (Nat.le_refl _))
    have HSN : Hid (senN l (j + 1) = if senB l x = true then senN l j ++ [j] else senN l j) := Lib.hid (by show (if _ then _ else _) = _; rw [getD_of hx])
    have HSE := Lib.hid (fun W (hb : Below wr.heap.size wr W) => sensible_any W l _ x (hsx.out.below hb (Nat.le_refl _)))
    have hcnt : Hid (((zL (senN l j)).length + 1) * 8 ≤ 140737488355328) := Lib.hid (by rw [zL_len]; have := senN_len l j; omega)
    have HA := Lib.hid ((Below.refl wr.heap.size wr).alloc (Nat.le_refl _) (boxR x))
    generalize senB l x = B at HSN HSE
    obtain ⟨ao5, L5, cp5, rfl⟩ := Own.slv encI_len OW.out
    clear hc OW BW hx
    go_wp2_with fail
    refine (HSE.out _ HA.out).mono ?_
    rintro e w2 ⟨rfl, hb⟩
    have HB2 := Lib.hid (HBWj.out.thru (HA.out.thru hb))
    have HO2 := Lib.hid (HOW.out.below (HA.out.thru hb) (Nat.le_refl _))
    have hsz2 := HB2.out.size
    clear hb HSE c0 c1 c2 c3
    cases B
    case true =>
      have HFO : Hid (senN l j ++ [j] = senN l (j + 1)) := Lib.hid (by rw [HSN.out]; rfl)
      go_wp2_with (at_builtin; refine wpList_push rfl _ _ 23 rfl slI rfl rfl (j : Int) rfl rfl rfl HO2.out rfl hcnt.out hsz2 ?_; intro v5 w5 ho5 hb5; obtain ⟨ao6, L6, cp6, rfl⟩ := Own.slv encI_len ho5; have HO5 := Lib.hid ho5; have HB5 := Lib.hid (HB2.out.trans hb5); clear ho5 hb5)
      go_roundg (l.length - (j + 1))
      case measure => omega
      case rel => exact ⟨j + 1, by omega, by omega, by go_num, (show Own _ _ _ _ _ _ _ by rw [← HFO.out, zL_snoc]; exact HO5.out), HB5.out⟩
    case false =>
      have HFO : Hid (senN l j = senN l (j + 1)) := Lib.hid (by rw [HSN.out]; rfl)
      go_wp2
      go_roundg (l.length - (j + 1))
      case measure => omega
      case rel => exact ⟨j + 1, by omega, by omega, by go_num, (show Own _ _ _ _ _ _ _ by rw [← HFO.out]; exact HO2.out), HB2.out⟩
  · obtain rfl : j = l.length := by omega
    have HS := Lib.hid (Own.sl OW.out encI_len)
    have HBE := Lib.hid (HB1.out.thru BW.out)
    rw [← HRL.out] at HS
    go_wp2
    go_ret2
    exact SlPost.mk rfl HS.out HBE.out

set_option maxRecDepth 100000 in
set_option maxHeartbeats 4000000 in
theorem SensibleR_any (w : World) (l : List Rng) (v : Value) (hl : Sl w 4 encR v l) (hw : ∀ x, x ∈ l → WfR x) :
    Calls Try.prog 8 #[v] w (SlPost w 1 encI (senR l) (checkR l)) := by
  have HC := Lib.hid (checkRenR_any w l v hl hw)
  have HV : Hid (senR l = if checkR l = 0 then zL (senN l l.length) else []) := Lib.hid rfl
  have HZ := Lib.hid (fun (h : checkR l = 0) => (checkR_zero h).1)
  have HSL := Lib.hid hl
  obtain ⟨C, hC⟩ : ∃ C, C = checkR l := ⟨_, rfl⟩
  rw [← hC] at HC HZ HV ⊢
  generalize senR l = RL at HV ⊢
  clear hC hw hl
  cases e1 : (C != 0)
  case true =>
    have hne : C ≠ 0 := by simpa using e1
    have hv2 : Hid (RL = []) := Lib.hid (by rw [HV.out, if_neg hne])
    clear hne
    go_enter Try.func8, Try.ntmps8
    go_wp2_with (go_at_call 10; refine HC.out.mono ?_; rintro e w1 ⟨rfl, hb⟩)
    go_ret2
    exact SlPost.mk rfl (by rw [hv2.out]; exact Sl.nil) hb
  obtain rfl : C = 0 := by simpa using e1
  have hlen := HZ.out rfl
  have HRL : Hid (RL = zL (senN l l.length)) := Lib.hid (by rw [HV.out]; rfl)
  obtain ⟨ao, cap, rfl, hcap, hmax, _, hel⟩ := HSL.out
  unfold maxLen at hmax
  clear e1 HZ HV hel
  go_enter Try.func8, Try.ntmps8
  go_wp2_with fail
  refine HC.out.mono ?_
  rintro e w1 ⟨rfl, hb⟩
  have HB1 := Lib.hid hb
  have hsz1 := hb.size
  clear hb HC
  go_wp2
  obtain ⟨wq, rfl⟩ : ∃ wq, wq = w1 := ⟨_, rfl⟩
  go_loopg [5, 14] l.length (fun gg s5 s14 wr => ∃ j : Nat, j ≤ l.length ∧ l.length - j ≤ gg ∧ s14 = .int .i64 j ∧ Aside (Own wr wq.heap.size 3 1 encI s5 (zL (senN l j))) ∧ Aside (Below wq.heap.size wq wr))
  case atStart => exact ⟨0, Nat.zero_le _, by omega, rfl, (show Own _ _ _ _ _ _ (zL []) from Own.nil), Below.refl _ wq⟩
  obtain ⟨j, hj, hg, rfl, OW, BW⟩ := hrel
  by_cases hlt : j < l.length
  · have hltz : (j : Int) < (l.length : Int) := by omega
    obtain ⟨x, hx⟩ : ∃ x, l[j]? = some x := ⟨l[j], by simp [hlt]⟩
    have HBX := Lib.hid (HB1.out.trans (BW.out.mono hsz1))
    have HOW := Lib.hid OW.out
    have HBWj := Lib.hid BW.out
    have hszj := BW.out.size
    have hsx := Lib.hid (HSL.out.below HBX.out (Nat.le_refl _))
    have HSN : Hid (senN l (j + 1) = if senB l x = true then senN l j ++ [j] else senN l j) := Lib.hid (by show (if _ then _ else _) = _; rw [getD_of hx])
    have HSE := Lib.hid (sensibleR_any wr l _ j x hx hsx.out)
    have hcnt : Hid (((zL (senN l j)).length + 1) * 8 ≤ 140737488355328) := Lib.hid (by rw [zL_len]; have := senN_len l j; omega)
    generalize senB l x = B at HSN HSE
    obtain ⟨ao5, L5, cp5, rfl⟩ := Own.slv encI_len OW.out
    clear OW BW hx
    go_wp2_with fail
    refine HSE.out.mono ?_
    rintro e w2 ⟨rfl, hb⟩
    have HB2 := Lib.hid (HBWj.out.thru hb)
    have HO2 := Lib.hid (HOW.out.below hb (Nat.le_refl _))
    have hsz2 := HB2.out.size
    clear hb HSE
    cases B
    case true =>
      have HFO : Hid (senN l j ++ [j] = senN l (j + 1)) := Lib.hid (by rw [HSN.out]; rfl)
      go_wp2_with (at_builtin; refine wpList_push rfl _ _ 23 rfl slI rfl rfl (j : Int) rfl rfl rfl HO2.out rfl hcnt.out hsz2 ?_; intro v5 w5 ho5 hb5; obtain ⟨ao6, L6, cp6, rfl⟩ := Own.slv encI_len ho5; have HO5 := Lib.hid ho5; have HB5 := Lib.hid (HB2.out.trans hb5); clear ho5 hb5)
      go_roundg (l.length - (j + 1))
      case measure => omega
      case rel => exact ⟨j + 1, by omega, by omega, by go_num, (show Own _ _ _ _ _ _ _ by rw [← HFO.out, zL_snoc]; exact HO5.out), HB5.out⟩
    case false =>
      have HFO : Hid (senN l j = senN l (j + 1)) := Lib.hid (by rw [HSN.out]; rfl)
      go_wp2
      go_roundg (l.length - (j + 1))
      case measure => omega
      case rel => exact ⟨j + 1, by omega, by omega, by go_num, (show Own _ _ _ _ _ _ _ by rw [← HFO.out]; exact HO2.out), HB2.out⟩
  · obtain rfl : j = l.length := by omega
    have HS := Lib.hid (Own.sl OW.out encI_len)
    have HBE := Lib.hid (HB1.out.thru BW.out)
    rw [← HRL.out] at HS
    go_wp2
    go_ret2
    exact SlPost.mk rfl HS.out HBE.out
end Go.Proofs.Ytikgkgfcnciomaa

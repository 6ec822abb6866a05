/- LadderStepsHaveNoGaps: the walk of the law. -/
import Derived.Test.YtlomnfaedhgciaaStpG
import Derived.Test.YtlomnfaedhgciaaWrg
namespace Go.Proofs.Ytlomnfaedhgciaa
open Go.RowKit

theorem encW_get (x : Flw) : encW x = [.int .i64 x.ki, .int .i64 x.at_] := rfl

set_option maxRecDepth 100000 in
set_option maxHeartbeats 2000000 in
theorem stepsG_any (w : World) (l : List Rng) (u : Value) (n d : Int) (hl : Sl w 4 encR u l) (hw : ∀ x, x ∈ l → WfR x) :
    Calls Try.prog 3 #[u, .agg #[.int .i64 n, .int .i64 d]] w fun e w' => e = .returned (.bool true) ∧ Below w.heap.size w w' := by
  have B0 := Lib.hid ((Below.refl w.heap.size w).alloc (Nat.le_refl _) (.cells #[.int .i64 n, .int .i64 d] 24))
  have K0 := Lib.hid (block_new w (.cells #[.int .i64 n, .int .i64 d] 24))
  have h1 := Lib.hid (fun (W : World) (hb : Below w.heap.size w W) => steps_any W l u n d (hl.below hb (Nat.le_refl _)) hw)
  have HSL := Lib.hid hl
  by_cases hyes : rmF l n d = 0 ∧ 0 < l.length ∧ lf (nrB l n d) l.length 0 < 1000
  · have hB : stpB l n d = true := by unfold stpB; rw [if_pos hyes]
    have hL : stpL l n d = pathL (nrB l n d) l.length (lf (nrB l n d) l.length 0) := by unfold stpL; rw [if_pos hyes]
    obtain ⟨hf, hN, hT⟩ := hyes
    obtain ⟨hc, hmost⟩ := rmF_zero hf
    have hlen := (checkR_zero hc).1
    rw [hB, hL, hf] at h1
    have hlb := lf_bd (nr := nrB l n d) (N := l.length) l.length 0 (by omega)
    have hpl := pathL_len (nrB l n d) l.length (lf (nrB l n d) l.length 0)
    have HP0 := Lib.hid (pathL_get (nrB l n d) l.length (lf (nrB l n d) l.length 0) 0 (by omega))
    have HPT := Lib.hid (pathL_get (nrB l n d) l.length (lf (nrB l n d) l.length 0) (lf (nrB l n d) l.length 0) (Nat.le_refl _))
    have hok := itN_ok (nr := nrB l n d) hN hT (lf (nrB l n d) l.length 0) (Nat.le_refl _)
    have hend := itN_end (nr := nrB l n d) hN hT (j := lf (nrB l n d) l.length 0) (Nat.le_refl _)
    have hlast : itN (nrB l n d) l.length (lf (nrB l n d) l.length 0) = l.length - 1 := by
      have h2 := hok.1
      have h3 : ¬ itN (nrB l n d) l.length (lf (nrB l n d) l.length 0) + 1 < l.length := fun h => by have := hend.1 h; omega
      omega
    have HSO := Lib.hid (fun (W : World) (v : Value) (hb : Below w.heap.size w W) (hs : Sl W 1 encI v (pathL (nrB l n d) l.length (lf (nrB l n d) l.length 0))) => some_any W l u v _ (hl.below hb (Nat.le_refl _)) hs (by rw [hpl]; omega) (fun x hx => by
      obtain ⟨j, hj, rfl⟩ := List.mem_iff_getElem.1 hx
      rw [hpl] at hj
      have h2 := pathL_get (nrB l n d) l.length (lf (nrB l n d) l.length 0) j (by omega)
      rw [List.getElem?_eq_getElem (by omega)] at h2
      simp only [Option.some.injEq] at h2
      rw [h2]
      have := (itN_ok (nr := nrB l n d) hN hT j (by omega)).1
      omega))
    have hso : someL l (pathL (nrB l n d) l.length (lf (nrB l n d) l.length 0)) = stepsL l n d := rfl
    rw [hso] at HSO
    have hcs := stepsL_ok (n := n) (d := d) hc hN hT
    have HWR := Lib.hid (fun (W : World) (v : Value) (hs : Sl W 4 encR v (stepsL l n d)) => wrong_any W (stepsL l n d) v n d hs (fun x hx => by
      unfold stepsL someL at hx
      obtain ⟨z, hz, rfl⟩ := List.mem_map.1 hx
      by_cases e : z.toNat < l.length
      · rw [getD_of (List.getElem?_eq_getElem e)]; exact hw _ (List.getElem_mem _)
      · rw [List.getD_eq_getElem?_getD, List.getElem?_eq_none (by omega)]
        show (default : Rng).na.size ≤ _
        exact Nat.zero_le _))
    have hrs : rmF (stepsL l n d) n d = 0 := by unfold rmF; rw [hcs, if_neg (by simp)]; exact hmost
    have hwl : wrgL (stepsL l n d) n d = wrgA (stepsL l n d) n d (stepsL l n d).length := by unfold wrgL; rw [hrs, if_neg (by simp)]
    rw [hrs, hwl] at HWR
    have HKI := Lib.hid (wrgA_kind (l := stepsL l n d) (n := n) (d := d) (stepsL l n d).length (Nat.le_refl _) (fun i hi => stepsL_gap hN hT hi))
    have hwn := wrgA_len (stepsL l n d) n d (stepsL l n d).length
    have hsl := stepsL_len l n d
    rw [hlast] at HPT
    generalize wrgA (stepsL l n d) n d (stepsL l n d).length = fl at HWR HKI hwn
    generalize stepsL l n d = sl at HSO HWR hwn hsl
    generalize pathL (nrB l n d) l.length (lf (nrB l n d) l.length 0) = pt at h1 hpl HP0 HPT HSO
    generalize lf (nrB l n d) l.length 0 = T at hlb hpl HPT hsl hT
    have hfl : fl.length ≤ 1000 := by omega
    have hptz : (pt.length : Int) = (T : Int) + 1 := by omega
    have HPZ := Lib.hid hptz
    clear hB hL hf hc hmost hok hend hlast hso hcs hrs hwl hl hw hsl hwn hptz
    obtain ⟨ao, cap, rfl, hcap, hmax, _, _⟩ := HSL.out
    unfold maxLen at hmax
    go_enter Try.func3, Try.ntmps3
    go_wp2_with fail
    refine (h1.out _ B0.out).mono ?_
    rintro e w1 ⟨v1, rfl, hs, hb⟩
    have HS1 := Lib.hid hs
    have HB1 := Lib.hid (B0.out.thru hb)
    have HK1 := Lib.hid ((hb.block _ (lt_of_block K0.out)).trans K0.out)
    obtain ⟨po, pcap, rfl, hpcap, hpmax, _, hpel⟩ := hs
    unfold maxLen at hpmax
    obtain ⟨bp, offp, hao, hd0⟩ := hpel 0 _ HP0.out
    subst hao
    obtain ⟨bp', offp', hao, hdT⟩ := hpel T _ HPT.out
    simp only [Option.some.injEq, Addr.mk.injEq, and_true] at hao
    obtain ⟨rfl, rfl⟩ := hao
    have e0 : w1.cell? ⟨bp, offp, none⟩ = some (.int .i64 0) := by have := hd0 0 _ rfl; simpa [itN] using this
    have hl1 : ((l.length - 1 : Nat) : Int) = (l.length : Int) - 1 := by omega
    have eT : w1.cell? ⟨bp, offp + T, none⟩ = some (.int .i64 ((l.length : Int) - 1)) := by have := hdT 0 _ rfl; rw [hl1] at this; simpa using this
    have hpl0 : pt.length = T + 1 := hpl
    have hpe : ((pt.length : Int) == 0) = false := by rw [beq_eq_false_iff_ne]; omega
    have m1 : IntKind.i64.wrap ((pt.length : Int) - 1) = (pt.length : Int) - 1 := IntWalk.i64_in _ (by omega)
    have m2 : ((pt.length : Int) - 1).toNat = T := by omega
    have m3 : (0 : Int) ≤ (pt.length : Int) - 1 := by omega
    have m4 : (pt.length : Int) - 1 < (pt.length : Int) := by omega
    have m5 : IntKind.i64.wrap ((l.length : Int) - 1) = (l.length : Int) - 1 := IntWalk.i64_in _ (by omega)
    have m7 : (0 : Int) < (pt.length : Int) := by omega
    have m8 : (1 : Int) ≤ (pt.length : Int) := by omega
    have m9 : ¬ pt = [] := fun h => by rw [h] at hpl0; simp at hpl0
    clear hb hpel hd0 hdT h1 hpl hpl0 hl1
    go_wp2_with fail
    refine (awake5_any _).mono ?_
    rintro e w2 ⟨rfl, hb⟩
    have HB2 := Lib.hid (HB1.out.thru hb)
    have HK2 := Lib.hid ((hb.block _ (lt_of_block HK1.out)).trans HK1.out)
    have HSO2 := Lib.hid (fun (W : World) (hbw : Below w2.heap.size w2 W) => HSO.out W _ (HB2.out.thru hbw) ((HS1.out.below hb (Nat.le_refl _)).below hbw (Nat.le_refl _)))
    have hlt2 := lt_of_block HK2.out
    have c0 := (cell_of_block (i := 0) HK2.out).trans rfl
    have c1 := (cell_of_block (i := 1) HK2.out).trans rfl
    clear hb e0 eT m1 m2 m3 m4 m5 HSO HS1
    go_upto_region 6 with (fail)
    have hbc : Below w2.heap.size w2 w2.drew := (Below.refl _ w2).drew
    go_cut [7, 8] (fun s7 s8 w4 => s7 = .int .i64 0 ∧ Aside (Sl w4 2 encW s8 fl) ∧ Aside (Below w2.heap.size w2 w4))
    case first =>
      go_region_held3 (fun w' => w'.cell? ⟨w.heap.size, 0, none⟩ = some (.int .i64 n) ∧ w'.cell? ⟨w.heap.size, 1, none⟩ = some (.int .i64 d))
        (first | exact ⟨(hbc.cell (p := ⟨w.heap.size, 0, none⟩) hlt2).trans c0, (hbc.cell (p := ⟨w.heap.size, 1, none⟩) hlt2).trans c1⟩ | fail "keep")
        (first | (go_at_call 8; refine (HSO2.out _ hbc).mono ?_; rintro e w' ⟨vs, rfl, hs, hb⟩; have HSS := Lib.hid hs; replace hbc := hbc.thru hb; clear hb hs)
               | (go_at_call 7; refine (HWR.out _ _ HSS.out).mono ?_; rintro e w' ⟨vf, rfl, hs, hb⟩; have HSF := Lib.hid hs; replace hbc := hbc.thru hb; clear hb hs) | fail "arms")
      all_goals
        go_wp2
        go_meet
        exact ⟨rfl, HSF.out, hbc⟩
    obtain ⟨rfl, HSF, HC⟩ := hcut
    obtain ⟨w3, rfl⟩ : ∃ w3, w3 = wc := ⟨_, rfl⟩
    have HB3 := Lib.hid (HB2.out.thru HC.out)
    obtain ⟨fo, fcap, rfl, hfcap, hfmax, _, hfel⟩ := HSF.out
    unfold maxLen at hfmax
    have HFE := Lib.hid hfel
    clear hfel HSF HC c0 c1 hbc
    go_wp2
    go_loopg [67] fl.length (fun gg s67 wr => ∃ k : Nat, k ≤ fl.length ∧ fl.length - k ≤ gg ∧ s67 = .int .i64 k ∧ Aside (Below w3.heap.size w3 wr))
    case atStart => exact ⟨0, Nat.zero_le _, by omega, rfl, Below.refl _ w3⟩
    obtain ⟨k, hk, hg, rfl, BW⟩ := hrel
    have HBW := Lib.hid BW.out
    by_cases hlt : k < fl.length
    · have hltz : (k : Int) < (fl.length : Int) := by omega
      obtain ⟨x, hx⟩ : ∃ x, fl[k]? = some x := ⟨fl[k], by simp [hlt]⟩
      have hki := HKI.out x (List.mem_of_getElem? hx)
      obtain ⟨bf, off, hao, hc⟩ := HFE.out k x hx
      subst hao
      have hblt : bf < w3.heap.size := World.block_lt_of_cell? w3 ⟨bf, off + k * 2 + 0, none⟩ (hc 0 _ rfl)
      have f0 : wr.cell? ⟨bf, off + k * 2, none⟩ = some (.int .i64 x.ki) := (BW.out.cell (p := ⟨bf, off + k * 2 + 0, none⟩) hblt).trans (hc 0 _ rfl)
      have f1 := (BW.out.cell (p := ⟨bf, off + k * 2 + 1, none⟩) hblt).trans (hc 1 _ rfl)
      have HBX := Lib.hid (BW.out.alloc BW.out.size (.cells #[.int .i64 x.ki, .int .i64 x.at_] 35))
      have hne : (x.ki == 3) = false := by rcases hki with h | h <;> rw [h] <;> rfl
      clear hx hc hki BW
      go_wp2
      go_roundg (fl.length - (k + 1))
      case measure => omega
      case rel => exact ⟨k + 1, by omega, by omega, by go_num, HBX.out⟩
    · obtain rfl : k = fl.length := by omega
      go_wp2
      go_ret
      exact ⟨rfl, HB3.out.thru HBW.out⟩
  · have hB : stpB l n d = false := by unfold stpB; rw [if_neg hyes]
    have hL : stpL l n d = [] := by unfold stpL; rw [if_neg hyes]
    rw [hB, hL] at h1
    generalize rmF l n d = F at h1
    clear hB hL hyes hl hw
    go_enter Try.func3, Try.ntmps3
    go_wp2_with fail
    refine (h1.out _ B0.out).mono ?_
    rintro e w1 ⟨v1, rfl, hs, hb⟩
    have HB1 := Lib.hid (B0.out.thru hb)
    obtain ⟨po, pcap, rfl, hpcap, hpmax, _, _⟩ := hs
    clear hb
    cases e1 : (F != 0)
    all_goals
      go_wp2_with fail
      refine (awake5_any _).mono ?_
      rintro e w2 ⟨rfl, hb⟩
      go_wp2
      go_ret
      exact ⟨rfl, HB1.out.thru hb⟩
end Go.Proofs.Ytlomnfaedhgciaa

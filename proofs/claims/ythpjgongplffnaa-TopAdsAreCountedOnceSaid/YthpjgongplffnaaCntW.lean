/- Counts of the program: what it returns. -/
import Derived.Test.YthpjgongplffnaaCntM
import Derived.Test.YthpjgongplffnaaCpK
import Derived.Test.YthpjgongplffnaaSrtC
import Derived.Test.YthpjgongplffnaaIdxK
import Derived.Test.YthpjgongplffnaaMapV
import Derived.Test.YthpjgongplffnaaBitK
import Derived.Test.YthpjgongplffnaaCntQ
import Derived.StillTailTactics
import Derived.Deep.QuietTactic
namespace Go.Proofs.Ythpjgongplffnaa
open Go.RowKit

def WfE (e : Ev) : Prop := e.se.size ≤ 9223372036854775807 ∧ e.ad.size ≤ 9223372036854775807 ∧ (-9223372036854775808 ≤ e.pl ∧ e.pl ≤ 9223372036854775807) ∧ (-9223372036854775808 ≤ e.ki ∧ e.ki ≤ 9223372036854775807)
set_option maxRecDepth 100000 in
set_option maxHeartbeats 16000000 in
theorem counts_any (w : World) (l : List Prt) (es : List Ev) (u v : Value) (hl : Sl w 3 encP u l) (he : Sl w 4 encE v es) (hw : ∀ p, p ∈ l → WfP p) (hs : ∀ e, e ∈ es → WfE e) :
    Calls Try.prog 9 #[u, v] w (CntPost w l es) := by
  have HE := Lib.hid he
  have HL := Lib.hid hl
  have HS := Lib.hid hs
  obtain ⟨ao, cap, rfl, hcap, hmax, hnil, hel⟩ := id hl
  obtain ⟨eo, ecap, rfl, hecap, hemax, henil, heel⟩ := he
  unfold maxLen at hmax hemax
  have HEEL := Lib.hid heel
  have HLEL := Lib.hid hel
  have HB0 := Lib.hid ((Below.refl w.heap.size w).alloc (Nat.le_refl _) (.cells #[.slice ao l.length cap] 22))
  have HCP := Lib.hid (fun W (h : Below w.heap.size w W) => checkParts_any W l _ (hl.below h (Nat.le_refl _)) hw)
  have HBX := Lib.hid (block_new w (.cells #[.slice ao l.length cap] 22))
  clear heel hel hw hs hnil henil hl
  have HF : Hid (cntF l es = if checkP l ≠ 0 then checkP l else if 5000 < es.length then 2 else FF (evA es) es.length) := Lib.hid rfl
  have HN : Hid (checkP l = 0 → l.length ≤ 1000) := Lib.hid (fun h => by
    unfold checkP at h
    split at h
    · simp at h
    · omega)
  obtain ⟨c, hc⟩ : ∃ c, c = checkP l := ⟨_, rfl⟩
  rw [← hc] at HCP HF HN
  clear hc
  have hmm := @run_makeMap Try.prog
  go_enter Try.func9, Try.ntmps9
  go_wp2_with fail
  refine (HCP.out _ HB0.out).mono ?_
  rintro e w1 ⟨rfl, hb1⟩
  have HB1 := Lib.hid (HB0.out.thru hb1)
  have HX1 := Lib.hid ((hb1.block _ (lt_of_block HBX.out)).trans HBX.out)
  clear hb1 HCP HBX HB0
  by_cases hc0 : c = 0
  case neg =>
    have hne : (c != 0) = true := by simpa using hc0
    have hv : Hid (cntF l es = c) := Lib.hid (by rw [HF.out, if_pos hc0])
    go_wp2
    go_ret3
    exact CntPost.fail hv.out hc0 HB1.out
  subst hc0
  have hl1000 := HN.out rfl
  by_cases hbig : 5000 < es.length
  · have hv : Hid (cntF l es = 2) := Lib.hid (by rw [HF.out, if_neg (by simp), if_pos hbig])
    go_wp2
    go_ret3
    exact CntPost.fail hv.out (by decide) HB1.out
  have HF2 : Hid (cntF l es = FF (evA es) es.length) := Lib.hid (by rw [HF.out, if_neg (by simp), if_neg hbig])
  clear HF HN
  obtain ⟨B, hB⟩ : ∃ B, B = w.heap.size := ⟨_, rfl⟩
  rw [← hB] at HB1 HX1 ⊢
  have HBE := Lib.hid hB
  clear hB
  go_upto_region 7 with (fail)
  obtain ⟨wm, hwm⟩ : ∃ wm, wm = w1.alloc (.map #[] 0) := ⟨_, rfl⟩
  have hBM := lt_of_block HX1.out
  have HM0 : Hid (MapK wm w1.heap.size 0 (fun _ => 0) []) := Lib.hid (by rw [hwm]; exact MapK.made w1)
  have HBM : Hid (Below B w wm) := Lib.hid (by rw [hwm]; exact HB1.out.alloc (Nat.le_of_lt hBM) _)
  have HXM : Hid (wm.heap[B]? = some (.cells #[.slice ao l.length cap] 22 (0, 0))) := Lib.hid (by rw [hwm]; exact (heap_alloc_old w1 _ hBM).trans HX1.out)
  have hMs : wm.heap.size = w1.heap.size + 1 := by rw [hwm]; simp
  rw [← hwm]
  clear hwm HB1 HX1
  obtain ⟨M, hM⟩ : ∃ M, M = w1.heap.size := ⟨_, rfl⟩
  rw [← hM] at HM0 hMs hBM ⊢
  obtain ⟨N0, hN0⟩ : ∃ N0, N0 = wm.heap.size := ⟨_, rfl⟩
  have HNE : Hid (N0 = M + 1) := Lib.hid (by omega)
  have HNZ := Lib.hid hN0
  have HBMl := Lib.hid hBM
  clear hM hN0 hMs hBM
  go_wp2
  go_loopg [9, 32] es.length (fun gg s9 s32 wr => ∃ kk : Nat, kk ≤ es.length ∧ es.length - kk ≤ gg ∧ s32 = .int .i64 kk ∧ Aside (Below B w wr) ∧ Aside (wr.heap[B]? = some (.cells #[.slice ao l.length cap] 22 (0, 0))) ∧ Aside (MapK wr M kk (bitsG (stN l es kk).1) (keysG (stN l es kk).1)) ∧ Aside (N0 ≤ wr.heap.size ∧ Own wr N0 3 1 encI s9 (stN l es kk).2) ∧ Aside (∀ j, j < kk → evA es j = 0))
  case atStart => exact ⟨0, Nat.zero_le _, by omega, rfl, HBM.out, HXM.out, (show Aside _ from HM0.out), ⟨Nat.le_of_eq HNZ.out, (show Own _ _ _ _ _ _ _ from Own.nil)⟩, fun j hj => absurd hj (Nat.not_lt_zero _)⟩
  case round =>
    obtain ⟨kk, hkk, hg, rfl, BW, KB, KM, OI, A⟩ := hrel
    obtain ⟨ia, iL, ic, rfl⟩ := Own.slv encI_len OI.out.2
    by_cases hlt : kk < es.length
    · have hltz : (kk : Int) < (es.length : Int) := by omega
      obtain ⟨x, hx⟩ : ∃ x, es[kk]? = some x := ⟨es[kk], by simp [hlt]⟩
      obtain ⟨b, off, rfl, hc⟩ := HEEL.out kk x hx
      have hlt0 : b < w.heap.size := World.block_lt_of_cell? w _ (hc 0 _ rfl)
      have hltB : b < B := by have := HBE.out; omega
      have c0 : wr.cell? ⟨b, off + kk * 4, none⟩ = some (.string x.se) := by have h := (BW.out.cell (p := ⟨b, off + kk * 4 + 0, none⟩) hltB).trans (hc 0 _ rfl); simpa using h
      have c1 := (BW.out.cell (p := ⟨b, off + kk * 4 + 1, none⟩) hltB).trans (hc 1 _ rfl)
      have c2 := (BW.out.cell (p := ⟨b, off + kk * 4 + 2, none⟩) hltB).trans (hc 2 _ rfl)
      have c3 := (BW.out.cell (p := ⟨b, off + kk * 4 + 3, none⟩) hltB).trans (hc 3 _ rfl)
      have HEV := Lib.hid (evA_of hx)
      obtain ⟨hsz1, hsz2, hpl, hki⟩ := HS.out x (List.mem_of_getElem? hx)
      have HI1 := Lib.hid (fun W => isName_any x.se W)
      have HI2 := Lib.hid (fun W => isName_any x.ad W)
      have HID := Lib.hid (fun h => stN_idle (l := l) hx h)
      have HGD := Lib.hid (fun h => stN_good (l := l) hx h)
      have hC : Hid (evF x = if (!nameB x.se || !nameB x.ad) = true then 5 else if outB x.ki 1 5 = true then 4 else 0) := Lib.hid rfl
      have HHIT : Hid (∀ f, evF x = f → f ≠ 0 → cntF l es = f) := Lib.hid (fun f h h0 => by
        rw [HF2.out, FF_hit hlt A.out (by rw [HEV.out, h]; exact h0), HEV.out, h])
      have hBr := lt_of_block KB.out
      obtain ⟨wy, rfl⟩ : ∃ wy, wy = wr := ⟨_, rfl⟩
      clear hx hc
      go_upto_region 11 with (fail)
      obtain ⟨wx, hwx⟩ : ∃ wx, wx = wy.alloc (.cells #[.string x.se, .int .i64 x.pl, .string x.ad, .int .i64 x.ki] 34) := ⟨_, rfl⟩
      have HKX : Hid (wx.heap[wy.heap.size]? = some (.cells #[.string x.se, .int .i64 x.pl, .string x.ad, .int .i64 x.ki] 34 (0, 0))) := Lib.hid (by rw [hwx]; exact block_new wy _)
      have HKB : Hid (wx.heap[B]? = some (.cells #[.slice ao l.length cap] 22 (0, 0))) := Lib.hid (by rw [hwx]; exact (heap_alloc_old wy _ hBr).trans KB.out)
      have HBW : Hid (Below B w wx) := Lib.hid (by rw [hwx]; exact BW.out.alloc (Nat.le_of_lt hBr) _)
      have HMX : Hid (MapK wx M kk (bitsG (stN l es kk).1) (keysG (stN l es kk).1)) := Lib.hid (by rw [hwx]; exact KM.out.same (heap_alloc_old wy _ KM.out.mapV.lt))
      have HOX : Hid (N0 ≤ wx.heap.size ∧ Own wx N0 3 1 encI (.slice ia iL ic) (stN l es kk).2) := Lib.hid (by rw [hwx]; exact ⟨Nat.le_trans OI.out.1 (by simp), OI.out.2.al _⟩)
      rw [← hwx]
      clear hwx c0 c1 c2 c3 BW KB KM OI
      obtain ⟨X, hX⟩ : ∃ X, X = wy.heap.size := ⟨_, rfl⟩
      rw [← hX] at HKX ⊢
      have HBXl : Hid (B < X) := Lib.hid (by omega)
      clear hX hBr
      have a0 := (cell_of_block (i := 0) HKX.out).trans rfl
      have a1 := (cell_of_block (i := 1) HKX.out).trans rfl
      have a2 := (cell_of_block (i := 2) HKX.out).trans rfl
      have a3 := (cell_of_block (i := 3) HKX.out).trans rfl
      have hal := lt_of_block HKX.out
      go_cut [37] (fun s37 w2 => s37 = .bool (!nameB x.se || !nameB x.ad) ∧ w2 = wx)
      case first =>
        cases n1 : nameB x.se
        all_goals
          go_wp2_with (go_at_call 18; first | ((with_reducible refine (HI1.out _ hsz1).mono ?_); rintro e w' ⟨rfl, rfl⟩) | ((with_reducible refine (HI2.out _ hsz2).mono ?_); rintro e w' ⟨rfl, rfl⟩))
          go_meet
          exact ⟨by simp [*], rfl⟩
      obtain ⟨rfl, rfl⟩ := hcut
      have HNM : Hid ((!nameB x.se || !nameB x.ad) = false → nameB x.ad = true) := Lib.hid (fun h => by simp at h; exact h.2)
      generalize hO : (!nameB x.se || !nameB x.ad) = O at hC HNM ⊢
      clear hO
      cases O
      case true =>
        have hv : Hid (cntF l es = 5) := Lib.hid (HHIT.out 5 (by rw [hC.out]; rfl) (by decide))
        go_wp2
        go_ret3
        exact CntPost.fail hv.out (by decide) (by rw [← HBE.out]; exact HBW.out)
      cases o1 : outB x.ki 1 5
      case true =>
        have hv : Hid (cntF l es = 4) := Lib.hid (HHIT.out 4 (by rw [hC.out, o1]; rfl) (by decide))
        go_wp2_with (go_at_call 13; refine (out_any _ _ _ _).mono ?_; rintro e w' ⟨rfl, rfl⟩)
        go_ret3
        exact CntPost.fail hv.out (by decide) (by rw [← HBE.out]; exact HBW.out)
      have hkb := outB_no o1
      go_upto_region 15 with (go_at_call 13; refine (out_any _ _ _ _).mono ?_; rintro e w' ⟨rfl, rfl⟩)
      obtain ⟨q, hq⟩ : ∃ q : Nat, x.ki = q + 1 := ⟨(x.ki - 1).toNat, by omega⟩
      have hq5 : q < 5 := by omega
      have hsh : IntKind.i64.wrap (x.ki - 1) = (q : Int) := (IntWalk.i64_in _ (by omega)).trans (by omega)
      have hq0 : (0 : Int) ≤ (q : Int) := by omega
      have HQ := Lib.hid hq
      clear hq
      obtain ⟨wz, rfl⟩ : ∃ wz, wz = wc := ⟨_, rfl⟩
      have HVB := Lib.hid ((Below.refl wz.heap.size wz).alloc (Nat.le_refl _) (.cells #[.string x.se, .int .i64 x.pl] 55))
      have HVN := Lib.hid (block_new wz (.cells #[.string x.se, .int .i64 x.pl] 55))
      go_cut [12, 13] (fun s12 s13 w2 => s12 = .pointer (some ⟨wz.heap.size, 0, none⟩) ∧ s13 = .int .i64 (IntKind.i64.wrap (2 ^ q : Int)) ∧ Aside (Below wz.heap.size wz w2 ∧ w2.heap[wz.heap.size]? = some (.cells #[.string x.se, .int .i64 x.pl] 55 (0, 0))))
      case first =>
        go_region_law (fail)
        all_goals
          go_wp2
          go_meet
          exact ⟨rfl, rfl, (show Aside (_ ∧ _) from ⟨⟨HVB.out.os, HVB.out.tape, HVB.out.output, HVB.out.size, HVB.out.block⟩, HVN.out⟩)⟩
      obtain ⟨rfl, rfl, HV⟩ := hcut
      have hzs := HBW.out.size
      have HB2 := Lib.hid (HBW.out.trans (HV.out.1.mono (by have := lt_of_block HKB.out; omega)))
      have HKX2 := Lib.hid ((HV.out.1.block _ hal).trans HKX.out)
      have HKB2 := Lib.hid ((HV.out.1.block _ (lt_of_block HKB.out)).trans HKB.out)
      have HM2 := Lib.hid (HMX.out.same (HV.out.1.block M HMX.out.mapV.lt))
      have HO2 : Hid (N0 ≤ wc.heap.size ∧ Own wc N0 3 1 encI (.slice ia iL ic) (stN l es kk).2) := Lib.hid ⟨Nat.le_trans HOX.out.1 HV.out.1.size, HOX.out.2.below HV.out.1 (Nat.le_refl _)⟩
      have HKV2 := Lib.hid HV.out.2
      obtain ⟨V, hV⟩ : ∃ V, V = wz.heap.size := ⟨_, rfl⟩
      rw [← hV] at HKV2 ⊢
      have HXV : Hid (X < V) := Lib.hid (by omega)
      clear a0 a1 a2 a3 hal hV HV HVB HVN HBW HKX HKB HMX HOX
      obtain ⟨G, hG⟩ : ∃ G, G = (stN l es kk).1 := ⟨_, rfl⟩
      obtain ⟨I, hI⟩ : ∃ I, I = (stN l es kk).2 := ⟨_, rfl⟩
      have HLN := Lib.hid (stN_len l es kk)
      rw [← hG] at HM2 HID HGD HLN
      rw [← hI] at HO2 HID HGD HLN
      clear hG hI
      have HFK : Hid (FitK (keyE x)) := Lib.hid ⟨hsz1, (show (Lit.int .i64 x.pl).wf = true by simp [Lit.wf]; exact ⟨by show (-9223372036854775808 : Int) ≤ _; omega, by omega⟩)⟩
      have hlk : ∀ n, (Instr.lookup 52 (.map (some M)) (.agg #[.string x.se, .int .i64 x.pl]) false).run Try.prog (wc.drewN n) = .ok (.int .i64 (bitsG G (keyE x))) (wc.drewN n) := fun n => (HM2.out.same (w' := wc.drewN n) rfl).mapV.look (keyE x) HFK.out
      have a0 := (cell_of_block (i := 0) HKX2.out).trans rfl
      have a1 := (cell_of_block (i := 1) HKX2.out).trans rfl
      have a2 := (cell_of_block (i := 2) HKX2.out).trans rfl
      have a3 := (cell_of_block (i := 3) HKX2.out).trans rfl
      have v0 := (cell_of_block (i := 0) HKV2.out).trans rfl
      have v1 := (cell_of_block (i := 1) HKV2.out).trans rfl
      have b0 := (cell_of_block (i := 0) HKB2.out).trans rfl
      have hal := lt_of_block HKX2.out
      have hvl := lt_of_block HKV2.out
      have hbl := lt_of_block HKB2.out
      have hwl : IntKind.i64.wrap ((l.length : Int) - 1) = (l.length : Int) - 1 := IntWalk.i64_in _ (by omega)
      have HOU : Hid (∀ n, Calls Try.prog 13 #[.int .i64 x.pl, .int .i64 0, .int .i64 ((l.length : Int) - 1)] (wc.drewN n) fun e w' => e = .returned (.bool (outB x.pl 0 ((l.length : Int) - 1))) ∧ w' = wc.drewN n) := Lib.hid (fun n => (out_any _ _ _ _).mono fun _ _ h => ⟨h.1, h.2.symm⟩)
      go_upto_region 16 with (fail)
      have hund : undef = Value.tuple #[] := rfl
      go_cut [85] (fun s85 w2 => s85 = .bool (!conc l x || toldL G x.se x.pl x.ki) ∧ ∃ n, w2 = wc.drewN n)
      case first =>
        cases o2 : outB x.pl 0 ((l.length : Int) - 1)
        case true =>
          rw [o2] at HOU
          go_quiet (first | (go_at_call 13; (with_reducible exact Calls.quiet_of_same (HOU.out _))))
          go_wp2
          go_meet
          have hcf : conc l x = false := by
            unfold conc
            simp only [outB, Bool.or_eq_true, decide_eq_true_eq] at o2
            by_cases h1 : 0 ≤ x.pl
            · rw [decide_eq_false (show ¬ x.pl < (l.length : Int) by omega)]
              simp
            · rw [decide_eq_false h1]
              simp
          exact ⟨by rw [hcf]; rfl, _, rfl⟩
        have hob := outB_no o2
        obtain ⟨m, hm⟩ : ∃ m : Nat, x.pl = m := ⟨x.pl.toNat, by omega⟩
        obtain ⟨p, hp⟩ : ∃ p, l[m]? = some p := ⟨l[m]'(by omega), by simp⟩
        obtain ⟨pb, po, rfl, hpc⟩ := HLEL.out m p hp
        have hpb : pb < w.heap.size := World.block_lt_of_cell? w _ (hpc 0 _ rfl)
        have p0 : wc.cell? ⟨pb, po + m * 3, none⟩ = some (.string p.ad) := by have h := (HB2.out.cell (p := ⟨pb, po + m * 3 + 0, none⟩) (show pb < B by have := HBE.out; omega)).trans (hpc 0 _ rfl); simpa using h
        have hml : m < l.length := by omega
        have hmz : (m : Int) < (l.length : Int) := by omega
        have hmt : x.pl.toNat = m := by omega
        rw [o2] at HOU
        have hx0 : (0 : Int) ≤ x.pl := by omega
        have hx1 : x.pl < (l.length : Int) := by omega
        have HPT : Hid (ptAt l x.pl = p) := Lib.hid (by unfold ptAt; rw [hmt, List.getD_eq_getElem?_getD, hp]; rfl)
        have HCV : Hid (conc l x = (!noAd p && (p.ad.toList == x.ad.toList))) := Lib.hid (by unfold conc; rw [HPT.out, decide_eq_true hx0, decide_eq_true hx1]; simp)
        clear hm hp hpc
        cases h4 : p.ad.toList == x.ad.toList
        case false =>
          go_quiet (first | (go_at_call 13; (with_reducible exact Calls.quiet_of_same (HOU.out _))))
          go_wp2
          go_meet
          exact ⟨by rw [HCV.out, h4, Bool.and_false]; rfl, _, rfl⟩
        have HCT : Hid (conc l x = true) := Lib.hid (by
          have hnm := HNM.out trivial
          have hee : p.ad.toList = x.ad.toList := by simpa using h4
          have hne : noAd p = false := by
            unfold noAd
            rw [hee]
            cases hemp : x.ad.toList.isEmpty
            · rfl
            · have h0 : x.ad.toList = [] := by simpa using hemp
              have h1 : x.ad.size = 0 := by rw [ByteArray.toList_eq] at h0; exact congrArg List.length h0
              simp [nameB, h1] at hnm
          rw [HCV.out, h4, hne]
          rfl)
        go_quiet (first | (go_at_call 13; (with_reducible exact Calls.quiet_of_same (HOU.out _))))
        go_wp2
        go_meet
        exact ⟨by rw [HCT.out, bitsG_and _ _ _ hq5, HQ.out]; rfl, _, rfl⟩
      obtain ⟨rfl, nq, rfl⟩ := hcut
      clear hund hlk a0 a1 a2 a3 v0 v1 b0 hal hvl hbl HOU
      have HB3 : Hid (Below B w (wc.drewN nq)) := Lib.hid (below_drewN HB2.out _)
      have HKB3 : Hid ((wc.drewN nq).heap[B]? = some (.cells #[.slice ao l.length cap] 22 (0, 0))) := Lib.hid HKB2.out
      have HKV3 : Hid ((wc.drewN nq).heap[V]? = some (.cells #[.string x.se, .int .i64 x.pl] 55 (0, 0))) := Lib.hid HKV2.out
      have HM3 : Hid (MapK (wc.drewN nq) M kk (bitsG G) (keysG G)) := Lib.hid (HM2.out.same rfl)
      have HO3 : Hid (N0 ≤ (wc.drewN nq).heap.size ∧ Own (wc.drewN nq) N0 3 1 encI (.slice ia iL ic) I) := Lib.hid HO2.out
      generalize wc.drewN nq = wd at HB3 HKB3 HKV3 HM3 HO3 ⊢
      clear HB2 HKB2 HKV2 HM2 HO2 HKX2
      have HLI : Hid ((I.length + 1) * 8 ≤ 140737488355328) := Lib.hid (by have := HLN.out; omega)
      have hn0 := HO3.out.1
      have HZ0 : Hid (evA es kk = 0) := Lib.hid (by rw [HEV.out, hC.out, o1]; rfl)
      have HAN : Hid (∀ j, j < kk + 1 → evA es j = 0) := Lib.hid (fun j hj => by
        by_cases e : j = kk
        · subst e; exact HZ0.out
        · exact A.out j (by omega))
      obtain ⟨T, hT⟩ : ∃ T, T = (!conc l x || toldL G x.se x.pl x.ki) := ⟨_, rfl⟩
      rw [← hT] at HID HGD ⊢
      have HT := Lib.hid hT
      clear hT
      cases T
      case true =>
        have HNX := Lib.hid (HID.out rfl)
        go_wp2_with (at_builtin; refine wpList_push rfl _ _ 23 rfl slI rfl rfl (kk : Int) rfl rfl rfl HO3.out.2 rfl HLI.out hn0 ?_; intro v5 w5 ho5 hb5; have HO5 := Lib.hid ho5; have HB5 := Lib.hid hb5; clear ho5 hb5)
        have hBN : B < N0 := by have := HNE.out; have := HBMl.out; omega
        have hMN : M < N0 := by have := HNE.out; omega
        go_roundg (es.length - (kk + 1))
        case measure => omega
        case rel => exact ⟨kk + 1, by omega, by omega, by go_num, HB3.out.trans (HB5.out.mono (Nat.le_of_lt hBN)), (HB5.out.block B hBN).trans HKB3.out, (show Aside _ from by rw [HNX.out]; exact (HM3.out.same (HB5.out.block M hMN)).mono (Nat.le_succ _)), ⟨Nat.le_trans hn0 HB5.out.size, (show Own _ _ _ _ _ _ _ from by rw [HNX.out]; exact HO5.out)⟩, HAN.out⟩
      case false =>
        have HNX := Lib.hid (HGD.out rfl)
        have hmx : kk < maxLen := by unfold maxLen; omega
        obtain ⟨ev0, est, we1, we2, he1, he2, he3, he4, he5, he6⟩ := (HM3.out.same (w' := wd.drew) rfl).entryL hmx (keyE x) HFK.out (bits BinOp.or IntKind.i64 (bitsG G (keyE x)) (wrap64 (2 ^ q))) (bits_or_wf hq5)
        have HM4 : Hid (MapK we2 M (kk + 1) (bitsG (G ++ [x])) (keysG (G ++ [x]))) := Lib.hid (by rw [← bitsG_snoc G x q hq5 HQ.out, keysG_snoc]; exact he4)
        have HG6 : Hid (wd.grownBy we2 (some M)) := Lib.hid ⟨he6.os, he6.tape, he6.output, he6.size, he6.block⟩
        have hf1 : (Instr.mapEntry 52 (.map (some M)) (.agg #[.string x.se, .int .i64 x.pl])).run Try.prog wd.drew = .ok (.tuple #[ev0, .int .i64 est]) we1 := he1
        have hf2 : (Instr.lookup 52 (.map (some M)) (.agg #[.string x.se, .int .i64 x.pl]) false).run Try.prog we1 = .ok (.int .i64 (bitsG G (keyE x))) we1 := he2
        have hf3 : (Instr.entryStore 52 (.map (some M)) (.int .i64 est) (.int .i64 (bits BinOp.or IntKind.i64 (bitsG G (keyE x)) (IntKind.i64.wrap (2 ^ q))))).run Try.prog we1 = .ok () we2 := by rw [IntWalk.i64_left]; exact he3
        clear he1 he2 he3 he4 he5 he6
        have hlk : (Instr.lookup 52 (.map (some M)) (.agg #[.string x.se, .int .i64 x.pl]) false).run Try.prog wd.drew = .ok (.int .i64 (bitsG G (keyE x))) wd.drew := (HM3.out.same (w' := wd.drew) rfl).mapV.look (keyE x) HFK.out
        have v0 := (cell_of_block (i := 0) HKV3.out).trans rfl
        have v1 := (cell_of_block (i := 1) HKV3.out).trans rfl
        have hvl := lt_of_block HKV3.out
        have hBM : B < M := HBMl.out
        have hMN : M < N0 := by have := HNE.out; omega
        go_upto_region 18 with (fail)
        go_region_law (fail)
        all_goals
          go_wp2
          go_roundg (es.length - (kk + 1))
          case measure => omega
          case rel => exact ⟨kk + 1, by omega, by omega, by go_num, HB3.out.grown HG6.out (by omega) (fun j hj => by cases hj; omega), (HG6.out.block B (lt_of_block HKB3.out) (by simp; omega)).trans HKB3.out, (show Aside _ from by rw [HNX.out]; exact HM4.out), ⟨Nat.le_trans hn0 HG6.out.size, (show Own _ _ _ _ _ _ _ from by rw [HNX.out]; exact HO3.out.2.grownBy HG6.out (fun i hi => by cases hi; omega))⟩, HAN.out⟩
    · have hltz : ¬ (kk : Int) < (es.length : Int) := by omega
      obtain rfl : kk = es.length := by omega
      obtain ⟨wq, rfl⟩ : ∃ wq, wq = wr := ⟨_, rfl⟩
      have HF0 : Hid (cntF l es = 0) := Lib.hid (by rw [HF2.out]; exact FF_zero A.out)
      have HGG := Lib.hid (stN_goodG l es es.length)
      have HLN := Lib.hid (stN_len l es es.length)
      obtain ⟨G, hG⟩ : ∃ G, G = (stN l es es.length).1 := ⟨_, rfl⟩
      obtain ⟨I, hI⟩ : ∃ I, I = (stN l es es.length).2 := ⟨_, rfl⟩
      have HPM : Hid (∀ v1 v2 W, Sl W 6 encK v1 (cntL l G) → Sl W 1 encI v2 I → Below w.heap.size w W → CntPost w l es (.returned (.tuple #[v1, v2, .int .i64 0])) W) := Lib.hid (fun v1 v2 W h1 h2 h3 => CntPost.mk HF0.out (by rw [← hG]; exact h1) (by rw [← hI]; exact h2) h3)
      rw [← hG] at KM HGG HLN
      rw [← hI] at OI HLN
      clear hG hI A HF2 HF0
      obtain ⟨N1, hN1⟩ : ∃ N1, N1 = wq.heap.size := ⟨_, rfl⟩
      have HN1 := Lib.hid hN1
      have HBN : Hid (B ≤ N1) := Lib.hid (by have := lt_of_block KB.out; omega)
      have b0 := (cell_of_block (i := 0) KB.out).trans rfl
      have hbl := lt_of_block KB.out
      clear hN1
      go_wp2
      go_loopg [14, 100] l.length (fun gg s14 s100 wr => ∃ jj : Nat, jj ≤ l.length ∧ l.length - jj ≤ gg ∧ s100 = .int .i64 jj ∧ Aside (Below N1 wq wr) ∧ Aside (Own wr N1 41 6 encZ s14 (ddN l jj)))
      case atStart => exact ⟨0, Nat.zero_le _, by omega, rfl, (show Aside _ from Below.refl _ _), (show Own _ _ _ _ _ _ _ from Own.nil)⟩
      case round =>
        obtain ⟨jj, hjj, hgj, rfl, BT, OT⟩ := hrel
        obtain ⟨ta, tL, tc, rfl⟩ := Own.slv encZ_len OT.out
        by_cases hltj : jj < l.length
        · have hltz2 : (jj : Int) < (l.length : Int) := by omega
          obtain ⟨p, hp⟩ : ∃ p, l[jj]? = some p := ⟨l[jj], by simp [hltj]⟩
          obtain ⟨pb, po, rfl, hpc⟩ := HLEL.out jj p hp
          have hpb : pb < w.heap.size := World.block_lt_of_cell? w _ (hpc 0 _ rfl)
          have hpB : pb < B := by have := HBE.out; omega
          have HWT : Hid (Below B w wr) := Lib.hid (BW.out.trans (BT.out.mono HBN.out))
          have c0 : wr.cell? ⟨pb, po + jj * 3, none⟩ = some (.string p.ad) := by have h := (HWT.out.cell (p := ⟨pb, po + jj * 3 + 0, none⟩) hpB).trans (hpc 0 _ rfl); simpa using h
          have c1 := (HWT.out.cell (p := ⟨pb, po + jj * 3 + 1, none⟩) hpB).trans (hpc 1 _ rfl)
          have c2 := (HWT.out.cell (p := ⟨pb, po + jj * 3 + 2, none⟩) hpB).trans (hpc 2 _ rfl)
          have HNX := Lib.hid (ddN_next hp)
          have hsz := BT.out.size
          have hDL := ddN_len l jj
          clear hp hpc
          go_upto_region 24 with (fail)
          obtain ⟨wx, hwx⟩ : ∃ wx, wx = wr.alloc (.cells #[.string p.ad, .int .i64 p.fr, .int .i64 p.ln] 28) := ⟨_, rfl⟩
          have HKP : Hid (wx.heap[wr.heap.size]? = some (.cells #[.string p.ad, .int .i64 p.fr, .int .i64 p.ln] 28 (0, 0))) := Lib.hid (by rw [hwx]; exact block_new wr _)
          have HBX : Hid (Below N1 wq wx) := Lib.hid (by rw [hwx]; exact BT.out.alloc (by have := HN1.out; omega) _)
          have HOX : Hid (Own wx N1 41 6 encZ (.slice ta tL tc) (ddN l jj)) := Lib.hid (by rw [hwx]; exact OT.out.al _)
          rw [← hwx]
          clear hwx c0 c1 c2
          obtain ⟨P, hP⟩ : ∃ P, P = wr.heap.size := ⟨_, rfl⟩
          rw [← hP] at HKP ⊢
          have hPN : N1 ≤ P := by have := HN1.out; omega
          clear hP
          have p0 := (cell_of_block (i := 0) HKP.out).trans rfl
          have hpl := lt_of_block HKP.out
          obtain ⟨D, hD⟩ : ∃ D, D = ddN l jj := ⟨_, rfl⟩
          rw [← hD] at HOX HNX hDL
          clear hD OT BT HWT hsz
          have HCL : Hid (Calls Try.prog 19 #[.slice ta tL tc, .func (.func 20) #[] #[.pointer (some ⟨P, 0, none⟩)]] wx fun e w' => e = .returned (.bool (D.any (fun b => b.toList == p.ad.toList))) ∧ Below wx.heap.size wx w') := Lib.hid (by
            have h := anyK 20 #[.pointer (some ⟨P, 0, none⟩)] (fun c => c.ad.toList == p.ad.toList) wx (D.map zeroK) _ (HOX.out.zeroK.sl encK_len) (enters_of Try.func20 (by kernel_rfl) rfl) (fun W x _ hb => clo1_any x P p.ad W ((hb.cell (p := ⟨P, 0, none⟩) hpl).trans p0))
            rw [List.any_map] at h
            exact h)
          go_cut [112] (fun s112 w2 => s112 = .bool (!noAd p && !D.any (fun b => b.toList == p.ad.toList)) ∧ Aside (Below wx.heap.size wx w2))
          case first =>
            cases e1 : noAd p
            case true =>
              have e2 : p.ad.toList.isEmpty = true := e1
              go_wp2
              go_meet
              exact ⟨by simp [*], Below.refl _ _⟩
            case false =>
              have e2 : p.ad.toList.isEmpty = false := e1
              go_wp2_with (go_at_call 19; refine HCL.out.mono ?_; rintro e w2 ⟨rfl, hb2⟩; have HB2 := Lib.hid hb2; clear hb2)
              go_meet
              exact ⟨by simp [*], HB2.out⟩
          obtain ⟨rfl, HB2⟩ := hcut
          have HB3 : Hid (Below N1 wq wc) := Lib.hid (HBX.out.trans (HB2.out.mono (by omega)))
          have HO3 := Lib.hid (HOX.out.below HB2.out (Nat.le_refl _))
          have HKP3 := Lib.hid ((HB2.out.block P hpl).trans HKP.out)
          clear HCL p0 hpl HKP HBX HOX HB2
          generalize (!noAd p && !D.any (fun b => b.toList == p.ad.toList)) = T at HNX ⊢
          cases T
          case false =>
            have HNY : Hid (ddN l (jj + 1) = D) := Lib.hid (by rw [HNX.out, if_neg (by simp)])
            go_wp2
            go_roundg (l.length - (jj + 1))
            case measure => omega
            case rel => exact ⟨jj + 1, by omega, by omega, by go_num, HB3.out, (show Own _ _ _ _ _ _ _ from by rw [HNY.out]; exact HO3.out)⟩
          case true =>
            have HNY : Hid (ddN l (jj + 1) = D ++ [p.ad]) := Lib.hid (by rw [HNX.out, if_pos rfl])
            have p0 := (cell_of_block (i := 0) HKP3.out).trans rfl
            have hpl := lt_of_block HKP3.out
            have HLD : Hid ((D.length + 1) * 56 ≤ 140737488355328) := Lib.hid (by omega)
            have hn1 : N1 ≤ wc.heap.size := by omega
            go_wp2_with (at_builtin; refine wpList_push rfl _ _ 36 rfl slK rfl rfl (enc := encZ) p.ad rfl rfl rfl HO3.out rfl HLD.out hn1 ?_; intro v5 w5 ho5 hb5; have HO5 := Lib.hid ho5; have HB5 := Lib.hid (HB3.out.trans hb5); clear ho5 hb5)
            go_roundg (l.length - (jj + 1))
            case measure => omega
            case rel => exact ⟨jj + 1, by omega, by omega, by go_num, HB5.out, (show Own _ _ _ _ _ _ _ from by rw [HNY.out]; exact HO5.out)⟩
        · have hltz2 : ¬ (jj : Int) < (l.length : Int) := by omega
          obtain rfl : jj = l.length := by omega
          have hszt := BT.out.size
          have hn1 : N1 ≤ wr.heap.size := by have := HN1.out; omega
          have HSC := Lib.hid (sortC_own wr N1 (ddN l l.length) _ OT.out hn1 (Nat.le_trans (ddN_len _ _) hl1000))
          go_wp2_with fail
          refine HSC.out.mono ?_
          rintro e ws ⟨rfl, hos, hbs⟩
          have HOS : Hid (Own ws N1 41 6 encK (.slice ta tL tc) (curL l G (keysG G))) := Lib.hid (by rw [curL_start, ← sort_names]; exact hos.zeroK)
          have HBS : Hid (Below N1 wq ws) := Lib.hid (BT.out.trans hbs)
          have HMN : Hid (M < N1) := Lib.hid (by have := KM.out.mapV.lt; have := HN1.out; omega)
          have HMS := Lib.hid (KM.out.same (HBS.out.block M (by have := HN1.out; have := HMN.out; omega)))
          obtain ⟨wi, hrg, hrv, hgi, hsi⟩ := HMS.out.range
          have hsn := HBS.out.size
          obtain ⟨R, hR⟩ : ∃ R, R = ws.heap.size := ⟨_, rfl⟩
          rw [← hR] at hrg hrv
          have hNR : N1 ≤ R := by have := HN1.out; omega
          have HRI : Hid (RngV wi M R es.length (bitsG G) (keysG G)) := Lib.hid hrv
          have HOI : Hid (Own wi N1 41 6 encK (.slice ta tL tc) (curL l G (keysG G))) := Lib.hid (HOS.out.grownBy hgi (fun i hi => by cases hi))
          have HBI : Hid (Below N1 wq wi) := Lib.hid (HBS.out.grown hgi (by omega) (fun i hi => by cases hi))
          have HGR : Hid (∀ g n c, (.slice ta tL tc : Value) = .slice (some ⟨g, 0, none⟩) n c → g < R) := Lib.hid (fun g n c h => by
            have hb := HOS.out
            rw [h] at hb
            obtain ⟨cur, hc⟩ := hb.blk
            have := lt_of_block hc
            omega)
          clear hos hbs HSC HOS HBS HMS hrv hgi hsi hsn hR hszt OT BT
          go_wp2
          go_loopg [20] (keysG G).length (fun gg s20 wr => ∃ left : List Vk, left.length ≤ gg ∧ Aside (RngV wr M R es.length (bitsG G) left) ∧ Aside (∀ v ∈ left, v ∈ keysG G) ∧ Aside (Below N1 wq wr) ∧ Aside (Own wr N1 41 6 encK (.slice ta tL tc) (curL l G left)))
          case atStart => exact ⟨keysG G, Nat.le_refl _, (show Aside _ from HRI.out), (show Aside _ from fun v h => h), HBI.out, (show Own _ _ _ _ _ _ _ from HOI.out)⟩
          case round =>
            obtain ⟨left, hgl, RV, LK, BU, OU⟩ := hrel
            rcases RV.out.step 0 with ⟨hnil, hrun⟩ | ⟨v, wn, hv, hfit, hrun, hrv, hgr, hsz, hen⟩
            · have HO6 : Hid (Sl wr 6 encK (.slice ta tL tc) (cntL l G)) := Lib.hid (by
                have h := OU.out.sl encK_len
                rw [hnil, curL_end HGG.out] at h
                exact h)
              have HI6 := Lib.hid ((OI.out.2.below BU.out (Nat.le_of_eq HN1.out.symm)).sl encI_len)
              have HB6 := Lib.hid (BW.out.trans (BU.out.mono HBN.out))
              clear hnil
              go_wp2
              go_ret3
              exact HPM.out _ _ _ HO6.out HI6.out (by rw [← HBE.out]; exact HB6.out)
            have hvk := LK.out v hv
            have hin := key_in HGG.out hvk
            obtain ⟨i, hi1, hi2, hi3⟩ := curL_at HGG.out hvk left
            have HNXT := Lib.hid (curL_next (G := G) hv hi1)
            have hrle : (left.erase v).length + 1 ≤ left.length := by
              have := List.length_erase_of_mem hv
              have := List.length_pos_of_mem hv
              omega
            have HLK2 : Hid (∀ u ∈ left.erase v, u ∈ keysG G) := Lib.hid (fun u hu => LK.out u (List.mem_of_mem_erase hu))
            have HRV : Hid (RngV wn M R es.length (bitsG G) (left.erase v)) := Lib.hid hrv
            have HOV : Hid (Own wn N1 41 6 encK (.slice ta tL tc) (curL l G left)) := Lib.hid (OU.out.grownOff hgr (fun g n c h e => by have := HGR.out g n c h; simp at e; omega))
            have HBV : Hid (Below N1 wq wn) := Lib.hid (BU.out.grown hgr (by have := BU.out.size; have := HN1.out; omega) (fun j hj => by cases hj; omega))
            have hrun1 : (Instr.next (.pointer (some ⟨R, 0, none⟩)) false 0).run Try.prog wr = .ok (.tuple #[.bool true, .agg #[.string v.se, .int .i64 v.pl], .int .i64 (bitsG G v)]) wn := hrun
            have hen1 : (Instr.entry (.pointer (some ⟨R, 0, none⟩))).run Try.prog wn = .ok (.tuple #[.agg #[.string v.se, .int .i64 v.pl], .int .i64 (bitsG G v)]) wn := hen
            have HUT : Hid (∀ q : Nat, q < 5 → bits5 (toldL G v.se v.pl 1) (toldL G v.se v.pl 2) (toldL G v.se v.pl 3) (toldL G v.se v.pl 4) (toldL G v.se v.pl 5) = bitsG G v) := Lib.hid (fun _ _ => rfl)
            obtain ⟨cb0, hb0⟩ : ∃ c0, c0 = curC l G left (adV l v) 0 := ⟨_, rfl⟩
            have HCB : Hid (∀ n, 0 ≤ curC l G left (adV l v) n ∧ curC l G left (adV l v) n ≤ 5000) := Lib.hid (fun n => by
              have h := curC_bd (l := l) LK.out RV.out.1 (adV l v) n
              have := HLN.out
              omega)
            clear hb0 hrun hen hrv RV hvk OU hsz hgr
            go_upto_region 31 with (fail)
            obtain ⟨wx, hwx⟩ : ∃ wx, wx = wn.alloc (.cells #[.string v.se, .int .i64 v.pl] 55) := ⟨_, rfl⟩
            have HGA : Hid (wn.grownBy wx none) := Lib.hid (by rw [hwx]; exact grownBy_alloc _ _)
            have HKV : Hid (wx.heap[wn.heap.size]? = some (.cells #[.string v.se, .int .i64 v.pl] 55 (0, 0))) := Lib.hid (by rw [hwx]; exact block_new wn _)
            rw [← hwx]
            clear hwx hrun1 hen1
            obtain ⟨V, hV⟩ : ∃ V, V = wn.heap.size := ⟨_, rfl⟩
            rw [← hV] at HKV ⊢
            clear hV
            have HRX : Hid (RngV wx M R es.length (bitsG G) (left.erase v)) := Lib.hid (HRV.out.kept HGA.out (by simp) (by simp))
            have HOX : Hid (Own wx N1 41 6 encK (.slice ta tL tc) (curL l G left)) := Lib.hid (HOV.out.grownBy HGA.out (fun i hi => by cases hi))
            have HBX : Hid (Below N1 wq wx) := Lib.hid (HBV.out.grown HGA.out (by have := HBV.out.size; have := HN1.out; omega) (fun j hj => by cases hj))
            have HKB : Hid (wx.heap[B]? = some (.cells #[.slice ao l.length cap] 22 (0, 0))) := Lib.hid ((HBX.out.block B (by have := lt_of_block KB.out; have := HN1.out; omega)).trans KB.out)
            have HLX : Hid (Sl wx 3 encP (.slice ao l.length cap) l) := Lib.hid (HL.out.below (BW.out.trans (HBX.out.mono HBN.out)) (Nat.le_of_eq HBE.out.symm))
            have HIX : Hid (Calls Try.prog 23 #[.slice ta tL tc, .func (.func 24) #[] #[.pointer (some ⟨B, 0, none⟩), .pointer (some ⟨V, 0, none⟩)]] wx fun e w' => e = .returned (.int .i64 i) ∧ Below wx.heap.size wx w') := Lib.hid (by
              have h := idxK 24 #[.pointer (some ⟨B, 0, none⟩), .pointer (some ⟨V, 0, none⟩)] (fun c => c.ad.toList == (adV l v).toList) wx (curL l G left) _ (HOX.out.sl encK_len) (enters_of Try.func24 (by kernel_rfl) rfl) (fun W x _ hb => clo3_any x B V l v.pl ao cap W ((hb.cell (p := ⟨B, 0, none⟩) (lt_of_block HKB.out)).trans ((cell_of_block (i := 0) HKB.out).trans rfl)) ((hb.cell (p := ⟨V, 1, none⟩) (lt_of_block HKV.out)).trans ((cell_of_block (i := 1) HKV.out).trans rfl)) (HLX.out.below hb (Nat.le_refl _)) hin.1 hin.2)
              rw [hi2] at h
              exact h)
            have HI3 := Lib.hid hi3
            clear HRV HOV HBV HGA HKV HKB HLX hi2 hi1 hi3
            go_wp2_with fail
            refine HIX.out.mono ?_
            rintro e wy ⟨rfl, hby⟩
            have HRY : Hid (RngV wy M R es.length (bitsG G) (left.erase v)) := Lib.hid (HRX.out.kept (grown_of_below hby) (by simp) (by simp))
            have HOY : Hid (Own wy N1 41 6 encK (.slice ta tL tc) (curL l G left)) := Lib.hid (HOX.out.below hby (Nat.le_refl _))
            have HBY : Hid (Below N1 wq wy) := Lib.hid (HBX.out.trans (hby.mono (by have := HBX.out.size; have := HN1.out; omega)))
            clear HIX hby HRX HOX HBX
            obtain ⟨AD, hAD⟩ : ∃ AD, AD = adV l v := ⟨_, rfl⟩
            rw [← hAD] at HNXT HCB HI3
            clear hAD
            obtain ⟨C0, hC0⟩ : ∃ C0, C0 = curC l G left AD 0 := ⟨_, rfl⟩
            obtain ⟨C1, hC1⟩ : ∃ C1, C1 = curC l G left AD 1 := ⟨_, rfl⟩
            obtain ⟨C2, hC2⟩ : ∃ C2, C2 = curC l G left AD 2 := ⟨_, rfl⟩
            obtain ⟨C3, hC3⟩ : ∃ C3, C3 = curC l G left AD 3 := ⟨_, rfl⟩
            obtain ⟨C4, hC4⟩ : ∃ C4, C4 = curC l G left AD 4 := ⟨_, rfl⟩
            have HCD : Hid ((0 ≤ C0 ∧ C0 ≤ 5000) ∧ (0 ≤ C1 ∧ C1 ≤ 5000) ∧ (0 ≤ C2 ∧ C2 ≤ 5000) ∧ (0 ≤ C3 ∧ C3 ≤ 5000) ∧ (0 ≤ C4 ∧ C4 ≤ 5000)) := Lib.hid (by
              rw [hC0, hC1, hC2, hC3, hC4]
              exact ⟨HCB.out 0, HCB.out 1, HCB.out 2, HCB.out 3, HCB.out 4⟩)
            have HI4 : Hid ((curL l G left)[i]? = some ⟨AD, C0, C1, C2, C3, C4⟩) := Lib.hid (by rw [HI3.out, hC0, hC1, hC2, hC3, hC4]; rfl)
            have HNY : Hid (curL l G (left.erase v) = (curL l G left).set i ⟨AD, C0 + (if upTo G v 0 = true then 1 else 0), C1 + (if upTo G v 1 = true then 1 else 0), C2 + (if upTo G v 2 = true then 1 else 0), C3 + (if upTo G v 3 = true then 1 else 0), C4 + (if upTo G v 4 = true then 1 else 0)⟩) := Lib.hid (by rw [HNXT.out, hC0, hC1, hC2, hC3, hC4])
            clear hC0 hC1 hC2 hC3 hC4 HI3 HNXT HCB
            obtain ⟨Q, hQ⟩ : ∃ Q, Q = curL l G left := ⟨_, rfl⟩
            rw [← hQ] at HOY HI4 HNY
            clear hQ
            have hQi : i < Q.length := (List.getElem?_eq_some_iff.1 HI4.out).1
            have hQz : (i : Int) < (Q.length : Int) := by omega
            obtain ⟨g, tc2, hvv, hNg, hgw, _, _, _, _⟩ := HOY.out.getk encK_len (fun e => by rw [e] at hQi; exact absurd hQi (Nat.not_lt_zero _))
            simp only [Value.slice.injEq] at hvv
            obtain ⟨rfl, rfl, rfl⟩ := hvv
            have hgR := HGR.out g _ _ rfl
            clear hgw
            have HLV := Lib.hid HLK2.out
            go_wp2
            go_loopg [20] 5 (fun g4 s20 wr => ∃ n : Nat, n ≤ 5 ∧ 5 - n ≤ g4 ∧ s20 = .int .i64 n ∧ Aside (RngV wr M R es.length (bitsG G) (left.erase v)) ∧ Aside (Below N1 wq wr) ∧ Aside (Own wr N1 41 6 encK (.slice (some ⟨g, 0, none⟩) Q.length tc) (Q.set i ⟨AD, C0 + dK (n + 1) 0, C1 + dK (n + 1) 1, C2 + dK (n + 1) 2, C3 + dK (n + 1) 3, C4 + dK (n + 1) 4⟩)) ∧ Aside (∀ m : Nat, (m : Int) + 1 < (n : Int) + 1 → upTo G v m = true))
            case atStart => exact ⟨0, by omega, by omega, rfl, (show Aside _ from HRY.out), HBY.out, (show Own _ _ _ _ _ _ _ from by
              have e : Q.set i ⟨AD, C0 + dK ((0 : Nat) + 1) 0, C1 + dK ((0 : Nat) + 1) 1, C2 + dK ((0 : Nat) + 1) 2, C3 + dK ((0 : Nat) + 1) 3, C4 + dK ((0 : Nat) + 1) 4⟩ = Q := by
                have h2 : (⟨AD, C0 + dK ((0 : Nat) + 1) 0, C1 + dK ((0 : Nat) + 1) 1, C2 + dK ((0 : Nat) + 1) 2, C3 + dK ((0 : Nat) + 1) 3, C4 + dK ((0 : Nat) + 1) 4⟩ : Cnt) = Q[i] := by
                  have h3 := HI4.out
                  rw [List.getElem?_eq_getElem hQi] at h3
                  have h4 := Option.some.inj h3
                  rw [h4]
                  simp [dK]
                rw [h2, List.set_getElem_self]
              rw [e]
              exact HOY.out), (show Aside _ from fun m hm => by omega)⟩
            case round =>
              obtain ⟨n, hn5, hg4, rfl, RV4, BV4, OV4, UP⟩ := hrel
              go_upto_region 33 with (fail)
              go_cut [140] (fun s140 w2 => s140 = .bool (decide (n < 5) && toldL G v.se v.pl (n + 1)) ∧ w2 = wr)
              case first =>
                by_cases h5 : n < 5
                case neg =>
                  obtain rfl : n = 5 := by omega
                  go_wp2
                  go_meet
                  exact ⟨by simp, rfl⟩
                have HTB := Lib.hid (bitsG_shr G v n h5)
                have h5z : (n : Int) < 5 := by omega
                go_wp2
                go_meet
                exact ⟨by rw [HTB.out, decide_eq_true h5, Bool.true_and], rfl⟩
              obtain ⟨rfl, rfl⟩ := hcut
              cases hT : (decide (n < 5) && toldL G v.se v.pl (n + 1))
              case false =>
                have HEND : Hid ((n : Int) + 1 ≤ 5 → toldL G v.se v.pl ((n : Int) + 1) = false) := Lib.hid (fun h => by
                  rw [decide_eq_true (show n < 5 by omega), Bool.true_and] at hT
                  exact hT)
                have HDU : Hid (∀ m : Nat, m < 5 → dK ((n : Int) + 1) m = if upTo G v m = true then 1 else 0) := Lib.hid (fun m hm => dK_up (by omega) (by omega) hm UP.out HEND.out)
                clear hT
                go_wp2
                go_roundg (left.erase v).length
                case measure => omega
                case rel => exact ⟨left.erase v, Nat.le_refl _, (show Aside _ from RV4.out), (show Aside _ from HLK2.out), BV4.out, (show Own _ _ _ _ _ _ _ from by
                  rw [HNY.out, ← HDU.out 0 (by omega), ← HDU.out 1 (by omega), ← HDU.out 2 (by omega), ← HDU.out 3 (by omega), ← HDU.out 4 (by omega)]
                  exact OV4.out)⟩
              case true =>
                rw [Bool.and_eq_true, decide_eq_true_eq] at hT
                obtain ⟨h5, hT2⟩ := hT
                have HUP2 : Hid (∀ m : Nat, (m : Int) + 1 < (n : Int) + 1 + 1 → upTo G v m = true) := Lib.hid (upTo_next (by omega) UP.out hT2)
                clear hT2 UP
                have hsb := BV4.out.size
                obtain ⟨⟨v0, u0⟩, ⟨v1, u1⟩, ⟨v2, u2⟩, ⟨v3, u3⟩, ⟨v4, u4⟩⟩ := HCD.out
                have hnn : n = 0 ∨ n = 1 ∨ n = 2 ∨ n = 3 ∨ n = 4 := by omega
                rcases hnn with rfl | rfl | rfl | rfl | rfl
                · have OV : Hid (Own wc N1 41 6 encK (.slice (some ⟨g, 0, none⟩) Q.length tc) (Q.set i ⟨AD, C0, C1, C2, C3, C4⟩)) := Lib.hid (by have h := OV4.out; simpa [dK] using h)
                  have hx : (Q.set i ⟨AD, C0, C1, C2, C3, C4⟩)[i]? = some ⟨AD, C0, C1, C2, C3, C4⟩ := by rw [List.getElem?_set_self hQi]
                  obtain ⟨g2, c2, hv2, _, hgl2, _, _, hcells, hfr⟩ := OV.out.getk encK_len (fun e => by rw [e] at hx; cases hx)
                  simp only [Value.slice.injEq, Option.some.injEq, Addr.mk.injEq, and_true] at hv2
                  obtain ⟨hg2, hq1, hq2⟩ := hv2
                  clear hq1 hq2
                  subst hg2
                  have HX := Lib.hid hx
                  have HST := Lib.hid (OV.out.store (j := 1) (u := .int .i64 (C0 + 1)) (y := ⟨AD, C0 + 1, C1, C2, C3, C4⟩) encK_len (by rw [List.length_set]) hx (by omega) rfl)
                  have x1 : wc.cell? ⟨g, i * 6 + 1, none⟩ = some (.int .i64 C0) := hcells i _ 1 _ hx rfl
                  have z1 := hfr (i * 6 + 1)
                  have hwr : IntKind.i64.wrap (C0 + 1) = C0 + 1 := IntWalk.i64_in _ (by omega)
                  clear hx hcells hfr OV4
                  go_upto_region 35 with (fail)
                  go_region_law (fail)
                  all_goals
                    go_wp2
                    go_roundg (5 - (0 + 1))
                    case measure => omega
                    case rel => exact ⟨1, by omega, by omega, by go_num, (show Aside _ from RV4.out.kept (grownBy_set _ _ _ _) (by have := HMN.out; simp; omega) (by simp; omega)), (show Aside _ from (BV4.out.setCell hNg _).drew), (show Own _ _ _ _ _ _ _ from by
                      have h := HST.out
                      rw [List.set_set] at h
                      have e : (⟨AD, C0 + dK (((1 : Nat) : Int) + 1) 0, C1 + dK (((1 : Nat) : Int) + 1) 1, C2 + dK (((1 : Nat) : Int) + 1) 2, C3 + dK (((1 : Nat) : Int) + 1) 3, C4 + dK (((1 : Nat) : Int) + 1) 4⟩ : Cnt) = ⟨AD, C0 + 1, C1, C2, C3, C4⟩ := by simp [dK]
                      rw [e]
                      exact h), (show Aside _ from HUP2.out)⟩
                · have OV : Hid (Own wc N1 41 6 encK (.slice (some ⟨g, 0, none⟩) Q.length tc) (Q.set i ⟨AD, C0 + 1, C1, C2, C3, C4⟩)) := Lib.hid (by have h := OV4.out; simpa [dK] using h)
                  have hx : (Q.set i ⟨AD, C0 + 1, C1, C2, C3, C4⟩)[i]? = some ⟨AD, C0 + 1, C1, C2, C3, C4⟩ := by rw [List.getElem?_set_self hQi]
                  obtain ⟨g2, c2, hv2, _, hgl2, _, _, hcells, hfr⟩ := OV.out.getk encK_len (fun e => by rw [e] at hx; cases hx)
                  simp only [Value.slice.injEq, Option.some.injEq, Addr.mk.injEq, and_true] at hv2
                  obtain ⟨hg2, hq1, hq2⟩ := hv2
                  clear hq1 hq2
                  subst hg2
                  have HX := Lib.hid hx
                  have HST := Lib.hid (OV.out.store (j := 2) (u := .int .i64 (C1 + 1)) (y := ⟨AD, C0 + 1, C1 + 1, C2, C3, C4⟩) encK_len (by rw [List.length_set]) hx (by omega) rfl)
                  have x1 : wc.cell? ⟨g, i * 6 + 2, none⟩ = some (.int .i64 C1) := hcells i _ 2 _ hx rfl
                  have z1 := hfr (i * 6 + 2)
                  have hwr : IntKind.i64.wrap (C1 + 1) = C1 + 1 := IntWalk.i64_in _ (by omega)
                  clear hx hcells hfr OV4
                  go_upto_region 35 with (fail)
                  go_region_law (fail)
                  all_goals
                    go_wp2
                    go_roundg (5 - (1 + 1))
                    case measure => omega
                    case rel => exact ⟨2, by omega, by omega, by go_num, (show Aside _ from RV4.out.kept (grownBy_set _ _ _ _) (by have := HMN.out; simp; omega) (by simp; omega)), (show Aside _ from (BV4.out.setCell hNg _).drew), (show Own _ _ _ _ _ _ _ from by
                      have h := HST.out
                      rw [List.set_set] at h
                      have e : (⟨AD, C0 + dK (((2 : Nat) : Int) + 1) 0, C1 + dK (((2 : Nat) : Int) + 1) 1, C2 + dK (((2 : Nat) : Int) + 1) 2, C3 + dK (((2 : Nat) : Int) + 1) 3, C4 + dK (((2 : Nat) : Int) + 1) 4⟩ : Cnt) = ⟨AD, C0 + 1, C1 + 1, C2, C3, C4⟩ := by simp [dK]
                      rw [e]
                      exact h), (show Aside _ from HUP2.out)⟩
                · have OV : Hid (Own wc N1 41 6 encK (.slice (some ⟨g, 0, none⟩) Q.length tc) (Q.set i ⟨AD, C0 + 1, C1 + 1, C2, C3, C4⟩)) := Lib.hid (by have h := OV4.out; simpa [dK] using h)
                  have hx : (Q.set i ⟨AD, C0 + 1, C1 + 1, C2, C3, C4⟩)[i]? = some ⟨AD, C0 + 1, C1 + 1, C2, C3, C4⟩ := by rw [List.getElem?_set_self hQi]
                  obtain ⟨g2, c2, hv2, _, hgl2, _, _, hcells, hfr⟩ := OV.out.getk encK_len (fun e => by rw [e] at hx; cases hx)
                  simp only [Value.slice.injEq, Option.some.injEq, Addr.mk.injEq, and_true] at hv2
                  obtain ⟨hg2, hq1, hq2⟩ := hv2
                  clear hq1 hq2
                  subst hg2
                  have HX := Lib.hid hx
                  have HST := Lib.hid (OV.out.store (j := 3) (u := .int .i64 (C2 + 1)) (y := ⟨AD, C0 + 1, C1 + 1, C2 + 1, C3, C4⟩) encK_len (by rw [List.length_set]) hx (by omega) rfl)
                  have x1 : wc.cell? ⟨g, i * 6 + 3, none⟩ = some (.int .i64 C2) := hcells i _ 3 _ hx rfl
                  have z1 := hfr (i * 6 + 3)
                  have hwr : IntKind.i64.wrap (C2 + 1) = C2 + 1 := IntWalk.i64_in _ (by omega)
                  clear hx hcells hfr OV4
                  go_upto_region 35 with (fail)
                  go_region_law (fail)
                  all_goals
                    go_wp2
                    go_roundg (5 - (2 + 1))
                    case measure => omega
                    case rel => exact ⟨3, by omega, by omega, by go_num, (show Aside _ from RV4.out.kept (grownBy_set _ _ _ _) (by have := HMN.out; simp; omega) (by simp; omega)), (show Aside _ from (BV4.out.setCell hNg _).drew), (show Own _ _ _ _ _ _ _ from by
                      have h := HST.out
                      rw [List.set_set] at h
                      have e : (⟨AD, C0 + dK (((3 : Nat) : Int) + 1) 0, C1 + dK (((3 : Nat) : Int) + 1) 1, C2 + dK (((3 : Nat) : Int) + 1) 2, C3 + dK (((3 : Nat) : Int) + 1) 3, C4 + dK (((3 : Nat) : Int) + 1) 4⟩ : Cnt) = ⟨AD, C0 + 1, C1 + 1, C2 + 1, C3, C4⟩ := by simp [dK]
                      rw [e]
                      exact h), (show Aside _ from HUP2.out)⟩
                · have OV : Hid (Own wc N1 41 6 encK (.slice (some ⟨g, 0, none⟩) Q.length tc) (Q.set i ⟨AD, C0 + 1, C1 + 1, C2 + 1, C3, C4⟩)) := Lib.hid (by have h := OV4.out; simpa [dK] using h)
                  have hx : (Q.set i ⟨AD, C0 + 1, C1 + 1, C2 + 1, C3, C4⟩)[i]? = some ⟨AD, C0 + 1, C1 + 1, C2 + 1, C3, C4⟩ := by rw [List.getElem?_set_self hQi]
                  obtain ⟨g2, c2, hv2, _, hgl2, _, _, hcells, hfr⟩ := OV.out.getk encK_len (fun e => by rw [e] at hx; cases hx)
                  simp only [Value.slice.injEq, Option.some.injEq, Addr.mk.injEq, and_true] at hv2
                  obtain ⟨hg2, hq1, hq2⟩ := hv2
                  clear hq1 hq2
                  subst hg2
                  have HX := Lib.hid hx
                  have HST := Lib.hid (OV.out.store (j := 4) (u := .int .i64 (C3 + 1)) (y := ⟨AD, C0 + 1, C1 + 1, C2 + 1, C3 + 1, C4⟩) encK_len (by rw [List.length_set]) hx (by omega) rfl)
                  have x1 : wc.cell? ⟨g, i * 6 + 4, none⟩ = some (.int .i64 C3) := hcells i _ 4 _ hx rfl
                  have z1 := hfr (i * 6 + 4)
                  have hwr : IntKind.i64.wrap (C3 + 1) = C3 + 1 := IntWalk.i64_in _ (by omega)
                  clear hx hcells hfr OV4
                  go_upto_region 35 with (fail)
                  go_region_law (fail)
                  all_goals
                    go_wp2
                    go_roundg (5 - (3 + 1))
                    case measure => omega
                    case rel => exact ⟨4, by omega, by omega, by go_num, (show Aside _ from RV4.out.kept (grownBy_set _ _ _ _) (by have := HMN.out; simp; omega) (by simp; omega)), (show Aside _ from (BV4.out.setCell hNg _).drew), (show Own _ _ _ _ _ _ _ from by
                      have h := HST.out
                      rw [List.set_set] at h
                      have e : (⟨AD, C0 + dK (((4 : Nat) : Int) + 1) 0, C1 + dK (((4 : Nat) : Int) + 1) 1, C2 + dK (((4 : Nat) : Int) + 1) 2, C3 + dK (((4 : Nat) : Int) + 1) 3, C4 + dK (((4 : Nat) : Int) + 1) 4⟩ : Cnt) = ⟨AD, C0 + 1, C1 + 1, C2 + 1, C3 + 1, C4⟩ := by simp [dK]
                      rw [e]
                      exact h), (show Aside _ from HUP2.out)⟩
                · have OV : Hid (Own wc N1 41 6 encK (.slice (some ⟨g, 0, none⟩) Q.length tc) (Q.set i ⟨AD, C0 + 1, C1 + 1, C2 + 1, C3 + 1, C4⟩)) := Lib.hid (by have h := OV4.out; simpa [dK] using h)
                  have hx : (Q.set i ⟨AD, C0 + 1, C1 + 1, C2 + 1, C3 + 1, C4⟩)[i]? = some ⟨AD, C0 + 1, C1 + 1, C2 + 1, C3 + 1, C4⟩ := by rw [List.getElem?_set_self hQi]
                  obtain ⟨g2, c2, hv2, _, hgl2, _, _, hcells, hfr⟩ := OV.out.getk encK_len (fun e => by rw [e] at hx; cases hx)
                  simp only [Value.slice.injEq, Option.some.injEq, Addr.mk.injEq, and_true] at hv2
                  obtain ⟨hg2, hq1, hq2⟩ := hv2
                  clear hq1 hq2
                  subst hg2
                  have HX := Lib.hid hx
                  have HST := Lib.hid (OV.out.store (j := 5) (u := .int .i64 (C4 + 1)) (y := ⟨AD, C0 + 1, C1 + 1, C2 + 1, C3 + 1, C4 + 1⟩) encK_len (by rw [List.length_set]) hx (by omega) rfl)
                  have x1 : wc.cell? ⟨g, i * 6 + 5, none⟩ = some (.int .i64 C4) := hcells i _ 5 _ hx rfl
                  have z1 := hfr (i * 6 + 5)
                  have hwr : IntKind.i64.wrap (C4 + 1) = C4 + 1 := IntWalk.i64_in _ (by omega)
                  clear hx hcells hfr OV4
                  go_upto_region 35 with (fail)
                  go_region_law (fail)
                  all_goals
                    go_wp2
                    go_roundg (5 - (4 + 1))
                    case measure => omega
                    case rel => exact ⟨5, by omega, by omega, by go_num, (show Aside _ from RV4.out.kept (grownBy_set _ _ _ _) (by have := HMN.out; simp; omega) (by simp; omega)), (show Aside _ from (BV4.out.setCell hNg _).drew), (show Own _ _ _ _ _ _ _ from by
                      have h := HST.out
                      rw [List.set_set] at h
                      have e : (⟨AD, C0 + dK (((5 : Nat) : Int) + 1) 0, C1 + dK (((5 : Nat) : Int) + 1) 1, C2 + dK (((5 : Nat) : Int) + 1) 2, C3 + dK (((5 : Nat) : Int) + 1) 3, C4 + dK (((5 : Nat) : Int) + 1) 4⟩ : Cnt) = ⟨AD, C0 + 1, C1 + 1, C2 + 1, C3 + 1, C4 + 1⟩ := by simp [dK]
                      rw [e]
                      exact h), (show Aside _ from HUP2.out)⟩
end Go.Proofs.Ythpjgongplffnaa

/- Best of edge: the walk. -/
import Derived.Test.YtmgbmoiefgfemaaDoorBsfM
import Derived.StillTailTactics
namespace Go.Proofs.YtmgbmoiefgfemaaDoor
open Go.RowKit

/-- A world of the first loop. -/
def LsR (w1 wr : World) (K : List ByteArray) (G k : Nat) (ks : List ByteArray) : Prop := Arr wr G (mixL zrG (nxG K) k K.length) ∧ MapS wr (G + 1) (K.length - k) (nxI K k) ks ∧ LasS K k ks ∧ Below G w1 wr
theorem wf_i {x : Int} (h : 0 ≤ x ∧ x ≤ 1000) : (Lit.int .i64 x).wf = true := by simp [Lit.wf]; exact ⟨by show (-9223372036854775808 : Int) ≤ _; omega, by omega⟩
/-- A round of the first loop is through. -/
theorem LsR.step {w1 wr w5 w6 : World} {K : List ByteArray} {G i : Nat} {ks : List ByteArray} {n : Nat} (h : LsR w1 wr K G (i + 1) ks) (hi : i < K.length) (h5 : Below G wr w5) (ha : Arr w5 G (mixL zrG (nxG K) i K.length)) (hg : w5.grownBy w6 (some (G + 1))) (hn : n ≤ K.length - i)
    (hm : MapS w6 (G + 1) n (fun d => if d = keyA K i then (i : Int) else nxI K (i + 1) d) (addL (keyA K i) ks)) : LsR w1 w6 K G i (addL (keyA K i) ks) := by
  obtain ⟨h1, h2, h3, h4⟩ := h
  refine ⟨(hg.block G ha.lt (by simp)).trans ha, (hm.mono hn).congr fun d _ => nxI_step hi d, h3.step hi, (h4.trans h5).grown hg (by have := ha.lt; omega) (fun j hj => by cases hj; omega)⟩

/-- A world of the second loop. -/
def HdR (w1 wr : World) (K : List ByteArray) (G N M i : Nat) (H : List ByteArray) : Prop := Arr wr G (mixL zrG (nxG K) 0 K.length) ∧ MapS wr N i (nxI K i) H ∧ SimC K i H (rfS K M i).1 ∧ H.length ≤ M ∧ Below G w1 wr ∧ (M = 0 → i = 0)

set_option maxRecDepth 100000 in
set_option maxHeartbeats 4000000 in
theorem Best_any (w : World) (K : List ByteArray) (v : Value) (m : Int) (hl : Sl w 1 encS v K) (hw : ∀ x, x ∈ K → x.size ≤ 9223372036854775807) :
    Calls Tryd.prog 28 #[v, .int .i64 m] w (BsfP w K m) := by
  have H1 := Lib.hid (keysFault_any w K v hl hw)
  have HFF := Lib.hid (outS_any K m)
  have HNO := Lib.hid (fun (h : crvF K m ≠ 0) => show bsV K m = 0 from by unfold bsV; rw [if_neg h])
  have HYES := Lib.hid (fun (h : crvF K m = 0) => show bsV K m = bsN K m.toNat from by unfold bsV; rw [if_pos h])
  have HK := Lib.hid (fun (h : kyF K = 0) => (kyF_zero h).1)
  have HKS : Hid (∀ i, i < K.length → (keyA K i).size ≤ maxLen) := Lib.hid (fun i hi => hw _ (by unfold keyA; rw [List.getD_eq_getElem?_getD, List.getElem?_eq_getElem hi]; exact List.getElem_mem _))
  obtain ⟨r, hr⟩ : ∃ r, r = kyF K := ⟨_, rfl⟩
  rw [← hr] at H1 HFF HK
  obtain ⟨ao, cap, rfl, hcap, hmax, _, hel⟩ := hl
  unfold maxLen at hmax
  have HEL := Lib.hid hel
  have hmm := @run_makeMap Tryd.prog
  clear hel hw hr
  go_enter Tryd.func28, Tryd.ntmps28
  go_upto_region 2 with (go_at_call 64; refine H1.out.mono ?_; rintro e w1 ⟨rfl, hb⟩; have HB1 := Lib.hid hb; clear hb)
  cases e1 : (r != 0)
  case true =>
    have hr0 : r ≠ 0 := by simpa using e1
    have hf : Hid (r = crvF K m) := Lib.hid (by rw [HFF.out, if_pos hr0])
    have HN1 := Lib.hid (HNO.out (by rw [← hf.out]; exact hr0))
    go_wp2
    go_ret2
    exact BsfP.mk HN1.out.symm hf.out HB1.out
  have hr0 : r = 0 := by simpa using e1
  subst hr0
  clear e1
  cases o1 : outB m 0 1000
  case true =>
    have hf : Hid (1 = crvF K m) := Lib.hid (by rw [HFF.out, if_neg (by simp), if_pos o1])
    have HN1 := Lib.hid (HNO.out (by rw [← hf.out]; simp))
    go_wp2_with (go_at_call 40; refine (out_any _ _ _ _).mono ?_; rintro e w' ⟨rfl, rfl⟩)
    go_ret2
    exact BsfP.mk HN1.out.symm hf.out HB1.out
  have hf : Hid (0 = crvF K m) := Lib.hid (by rw [HFF.out, if_neg (by simp), if_neg (by simp [o1])])
  have hm := outB_no' (show ¬ outB m 0 1000 = true by rw [o1]; simp)
  obtain ⟨M, rfl⟩ : ∃ M : Nat, m = (M : Int) := ⟨m.toNat, by omega⟩
  have HYE := Lib.hid (HYES.out hf.out.symm)
  rw [Int.toNat_natCast] at HYE
  have hn1000 := HK.out rfl
  have hM1 : M ≤ 1000 := by omega
  have hmk := make_ints K.length hn1000
  have HEL1 := Lib.hid (el_below HEL.out HB1.out (Nat.le_refl _))
  have hwn : IntKind.i64.wrap ((K.length : Int) - 1) = (K.length : Int) - 1 := IntWalk.i64_in _ (by omega)
  clear H1 HFF HNO HYES HK
  go_upto_region 6 with (go_at_call 40; refine (out_any _ _ _ _).mono ?_; rintro e w' ⟨rfl, rfl⟩)
  obtain ⟨G, hG⟩ : ∃ G, G = w1.heap.size := ⟨_, rfl⟩
  have HG := Lib.hid hG
  obtain ⟨wA, hwA⟩ : ∃ wA, wA = w1.alloc (.cells ((List.replicate K.length (0 : Int)).map (Value.int .i64)).toArray 3) := ⟨_, rfl⟩
  have hA0 : Arr wA G (mixL zrG (nxG K) K.length K.length) := by
    rw [hwA, ← mixG_start, hG]
    exact Arr.made _ _
  have hsA : wA.heap.size = G + 1 := by rw [hwA, hG]; simp
  have hBA : Below G w1 wA := by rw [hwA, hG]; exact (Below.refl _ w1).alloc (Nat.le_refl _) _
  have hMA : MapS (wA.alloc (.map #[] 0)) (G + 1) 0 (nxI K K.length) [] := by rw [← hsA]; exact MapS.made _ _
  have HL0 : Hid (LsR w1 (wA.alloc (.map #[] 0)) K G K.length []) := Lib.hid ⟨hA0.below ((Below.refl _ wA).alloc (Nat.le_refl _) _), hMA.mono (Nat.zero_le _), LasS.start K, hBA.alloc (by omega) _⟩
  have hwG : w.heap.size ≤ G := by rw [hG]; exact HB1.out.size
  have hmk1 := hmk w1
  rw [← hG, ← hwA] at hmk1
  obtain ⟨wB, hwB⟩ : ∃ wB, wB = wA.alloc (.map #[] 0) := ⟨_, rfl⟩
  rw [← hwB] at HL0
  clear hmk hG hwA hA0 hBA hMA
  go_upto_region 8 with (fail)
  rw [← hwB]
  clear hmk1 hwB hsA
  go_wp2
  go_loopg [9, 10, 11] (K.length + 1) (fun gg s9 s10 s11 wr => ∃ (k : Nat) (ks : List ByteArray), k ≤ K.length ∧ k < gg + 1 ∧ s9 = .int .i64 ((k : Int) - 1) ∧ Aside (LsR w1 wr K G k ks))
  case atStart => exact ⟨K.length, [], Nat.le_refl _, by omega, by go_num, (show Aside _ from HL0.out)⟩
  case round =>
    obtain ⟨wi, rfl⟩ : ∃ wi : World, wi = wr := ⟨_, rfl⟩
    obtain ⟨k, ks, hk, hgk, rfl, LS⟩ := hrel
    obtain ⟨ha, hmp, hls, hbw⟩ := LS.out
    cases k with
    | zero =>
      have hA0 : Arr (wi.alloc (.map #[] 0)) G (mixL zrG (nxG K) 0 K.length) := ha.below ((Below.refl _ wi).alloc (Nat.le_refl _) _)
      have hGl := ha.lt
      have hM0 : MapS (wi.alloc (.map #[] 0)) wi.heap.size 0 (nxI K 0) [] := MapS.made _ _
      have hB0 : Below G w1 (wi.alloc (.map #[] 0)) := hbw.alloc (by omega) _
      obtain ⟨N, hN⟩ : ∃ N, N = wi.heap.size := ⟨_, rfl⟩
      have HD0 : Hid (HdR w1 (wi.alloc (.map #[] 0)) K G N M 0 []) := Lib.hid ⟨hA0, by rw [hN]; exact hM0, SimC.start K M, by simp, hB0, fun _ => rfl⟩
      have hGN : G < N := by omega
      go_upto_region 17 with (fail)
      rw [← hN]
      obtain ⟨wC, hwC⟩ : ∃ wC, wC = wi.alloc (.map #[] 0) := ⟨_, rfl⟩
      rw [← hwC] at HD0 ⊢
      clear hA0 hM0 hB0 hN hwC ha hmp hls hbw LS hGl
      go_wp2
      go_loopg [13, 64] K.length (fun gg s13 s64 wr => ∃ (i : Nat) (H : List ByteArray), i ≤ K.length ∧ K.length - i ≤ gg ∧ s64 = .int .i64 i ∧ s13 = .int .i64 (rfS K M i).2 ∧ Aside (HdR w1 wr K G N M i H))
      case atStart => exact ⟨0, [], Nat.zero_le _, by omega, rfl, rfl, (show Aside _ from HD0.out)⟩
      case round =>
        obtain ⟨wq, rfl⟩ : ∃ wq : World, wq = wr := ⟨_, rfl⟩
        obtain ⟨i, H, hi, hgi, rfl, rfl, HD⟩ := hrel
        obtain ⟨ha, hmp, hsc, hlM, hbw, h00⟩ := HD.out
        have HBF : Hid (Below w.heap.size w wq) := Lib.hid (HB1.out.trans (hbw.mono hwG))
        by_cases hil : i < K.length
        · have hiz : (i : Int) < (K.length : Int) := by omega
          obtain ⟨x, hx⟩ : ∃ x, K[i]? = some x := ⟨K[i], by simp [hil]⟩
          obtain ⟨b, off, rfl, hc⟩ := HEL1.out i x hx
          have hbl : b < G := by have h1 : b < w1.heap.size := World.block_lt_of_cell? w1 _ (hc 0 _ rfl); have h2 := HG.out; omega
          have c0 : wq.cell? ⟨b, off + i, none⟩ = some (.string x) := by have h := (hbw.cell (p := ⟨b, off + i * 1 + 0, none⟩) hbl).trans (hc 0 _ rfl); simpa using h
          have HX : Hid (keyA K i = x) := Lib.hid (by unfold keyA; rw [List.getD_eq_getElem?_getD, hx]; rfl)
          clear hx hc
          by_cases hM0 : M = 0
          · have hv : Hid ((rfS K M i).2 = bsV K M) := Lib.hid (by rw [HYE.out, h00 hM0]; unfold bsN; rw [if_pos hM0]; rfl)
            have hMz : ((M : Int) == 0) = true := by simpa using hM0
            clear ha hmp hsc hlM hbw h00 HD hM0
            go_wp2
            go_ret2
            exact BsfP.mk hv.out hf.out HBF.out
          have hMz : ((M : Int) == 0) = false := by simpa using hM0
          have HKX := HKS.out i hil
          rw [HX.out] at HKX
          obtain ⟨c, hlk, hcv⟩ := hmp.look x HKX
          have hcn : wq.cell? ⟨G, i, none⟩ = some (.int .i64 (nxG K i)) := ha.cell (by rw [mixL_get hil, if_neg (by omega)])
          have hgb := nxG_bd K i hn1000
          have hlb := rfS_len K M i
          have hww : IntKind.i64.wrap ((i : Int) + 1) = (i : Int) + 1 := IntWalk.i64_in _ (by omega)
          cases e3 : onL x H
          case true =>
            rw [e3] at hlk
            have hxk : x ∈ H := onL_iff.1 e3
            obtain ⟨h1, h2⟩ := sim_hit hsc hil (by rw [HX.out]; exact hxk)
            obtain ⟨w6, hup, hm6, hg6⟩ := hmp.put (by unfold maxLen; omega) x HKX (nxG K i) (wf_i hgb)
            have HST : Hid (HdR w1 w6 K G N M (i + 1) H) := Lib.hid ⟨(hg6.block G ha.lt (by simp; omega)).trans ha, by
              have h := hm6
              rw [show addL x H = H from by unfold addL; rw [if_pos e3]] at h
              exact h.congr fun d _ => by rw [← HX.out]; exact nxI_hold hil d, h1, hlM, hbw.grown hg6 (by have := ha.lt; omega) (fun j hj => by cases hj; omega), fun h => absurd h hM0⟩
            have HF2 := Lib.hid h2
            obtain ⟨z, hz⟩ : ∃ z, z = (rfS K M i).2 := ⟨_, rfl⟩
            rw [← hz] at HF2 hlb ⊢
            have hzw : IntKind.i64.wrap (z + 1) = z + 1 := IntWalk.i64_in _ (by omega)
            obtain ⟨gv, hgv⟩ : ∃ gv, gv = nxG K i := ⟨_, rfl⟩
            rw [← hgv] at hcn hup hgb
            clear ha hmp hsc hlM hbw h00 HD hcv h1 h2 hm6 hg6 hz hgv hM0
            go_wp2
            go_roundg (K.length - (i + 1))
            case measure => omega
            case rel => exact ⟨i + 1, H, by omega, by omega, by go_num, (by rw [HF2.out]), (show Aside _ from HST.out)⟩
          case false =>
            rw [e3] at hlk
            have hxk : ¬ x ∈ H := fun c => by rw [onL_iff.2 c] at e3; cases e3
            have hln := hmp.len 3
            by_cases hfl : H.length = M
            · have hne2 : H ≠ [] := fun c => by rw [c] at hfl; simp at hfl; omega
              have HFA := Lib.hid (farthest_any wq N i (nxI K i) H hmp (fun k _ => nxI_bd K i hn1000 k) hne2)
              have heq : ((H.length : Int) == (M : Int)) = true := by rw [hfl]; simp
              go_upto_region 26 with (fail)
              go_wp2_with fail
              with_reducible refine HFA.out.mono ?_
              rintro e w8 ⟨xe, rfl, hwm, hb8⟩
              have hbN := hmp.lt
              obtain ⟨w9, hdl, hm9, hg9⟩ := (hmp.same (hb8.block N hbN)).drop xe hwm.1 0
              obtain ⟨h1, h2⟩ := sim_full hsc hil (by rw [HX.out]; exact hxk) hfl (by omega) hwm
              rw [HX.out] at h1
              have ha9 : Arr w9 G (mixL zrG (nxG K) 0 K.length) := (hg9.block G (by have := hb8.size; have := ha.lt; omega) (by simp; omega)).trans (ha.below hb8)
              have hb9 : Below G w1 w9 := (hbw.trans (hb8.mono (by omega))).grown hg9 (by have := hb8.size; omega) (fun j hj => by cases hj; omega)
              have hcn9 : w9.cell? ⟨G, i, none⟩ = some (.int .i64 (nxG K i)) := ha9.cell (by rw [mixL_get hil, if_neg (by omega)])
              obtain ⟨w6, hup, hm6, hg6⟩ := hm9.put (by unfold maxLen; omega) x HKX (nxG K i) (wf_i hgb)
              have hxr : onL x (rmv xe H) = false := by
                cases hh : onL x (rmv xe H)
                · rfl
                · exact absurd (mem_rmv.1 (onL_iff.1 hh)).1 hxk
              have hrl := rmv_lt hwm.1
              have HST : Hid (HdR w1 w6 K G N M (i + 1) (x :: rmv xe H)) := Lib.hid ⟨(hg6.block G ha9.lt (by simp; omega)).trans ha9, by
                have h := hm6
                rw [show addL x (rmv xe H) = x :: rmv xe H from by unfold addL; rw [if_neg (by rw [hxr]; simp)]] at h
                exact h.congr fun d _ => by rw [← HX.out]; exact nxI_hold hil d, h1, by simp; omega, hb9.grown hg6 (by have := ha9.lt; omega) (fun j hj => by cases hj; omega), fun h => absurd h hM0⟩
              have HF2 := Lib.hid h2
              obtain ⟨z, hz⟩ : ∃ z, z = (rfS K M i).2 := ⟨_, rfl⟩
              rw [← hz] at HF2 hlb ⊢
              obtain ⟨gv, hgv⟩ : ∃ gv, gv = nxG K i := ⟨_, rfl⟩
              rw [← hgv] at hcn9 hup hgb
              clear hcn hlk hln hb8 ha9 hb9 hm9 hg9 hxr hrl HFA hwm ha hmp hsc hlM hbw h00 HD hcv h1 h2 hm6 hg6 hz hgv hM0 hfl c0
              go_wp2
              go_roundg (K.length - (i + 1))
              case measure => omega
              case rel => exact ⟨i + 1, x :: rmv xe H, by omega, by omega, by go_num, (by rw [HF2.out]), (show Aside _ from HST.out)⟩
            · obtain ⟨h1, h2⟩ := sim_room hsc hil (by rw [HX.out]; exact hxk) hfl
              rw [HX.out] at h1
              obtain ⟨w6, hup, hm6, hg6⟩ := hmp.put (by unfold maxLen; omega) x HKX (nxG K i) (wf_i hgb)
              have HST : Hid (HdR w1 w6 K G N M (i + 1) (x :: H)) := Lib.hid ⟨(hg6.block G ha.lt (by simp; omega)).trans ha, by
                have h := hm6
                rw [show addL x H = x :: H from by unfold addL; rw [if_neg (by rw [e3]; simp)]] at h
                exact h.congr fun d _ => by rw [← HX.out]; exact nxI_hold hil d, h1, by simp; omega, hbw.grown hg6 (by have := ha.lt; omega) (fun j hj => by cases hj; omega), fun h => absurd h hM0⟩
              have HF2 := Lib.hid h2
              have hne : ((H.length : Int) == (M : Int)) = false := by rw [beq_eq_false_iff_ne]; omega
              obtain ⟨z, hz⟩ : ∃ z, z = (rfS K M i).2 := ⟨_, rfl⟩
              rw [← hz] at HF2 hlb ⊢
              obtain ⟨gv, hgv⟩ : ∃ gv, gv = nxG K i := ⟨_, rfl⟩
              rw [← hgv] at hcn hup hgb
              clear ha hmp hsc hlM hbw h00 HD hcv h1 h2 hm6 hg6 hz hgv hM0 hfl
              go_wp2
              go_roundg (K.length - (i + 1))
              case measure => omega
              case rel => exact ⟨i + 1, x :: H, by omega, by omega, by go_num, (by rw [HF2.out]), (show Aside _ from HST.out)⟩
        · obtain rfl : i = K.length := by omega
          have hv : Hid ((rfS K M K.length).2 = bsV K M) := Lib.hid (by
            rw [HYE.out]
            unfold bsN
            by_cases hM0 : M = 0
            · rw [if_pos hM0, h00 hM0]; rfl
            · rw [if_neg hM0])
          clear ha hmp hsc hlM hbw h00 HD
          go_wp2
          go_ret2
          exact BsfP.mk hv.out hf.out HBF.out
    | succ i =>
      have hi : i < K.length := by omega
      have hiz : (i : Int) < (K.length : Int) := by omega
      rw [show ((i + 1 : Nat) : Int) - 1 = (i : Int) by omega]
      obtain ⟨x, hx⟩ : ∃ x, K[i]? = some x := ⟨K[i], by simp [hi]⟩
      obtain ⟨b, off, rfl, hc⟩ := HEL1.out i x hx
      have hbl : b < G := by have h1 : b < w1.heap.size := World.block_lt_of_cell? w1 _ (hc 0 _ rfl); have h2 := HG.out; omega
      have c0 : wi.cell? ⟨b, off + i, none⟩ = some (.string x) := by have h := (hbw.cell (p := ⟨b, off + i * 1 + 0, none⟩) hbl).trans (hc 0 _ rfl); simpa using h
      have HX : Hid (keyA K i = x) := Lib.hid (by unfold keyA; rw [List.getD_eq_getElem?_getD, hx]; rfl)
      have hz1 := ha.free i
      have hcc : wi.cell? ⟨G, i, none⟩ = some (.int .i64 (zrG i)) := ha.cell (by rw [mixL_get hi, if_pos (by omega)])
      have HKX := HKS.out i hi
      rw [HX.out] at HKX
      have hA5 : Arr (wi.setCell ⟨G, i, none⟩ (.int .i64 (K.length : Int))) G ((mixL zrG (nxG K) (i + 1) K.length).set i (K.length : Int)) := ha.set i _
      have hB5 : Below G wi (wi.setCell ⟨G, i, none⟩ (.int .i64 (K.length : Int))) := (Below.refl G wi).setCell (show G ≤ (⟨G, i, none⟩ : Addr).block from Nat.le_refl _) _
      have hM5 : MapS (wi.setCell ⟨G, i, none⟩ (.int .i64 (K.length : Int))) (G + 1) (K.length - (i + 1)) (nxI K (i + 1)) ks := hmp.same (Below.heap_setCell wi ⟨G, i, none⟩ _ (G + 1) (by simp))
      have c5 : (wi.setCell ⟨G, i, none⟩ (.int .i64 (K.length : Int))).cell? ⟨b, off + i, none⟩ = some (.string x) := (hB5.cell (p := ⟨b, off + i, none⟩) hbl).trans c0
      go_upto_region 12 with (fail)
      obtain ⟨w5, hw5⟩ : ∃ w5, w5 = wi.setCell ⟨G, i, none⟩ (.int .i64 (K.length : Int)) := ⟨_, rfl⟩
      rw [← hw5] at hA5 hB5 hM5 c5 ⊢
      clear hw5 hx hc hcc hz1 c0
      obtain ⟨c, hlk, hcv⟩ := hM5.look x HKX
      have HLS := Lib.hid (hls x)
      have hpw := hM5.put (by have := hM5.2.2; unfold maxLen; omega) x HKX i (wf_i (by omega))
      cases e3 : onL x ks
      case false =>
        rw [e3] at hlk
        have hg : Hid (nxG K i = (K.length : Int)) := Lib.hid (by
          unfold nxG
          rw [HX.out]
          have h1 : ¬ nxU K x (i + 1) < K.length := fun c => by rw [onL_iff.2 ((HLS.out).2 c)] at e3; cases e3
          have := nxU_le K x (i + 1)
          omega)
        have hA6 : Arr w5 G (mixL zrG (nxG K) i K.length) := by
          have h := hA5
          rw [← hg.out, mixL_down] at h
          exact h
        obtain ⟨w6, hup, hm6, hg6⟩ := hpw
        have HST : Hid (LsR w1 w6 K G i (addL x ks)) := Lib.hid (by
          have h := LsR.step LS.out hi hB5 hA6 hg6 (n := K.length - (i + 1) + 1) (by omega) (by rw [HX.out]; exact hm6)
          rw [HX.out] at h
          exact h)
        have hwi : IntKind.i64.wrap ((i : Int) - 1) = (i : Int) - 1 := IntWalk.i64_in _ (by omega)
        clear ha hmp hls hbw hA5 hA6 hB5 hM5 hm6 hg6 hcv LS HLS hg
        go_wp2
        go_roundg i
        case measure => omega
        case rel => exact ⟨i, _, by omega, by omega, by go_num, (show Aside _ from HST.out)⟩
      case true =>
        rw [e3] at hlk
        have hxk : x ∈ ks := onL_iff.1 e3
        have hcg : c = nxG K i := by
          rw [hcv hxk]
          unfold nxG nxI
          rw [HX.out]
        subst hcg
        have hz5 := hA5.free i
        have hc5 : w5.cell? ⟨G, i, none⟩ = some (.int .i64 (K.length : Int)) := hA5.cell (by rw [List.getElem?_set_self (by rw [mixL_len]; exact hi)])
        have hB6 : Below G wi (w5.setCell ⟨G, i, none⟩ (.int .i64 (nxG K i))) := hB5.setCell (show G ≤ (⟨G, i, none⟩ : Addr).block from Nat.le_refl _) _
        have hM6 : MapS (w5.setCell ⟨G, i, none⟩ (.int .i64 (nxG K i))) (G + 1) (K.length - (i + 1)) (nxI K (i + 1)) ks := hM5.same (Below.heap_setCell w5 ⟨G, i, none⟩ _ (G + 1) (by simp))
        have c6 : (w5.setCell ⟨G, i, none⟩ (.int .i64 (nxG K i))).cell? ⟨b, off + i, none⟩ = some (.string x) := ((Below.refl G w5).setCell (show G ≤ (⟨G, i, none⟩ : Addr).block from Nat.le_refl _) _ |>.cell (p := ⟨b, off + i, none⟩) hbl).trans c5
        have hA6 : Arr (w5.setCell ⟨G, i, none⟩ (.int .i64 (nxG K i))) G (mixL zrG (nxG K) i K.length) := by
          have h := hA5.set i (nxG K i)
          rw [List.set_set, mixL_down] at h
          exact h
        obtain ⟨w6, hup, hm6, hg6⟩ := hM6.put (by have := hM6.2.2; unfold maxLen; omega) x HKX i (wf_i (by omega))
        have HST : Hid (LsR w1 w6 K G i (addL x ks)) := Lib.hid (by
          have h := LsR.step LS.out hi hB6 hA6 hg6 (n := K.length - (i + 1) + 1) (by omega) (by rw [HX.out]; exact hm6)
          rw [HX.out] at h
          exact h)
        have hwi : IntKind.i64.wrap ((i : Int) - 1) = (i : Int) - 1 := IntWalk.i64_in _ (by omega)
        obtain ⟨gv, hgv⟩ : ∃ gv, gv = nxG K i := ⟨_, rfl⟩
        rw [← hgv] at hlk hup c6
        clear ha hmp hls hbw hA5 hA6 hB5 hM5 hB6 hM6 hm6 hg6 hcv LS HLS hpw hgv
        go_wp2
        go_roundg i
        case measure => omega
        case rel => exact ⟨i, _, by omega, by omega, by go_num, (show Aside _ from HST.out)⟩
end Go.Proofs.YtmgbmoiefgfemaaDoor

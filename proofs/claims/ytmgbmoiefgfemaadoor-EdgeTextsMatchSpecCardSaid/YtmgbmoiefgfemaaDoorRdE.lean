/- Read of the program, of gets. -/
import Derived.Test.YtmgbmoiefgfemaaDoorLstF
import Derived.Test.YtmgbmoiefgfemaaDoorNumT10
import Derived.Test.YtmgbmoiefgfemaaDoorTidy
namespace Go.Proofs.YtmgbmoiefgfemaaDoor
open Go.RowKit Go.Lib

theorem infoT : (Tryd.prog.info? 60).map (fun i => (i.zero, i.size, i.bytes)) = some (some (.agg #[.int .i64 0, .string ⟨#[]⟩, .string ⟨#[]⟩]), 3, 40) := by kernel_rfl
theorem slG : SlT Tryd.prog 55 60 3 40 := by
  obtain ⟨i0, hi, hz0, hz1, hz2⟩ := info_parts infoT
  exact ⟨i0, _, Tryd.underlying55, hi, hz0, hz1, hz2, rfl, by decide, by decide⟩
/-- Gets, a line, a fault. -/
def RdQ (w : World) (R : List Gt × Int × Int) : Ending → World → Prop := fun e w' => ∃ v', e = .returned (.tuple #[v', .int .i64 R.2.1, .int .i64 R.2.2]) ∧ Sl w' 3 encT v' R.1 ∧ Below w.heap.size w w'
theorem RdQ.mk {w w' : World} {R : List Gt × Int × Int} {l : List Gt} {n f : Int} {v' : Value} (h : R = (l, n, f)) (hs : Sl w' 3 encT v' l) (hb : Below w.heap.size w w') : RdQ w R (.returned (.tuple #[v', .int .i64 n, .int .i64 f])) w' := by
  subst h
  exact ⟨v', rfl, hs, hb⟩
theorem rdT_end {f : Nat} {t : ByteArray} {n : Int} {acc : List Gt} (h : t.size = 0) : rdT (f + 1) t n acc = if checkT acc = 0 then (acc, 0, 0) else ([], 0, checkT acc) := by rw [rdT, if_pos h]
theorem rdT_none {f : Nat} {t : ByteArray} {n : Int} {acc : List Gt} (h : ¬ t.size = 0) (hg : goodO t = none) : rdT (f + 1) t n acc = ([], n, 10) := by rw [rdT, if_neg h, hg]
theorem rdT_some {f : Nat} {t : ByteArray} {n : Int} {acc : List Gt} {r : Gt} (h : ¬ t.size = 0) (hg : goodO t = some r) : rdT (f + 1) t n acc = rdT f (restB t) (n + 1) (acc ++ [r]) := by rw [rdT, if_neg h, hg]
theorem size_zero {t : ByteArray} (h : t.size = 0) : t = ⟨#[]⟩ := bytes_ext (List.length_eq_zero_iff.1 (by rw [← size_eq]; exact h))
theorem toList_ne {t : ByteArray} (h : ¬ t.size = 0) : ¬ t.toList = [] := by
  rw [ByteArray.toList_eq]
  exact fun e => h ((size_eq t).trans (by rw [e]; rfl))

set_option maxRecDepth 100000 in
set_option maxHeartbeats 4000000 in
theorem readE_any (t : ByteArray) (w : World) (m : Int) (ht : t.size ≤ 9223372036854775807) (hm : w.cell? ⟨0, 0, none⟩ = some (.int .i64 m)) :
    Calls Tryd.prog 30 #[.string t] w (RdQ w (readT t)) := by
  by_cases hbig : 400000 < t.size
  · have hv : Hid (readT t = ([], 0, 2)) := Lib.hid (by rw [readT, if_pos hbig])
    go_enter Tryd.func30, Tryd.ntmps30
    go_wp2_with fail
    go_ret3
    exact RdQ.mk hv.out Sl.nil (Below.refl _ _)
  have HR : Hid (readT t = rdT (t.size + 1) t 1 []) := Lib.hid (by rw [readT, if_neg hbig])
  generalize readT t = R at HR ⊢
  have HM := Lib.hid hm
  have h0 := World.block_lt_of_cell? w _ hm
  clear hm
  go_enter Tryd.func30, Tryd.ntmps30
  go_wp2_with fail
  go_loopg [0, 5, 6] (t.size + 1) (fun gg s0 s5 s6 wr => ∃ (f : Nat) (cur : ByteArray) (acc : List Gt), f ≤ gg ∧ cur.size < f ∧ s0 = .string cur ∧ s6 = .int .i64 (acc.length + 1) ∧ acc.length + cur.size ≤ 400000 ∧ Aside (R = rdT f cur (acc.length + 1) acc) ∧ Aside (∀ x, x ∈ acc → WfT x) ∧ Aside (Own wr w.heap.size 60 3 encT s5 acc) ∧ Aside (Below w.heap.size w wr))
  case atStart => exact ⟨t.size + 1, t, [], Nat.le_refl _, by omega, rfl, rfl, by simp; omega, HR.out, fun x hx => absurd hx (by simp), Own.nil, Below.refl _ _⟩
  case round =>
    obtain ⟨f, cur, acc, hg, hf, rfl, rfl, hlen, RR, WF, OW, BW⟩ := hrel
    have HRR := Lib.hid RR.out
    have HWF := Lib.hid WF.out
    have HOW := Lib.hid OW.out
    have HBW := Lib.hid BW.out
    have hszw := HBW.out.size
    have HMR := Lib.hid ((HBW.out.cell (p := ⟨0, 0, none⟩) h0).trans HM.out)
    obtain ⟨ao5, cp5, rfl, hcap5, hmax5, _, _⟩ := Own.sl HOW.out encT_len
    unfold maxLen at hmax5
    clear RR WF OW BW HR
    obtain ⟨f, rfl⟩ : ∃ g, f = g + 1 := ⟨f - 1, by omega⟩
    by_cases hz : cur.size = 0
    · have hcur := size_zero hz
      subst hcur
      have HE := Lib.hid (rdT_end (f := f) (n := acc.length + 1) (acc := acc) hz)
      rw [← HRR.out] at HE
      have HC := Lib.hid (listFault_any wr acc _ (Own.sl HOW.out encT_len) HWF.out)
      obtain ⟨C, hC⟩ : ∃ C, C = checkT acc := ⟨_, rfl⟩
      rw [← hC] at HE HC
      clear hC hz
      by_cases hC0 : C = 0
      · have HE2 : Hid (R = (acc, 0, 0)) := Lib.hid (by rw [HE.out, if_pos hC0])
        subst hC0
        go_wp2_with fail
        refine HC.out.mono ?_
        rintro e w1 ⟨rfl, hb1⟩
        have HS1 := Lib.hid ((Own.sl HOW.out encT_len).below hb1 (Nat.le_refl _))
        have HB1 := Lib.hid (HBW.out.trans (hb1.mono hszw))
        clear hb1
        go_wp2_with fail
        go_ret3
        exact RdQ.mk HE2.out HS1.out HB1.out
      · have HE2 : Hid (R = ([], 0, C)) := Lib.hid (by rw [HE.out, if_neg hC0])
        go_wp2_with fail
        refine HC.out.mono ?_
        rintro e w1 ⟨rfl, hb1⟩
        have HB1 := Lib.hid (HBW.out.trans (hb1.mono hszw))
        clear hb1
        go_wp2_with fail
        go_ret3
        exact RdQ.mk HE2.out Sl.nil HB1.out
    · have hne := toList_ne hz
      have hne2 : cur.toList.isEmpty = false := by simp [hne]
      have hne3 : (cur.toList == []) = false := by simp [hne]
      have HN := Lib.hid (fun h => @rdT_none f cur (acc.length + 1) acc hz h)
      have HS := Lib.hid (fun r h => @rdT_some f cur (acc.length + 1) acc r hz h)
      rw [← HRR.out] at HN HS
      have HG : Hid (goodO cur = if endB cur = true then getO (lineB cur) else none) := Lib.hid rfl
      have HLT := Lib.hid (@rest_lt cur)
      have HCU : Hid (Calls Tryd.prog 52 #[.string cur, .string ⟨#[10]⟩] wr fun e w' => e = .returned (.tuple #[.string (lineB cur), .string (restB cur), .bool (endB cur)]) ∧ ∃ n, w' = wr.drewN n) := Lib.hid (cut_any cur ⟨#[10]⟩ m wr (by omega) HMR.out)
      have hls : (lineB cur).size ≤ cur.size := (cut_size cur ⟨#[10]⟩).1
      have HSP := Lib.hid (fun n => split_any (lineB cur) ⟨#[32]⟩ m (wr.drewN n) (by omega) HMR.out (by decide))
      have HF1 := Lib.hid (@getO_no (lineB cur))
      have HF4 := Lib.hid (fun a b c h => @getO_three (lineB cur) a b c h)
      have HWS : Hid (∀ x, x ∈ wordsB (lineB cur) ⟨#[32]⟩ → x.size ≤ 400000) := Lib.hid (fun x h => Nat.le_trans (words_size h) (by omega))
      obtain ⟨W, hW⟩ : ∃ W, W = wordsB (lineB cur) ⟨#[32]⟩ := ⟨_, rfl⟩
      rw [← hW] at HSP HF1 HF4 HWS
      obtain ⟨L, hL⟩ : ∃ L, L = lineB cur := ⟨_, rfl⟩
      obtain ⟨T, hT⟩ : ∃ L, L = restB cur := ⟨_, rfl⟩
      obtain ⟨E, hE⟩ : ∃ L, L = endB cur := ⟨_, rfl⟩
      obtain ⟨O, hO⟩ : ∃ o, o = getO L := ⟨_, rfl⟩
      obtain ⟨G, hG⟩ : ∃ L, L = goodO cur := ⟨_, rfl⟩
      rw [← hL] at HCU HSP HG HF1 HF4
      rw [← hT] at HCU HLT HS
      rw [← hE] at HCU HG HLT
      rw [← hO] at HG HF1 HF4
      rw [← hG] at HG HN HS
      clear hL hT hE hO hG hls hW
      go_wp2_with fail
      refine HCU.out.mono ?_
      rintro e w1 ⟨rfl, nn, rfl⟩
      have HOW0 := Lib.hid (HOW.out.drewN nn)
      have HBW0 := Lib.hid (below_drewN HBW.out nn)
      have HSP0 := Lib.hid (HSP.out nn)
      obtain ⟨w0, hw0⟩ : ∃ w0, w0 = wr.drewN nn := ⟨_, rfl⟩
      rw [← hw0] at HOW0 HBW0 HSP0 ⊢
      have hsz0 := HBW0.out.size
      clear hw0 HSP HOW HBW
      go_wp2_with fail
      refine HSP0.out.mono ?_
      rintro e w1 ⟨rfl, hw1⟩
      have HEL : Hid (∀ (k : Nat) (x : ByteArray), W[k]? = some x → w1.cell? ⟨w0.heap.size, k, none⟩ = some (.string x)) := Lib.hid (fun k x hx => by
        rw [hw1, cell_of_block (block_new w0 _)]
        simp [hx])
      have hb1 : Below w0.heap.size w0 w1 := by rw [hw1]; exact (Below.refl _ _).alloc (Nat.le_refl _) _
      have hs1 : w1.heap.size = w0.heap.size + 1 := by rw [hw1]; simp
      have HB1 := Lib.hid (HBW0.out.trans (hb1.mono hsz0))
      have HOW1 := Lib.hid (HOW0.out.below hb1 (Nat.le_refl _))
      have hsz1 := HB1.out.size
      obtain ⟨A0, hA0⟩ : ∃ A, A = w0.heap.size := ⟨_, rfl⟩
      rw [← hA0] at HEL hs1 ⊢
      have hA1 : A0 < w1.heap.size := by omega
      clear hw1 hb1 hs1 hA0 HSP0 HOW0 HBW0
      by_cases h4 : W.length = 3
      case neg =>
        have hO : O = none := HF1.out h4
        have hG : G = none := by rw [HG.out, hO]; split <;> rfl
        have HV := Lib.hid (HN.out hG)
        have h4z : ((W.length : Int) == 3) = false := by rw [beq_eq_false_iff_ne]; omega
        have h4y : ¬ (W.length : Int) = 3 := by omega
        clear hO hG
        cases E
        all_goals
          go_wp2_with fail
          go_ret3
          exact RdQ.mk HV.out Sl.nil HB1.out
      obtain ⟨a, b, c, rfl⟩ := words_three h4
      have HF := Lib.hid (HF4.out a b c rfl)
      have w0' := HEL.out 0 a rfl
      have w1' := HEL.out 1 b rfl
      have w2' := HEL.out 2 c rfl
      clear HF4 HF1
      cases E
      case false =>
        have hG : G = none := HG.out
        have HV := Lib.hid (HN.out hG)
        clear hG
        by_cases hbb : b = ⟨#[]⟩
        · subst hbb
          go_wp2_with fail
          go_ret3
          exact RdQ.mk HV.out Sl.nil HB1.out
        · have hb0 : ¬ b.size = 0 := fun h => hbb (size_zero h)
          have hbL := toList_ne hb0
          have hbz : (b.toList == []) = false := by simp [hbL]
          have hbe : b.toList.isEmpty = false := by simp [hbL]
          clear hbb hb0
          by_cases hcc : c = ⟨#[]⟩
          · subst hcc
            go_wp2_with fail
            go_ret3
            exact RdQ.mk HV.out Sl.nil HB1.out
          · have hc0 : ¬ c.size = 0 := fun h => hcc (size_zero h)
            have hcL := toList_ne hc0
            have hcz : (c.toList == []) = false := by simp [hcL]
            have hce : c.toList.isEmpty = false := by simp [hcL]
            clear hcc hc0
            go_wp2_with fail
            go_ret3
            exact RdQ.mk HV.out Sl.nil HB1.out
      by_cases hbb : b = ⟨#[]⟩
      · subst hbb
        have hO : O = none := by rw [HF.out]; simp [show (⟨#[]⟩ : ByteArray).size = 0 from rfl]
        have HV := Lib.hid (HN.out (by rw [HG.out, hO]; rfl))
        clear hO
        go_wp2_with fail
        go_ret3
        exact RdQ.mk HV.out Sl.nil HB1.out
      have hb0 : ¬ b.size = 0 := fun h => hbb (size_zero h)
      have hbL := toList_ne hb0
      have hbz : (b.toList == []) = false := by simp [hbL]
      have hbe : b.toList.isEmpty = false := by simp [hbL]
      by_cases hcc : c = ⟨#[]⟩
      · subst hcc
        have hO : O = none := by rw [HF.out]; simp [show (⟨#[]⟩ : ByteArray).size = 0 from rfl]
        have HV := Lib.hid (HN.out (by rw [HG.out, hO]; rfl))
        clear hO hbb hb0
        go_wp2_with fail
        go_ret3
        exact RdQ.mk HV.out Sl.nil HB1.out
      have hc0 : ¬ c.size = 0 := fun h => hcc (size_zero h)
      have hcL := toList_ne hc0
      have hcz : (c.toList == []) = false := by simp [hcL]
      have hce : c.toList.isEmpty = false := by simp [hcL]
      have hlt := HLT.out rfl
      have HF2 : Hid (O = if numOk a = true then some ⟨numR a, b, c⟩ else none) := Lib.hid (by rw [HF.out]; simp [show 0 < b.size by omega, show 0 < c.size by omega])
      have HX : Hid (b.size ≤ 9223372036854775807 ∧ c.size ≤ 9223372036854775807) := Lib.hid ⟨by have := HWS.out b (by simp); omega, by have := HWS.out c (by simp); omega⟩
      have ha1 : a.size ≤ 9223372036854775807 := by have := HWS.out a (by simp); omega
      have NA := Lib.hid (fun W => number_any a W ha1)
      obtain ⟨x, hx⟩ : ∃ x, x = numR a := ⟨_, rfl⟩
      obtain ⟨p, hp⟩ : ∃ p, p = numOk a := ⟨_, rfl⟩
      rw [← hx, ← hp] at NA HF2
      clear hx hp ha1 hbb hcc hb0 hc0 h4 HWS HF
      go_wp2_with fail
      refine (NA.out _).mono ?_
      rintro e w5 ⟨rfl, rfl⟩
      cases p
      case false =>
        have hO : O = none := by rw [HF2.out]; rfl
        have HV := Lib.hid (HN.out (by rw [HG.out, hO]; rfl))
        clear hO
        go_wp2_with fail
        go_ret3
        exact RdQ.mk HV.out Sl.nil HB1.out
      have hO : O = some ⟨x, b, c⟩ := by rw [HF2.out]; rfl
      have HV := Lib.hid (HS.out ⟨x, b, c⟩ (by rw [HG.out, hO]; rfl))
      have HK : Hid ((acc.length + 1) * 40 ≤ 140737488355328) := Lib.hid (by omega)
      clear hO HF2
      go_upto_region 14 with (fail)
      go_region_law (refine step_push rfl _ _ 55 rfl slG rfl rfl (⟨x, b, c⟩ : Gt) rfl rfl rfl HOW1.out rfl HK.out hsz1 ?_; intro v5 w5 ho5 hb5; obtain ⟨ao6, cp6, rfl, hcap6, hmax6, _, _⟩ := Own.sl ho5 encT_len; have HO5 := Lib.hid ho5; have HB5 := Lib.hid (HB1.out.trans hb5); clear ho5 hb5)
      all_goals
        go_wp2_with fail
        go_roundg f
        case measure => omega
        case rel => exact ⟨f, T, acc ++ [⟨x, b, c⟩], by omega, by omega, by go_num, by simp, by simp; omega, (show R = _ by rw [HV.out]; congr 1; simp), (show Aside (∀ u, u ∈ acc ++ [(⟨x, b, c⟩ : Gt)] → WfT u) from fun u hu => by
            rw [List.mem_append, List.mem_singleton] at hu
            rcases hu with hu | rfl
            · exact HWF.out u hu
            · exact HX.out), (show Own _ _ _ _ _ _ _ from by have h := HO5.out; rw [List.length_append] at h; exact h), HB5.out⟩
end Go.Proofs.YtmgbmoiefgfemaaDoor

/- Read of the program. -/
import Derived.Test.YtengfdbaebkgeaaDoorRng
import Derived.Test.YtengfdbaebkgeaaDoorRen
namespace Go.Proofs.YtengfdbaebkgeaaDoor
open Go.RowKit Go.Lib

theorem infoR : (Tryd.prog.info? 28).map (fun i => (i.zero, i.size, i.bytes)) = some (some (.agg #[.string ⟨#[]⟩, .int .i64 0, .int .i64 0, .int .i64 0]), 4, 40) := by kernel_rfl
theorem slR : SlT Tryd.prog 22 28 4 40 := by
  obtain ⟨i0, hi, hz0, hz1, hz2⟩ := info_parts infoR
  exact ⟨i0, _, Tryd.underlying22, hi, hz0, hz1, hz2, rfl, by decide, by decide⟩
/-- Renditions, a line, a fault. -/
def RdP (w : World) (R : List Rng × Int × Int) : Ending → World → Prop := fun e w' => ∃ v', e = .returned (.tuple #[v', .int .i64 R.2.1, .int .i64 R.2.2]) ∧ Sl w' 4 encR v' R.1 ∧ Below w.heap.size w w'
theorem RdP.mk {w w' : World} {R : List Rng × Int × Int} {l : List Rng} {n f : Int} {v' : Value} (h : R = (l, n, f)) (hs : Sl w' 4 encR v' l) (hb : Below w.heap.size w w') : RdP w R (.returned (.tuple #[v', .int .i64 n, .int .i64 f])) w' := by
  subst h
  exact ⟨v', rfl, hs, hb⟩
theorem rdR_end {f : Nat} {t : ByteArray} {n : Int} {acc : List Rng} (h : t.size = 0) : rdR (f + 1) t n acc = if checkR acc = 0 then (acc, 0, 0) else ([], 0, checkR acc) := by rw [rdR, if_pos h]
theorem rdR_none {f : Nat} {t : ByteArray} {n : Int} {acc : List Rng} (h : ¬ t.size = 0) (hg : goodO t = none) : rdR (f + 1) t n acc = ([], n, 10) := by rw [rdR, if_neg h, hg]
theorem rdR_some {f : Nat} {t : ByteArray} {n : Int} {acc : List Rng} {r : Rng} (h : ¬ t.size = 0) (hg : goodO t = some r) : rdR (f + 1) t n acc = rdR f (restB t) (n + 1) (acc ++ [r]) := by rw [rdR, if_neg h, hg]
theorem size_zero {t : ByteArray} (h : t.size = 0) : t = ⟨#[]⟩ := bytes_ext (List.length_eq_zero_iff.1 (by rw [← size_eq]; exact h))
theorem toList_ne {t : ByteArray} (h : ¬ t.size = 0) : ¬ t.toList = [] := by
  rw [ByteArray.toList_eq]
  exact fun e => h ((size_eq t).trans (by rw [e]; rfl))
theorem wf_words {s x : ByteArray} (h : x ∈ wordsB s ⟨#[32]⟩) (hs : s.size ≤ 100000) : x.size ≤ 100000 := Nat.le_trans (words_size h) hs
theorem rungO_wf {s : ByteArray} {r : Rng} (hs : s.size ≤ 100000) (h : rungO s = some r) : WfR r := by
  unfold rungO at h
  split at h
  · rename_i a b c d e
    split at h
    · simp only [Option.some.injEq] at h
      subst h
      have := wf_words (s := s) (x := a) (by rw [e]; simp) hs
      show a.size ≤ _
      omega
    · simp at h
  · simp at h

set_option maxRecDepth 100000 in
set_option maxHeartbeats 4000000 in
theorem read_any (t : ByteArray) (w : World) (m : Int) (ht : t.size ≤ 9223372036854775807) (hm : w.cell? ⟨0, 0, none⟩ = some (.int .i64 m)) :
    Calls Tryd.prog 5 #[.string t] w (RdP w (readR t)) := by
  by_cases hbig : 100000 < t.size
  · have hv : Hid (readR t = ([], 0, 2)) := Lib.hid (by rw [readR, if_pos hbig])
    go_enter Tryd.func5, Tryd.ntmps5
    go_wp2_with fail
    go_ret3
    exact RdP.mk hv.out Sl.nil (Below.refl _ _)
  have HR : Hid (readR t = rdR (t.size + 1) t 1 []) := Lib.hid (by rw [readR, if_neg hbig])
  generalize readR t = R at HR ⊢
  have HM := Lib.hid hm
  have h0 := World.block_lt_of_cell? w _ hm
  clear hm
  go_enter Tryd.func5, Tryd.ntmps5
  go_wp2_with fail
  go_loopg [0, 5, 6] (t.size + 1) (fun gg s0 s5 s6 wr => ∃ (f : Nat) (cur : ByteArray) (acc : List Rng), f ≤ gg ∧ cur.size < f ∧ s0 = .string cur ∧ s6 = .int .i64 (acc.length + 1) ∧ acc.length + cur.size ≤ 100000 ∧ Aside (R = rdR f cur (acc.length + 1) acc) ∧ Aside (∀ x, x ∈ acc → WfR x) ∧ Aside (Own wr w.heap.size 28 4 encR s5 acc) ∧ Aside (Below w.heap.size w wr))
  case atStart => exact ⟨t.size + 1, t, [], Nat.le_refl _, by omega, rfl, rfl, by simp; omega, HR.out, fun x hx => absurd hx (by simp), Own.nil, Below.refl _ _⟩
  case round =>
    obtain ⟨f, cur, acc, hg, hf, rfl, rfl, hlen, RR, WF, OW, BW⟩ := hrel
    have HRR := Lib.hid RR.out
    have HWF := Lib.hid WF.out
    have HOW := Lib.hid OW.out
    have HBW := Lib.hid BW.out
    have hszw := HBW.out.size
    have HMR := Lib.hid ((HBW.out.cell (p := ⟨0, 0, none⟩) h0).trans HM.out)
    obtain ⟨ao5, cp5, rfl, hcap5, hmax5, _, _⟩ := Own.sl HOW.out encR_len
    unfold maxLen at hmax5
    clear RR WF OW BW HR
    obtain ⟨f, rfl⟩ : ∃ g, f = g + 1 := ⟨f - 1, by omega⟩
    by_cases hz : cur.size = 0
    · have hcur := size_zero hz
      subst hcur
      have HE := Lib.hid (rdR_end (f := f) (n := acc.length + 1) (acc := acc) hz)
      rw [← HRR.out] at HE
      have HC := Lib.hid (checkRen_any wr acc _ (Own.sl HOW.out encR_len) HWF.out)
      obtain ⟨C, hC⟩ : ∃ C, C = checkR acc := ⟨_, rfl⟩
      rw [← hC] at HE HC
      clear hC hz
      by_cases hC0 : C = 0
      · have HE2 : Hid (R = (acc, 0, 0)) := Lib.hid (by rw [HE.out, if_pos hC0])
        subst hC0
        go_wp2_with fail
        refine HC.out.mono ?_
        rintro e w1 ⟨rfl, hb1⟩
        have HS1 := Lib.hid ((Own.sl HOW.out encR_len).below hb1 (Nat.le_refl _))
        have HB1 := Lib.hid (HBW.out.trans (hb1.mono hszw))
        clear hb1
        go_wp2_with fail
        go_ret3
        exact RdP.mk HE2.out HS1.out HB1.out
      · have HE2 : Hid (R = ([], 0, C)) := Lib.hid (by rw [HE.out, if_neg hC0])
        go_wp2_with fail
        refine HC.out.mono ?_
        rintro e w1 ⟨rfl, hb1⟩
        have HB1 := Lib.hid (HBW.out.trans (hb1.mono hszw))
        clear hb1
        go_wp2_with fail
        go_ret3
        exact RdP.mk HE2.out Sl.nil HB1.out
    · have hne := toList_ne hz
      have hne2 : cur.toList.isEmpty = false := by simp [hne]
      have hne3 : (cur.toList == []) = false := by simp [hne]
      have HN := Lib.hid (fun h => @rdR_none f cur (acc.length + 1) acc hz h)
      have HS := Lib.hid (fun r h => @rdR_some f cur (acc.length + 1) acc r hz h)
      rw [← HRR.out] at HN HS
      have HG : Hid (goodO cur = if endB cur = true then rungO (lineB cur) else none) := Lib.hid rfl
      have HLT := Lib.hid (@rest_lt cur)
      have HCU : Hid (Calls Tryd.prog 11 #[.string cur, .string ⟨#[10]⟩] wr fun e w' => e = .returned (.tuple #[.string (lineB cur), .string (restB cur), .bool (endB cur)]) ∧ ∃ n, w' = wr.drewN n) := Lib.hid (cut_any cur ⟨#[10]⟩ m wr (by omega) HMR.out)
      have hls : (lineB cur).size ≤ cur.size := (cut_size cur ⟨#[10]⟩).1
      have HRU := Lib.hid (fun n => rung_any (lineB cur) (wr.drewN n) m (by omega) HMR.out)
      have HWR := Lib.hid (fun r h => @rungO_wf (lineB cur) r (by omega) h)
      obtain ⟨L, hL⟩ : ∃ L, L = lineB cur := ⟨_, rfl⟩
      obtain ⟨T, hT⟩ : ∃ L, L = restB cur := ⟨_, rfl⟩
      obtain ⟨E, hE⟩ : ∃ L, L = endB cur := ⟨_, rfl⟩
      obtain ⟨O, hO⟩ : ∃ o, o = rungO L := ⟨_, rfl⟩
      obtain ⟨G, hG⟩ : ∃ L, L = goodO cur := ⟨_, rfl⟩
      rw [← hL] at HCU HRU HG HWR
      rw [← hT] at HCU HLT HS
      rw [← hE] at HCU HG HLT
      rw [← hO] at HRU HG HWR
      rw [← hG] at HG HN HS
      have HLS : Hid (L.size ≤ 100000) := Lib.hid (by rw [hL]; omega)
      clear hL hT hE hO hG hls
      go_wp2_with fail
      refine HCU.out.mono ?_
      rintro e w1 ⟨rfl, nn, rfl⟩
      go_wp2_with fail
      refine (HRU.out nn).mono ?_
      rintro e w1 ⟨rfl, hb1⟩
      have HB1 : Hid (Below w.heap.size w w1) := Lib.hid ((below_drewN HBW.out nn).trans (hb1.mono hszw))
      have HOW1 := Lib.hid ((HOW.out.drewN nn).below hb1 (Nat.le_refl _))
      have hsz1 := HB1.out.size
      clear hb1 HOW HBW
      cases E
      case false =>
        have HV := Lib.hid (HN.out HG.out)
        go_wp2_with fail
        go_ret3
        exact RdP.mk HV.out Sl.nil (HB1.out.alloc hsz1 _)
      case true =>
        have hlt := HLT.out rfl
        obtain rfl : G = O := HG.out
        rcases G with _ | x
        · have HV := Lib.hid (HN.out rfl)
          go_wp2_with fail
          go_ret3
          exact RdP.mk HV.out Sl.nil (HB1.out.alloc hsz1 _)
        · have HV := Lib.hid (HS.out x rfl)
          have HX := Lib.hid (HWR.out x rfl)
          have HK : Hid ((acc.length + 1) * 40 ≤ 140737488355328) := Lib.hid (by omega)
          have hg1 : (some x).getD default = x := rfl
          have hg2 : (some x).isSome = true := rfl
          rw [hg1, hg2]
          clear hg1 hg2
          go_wp2_with (at_builtin; refine wpList_push rfl _ _ 22 rfl slR rfl rfl x rfl rfl rfl (HOW1.out.al _) (by simp) HK.out (by simp; omega) ?_; intro v5 w5 ho5 hb5; obtain ⟨ao6, cp6, rfl, hcap6, hmax6, _, _⟩ := Own.sl ho5 encR_len; have HO5 := Lib.hid ho5; have HB5 := Lib.hid ((HB1.out.alloc hsz1 _).trans hb5); clear ho5 hb5)
          go_roundg f
          case measure => omega
          case rel => exact ⟨f, T, acc ++ [x], by omega, by omega, by go_num, by simp, by simp; omega, (show R = _ by rw [HV.out]; congr 1; simp), (show ∀ y, y ∈ acc ++ [x] → WfR y from fun y hy => by
              rw [List.mem_append, List.mem_singleton] at hy
              rcases hy with hy | rfl
              · exact HWF.out y hy
              · exact HX.out), (show Own _ _ _ _ _ _ _ from by have h := HO5.out; rw [List.length_append] at h; exact h), HB5.out⟩
end Go.Proofs.YtengfdbaebkgeaaDoor

/- Programme of the reference: what it returns. -/
import Derived.Test.YteijcombdlgioaaPgm1
namespace Go.Proofs.Yteijcombdlgioaa
open Go.RowKit

theorem endL_none : ∀ {l : List Prt} {e : Int}, (∀ p, p ∈ l → noAd p = false) → endL e l = e
  | [], _, _ => rfl
  | p :: r, e, h => by
    rw [endL, if_neg (by rw [h p (by simp)]; simp)]
    exact endL_none fun q hq => h q (by simp [hq])

set_option maxRecDepth 100000 in
set_option maxHeartbeats 4000000 in
theorem programmeR_any (w : World) (l : List Prt) (v : Value) (t : Int) (hl : Sl w 3 encP v l) (hw : ∀ p, p ∈ l → WfP p) :
    Calls Try.prog 22 #[v, .int .i64 t] w (Pg3 w l t) := by
  have h1 := placePR_any w l v t hl hw
  unfold P3 at h1
  have hT : placeF l t = if timeF l t ≠ 0 then timeF l t else if (placeN l t).1 = l.length then 9 else 0 := rfl
  have hz := @timeF_zero l t
  have hA0 : placeA l t = if placeF l t = 0 then (((placeN l t).1 : Nat) : Int) else 0 := rfl
  have hB0 : placeB l t = if placeF l t = 0 then (placeN l t).2 else 0 := rfl
  have hbad := @prog_bad l t
  have hV : progV l t = if placeF l t = 0 then (if noAd (l.getD (placeN l t).1 default) = true then (l.getD (placeN l t).1 default).fr + (placeN l t).2 else (firstP (l.drop (placeN l t).1)).getD (endL 0 l)) else 0 := rfl
  have hBB : progB l t = (decide (placeF l t = 0) && noAd (l.getD (placeN l t).1 default)) := rfl
  obtain ⟨ao, cap, rfl, hcap, hmax, hnil, hel⟩ := hl
  unfold maxLen at hmax
  obtain ⟨F, hF⟩ : ∃ F, F = placeF l t := ⟨_, rfl⟩
  obtain ⟨PA, hPA⟩ : ∃ F, F = placeA l t := ⟨_, rfl⟩
  obtain ⟨PB, hPB⟩ : ∃ F, F = placeB l t := ⟨_, rfl⟩
  rw [← hF, ← hPA, ← hPB] at h1
  rw [← hF] at hA0 hB0 hbad hV hBB
  rw [← hPA] at hA0
  rw [← hPB] at hB0
  have HF := Lib.hid hF
  have HV := Lib.hid hV
  have HBB := Lib.hid hBB
  clear hF hPA hPB hV hBB
  cases e1 : (F != 0)
  case true =>
    have HB := Lib.hid (hbad (by simpa using e1))
    clear hel hA0 hB0 hbad hz hT
    go_enter Try.func22, Try.ntmps22
    go_wp2_with (go_at_call 19; refine h1.mono ?_; rintro e w' ⟨rfl, hb'⟩)
    go_ret3
    exact Pg3.mk HB.out.1.symm HB.out.2.symm HF.out hb'
  obtain rfl : F = 0 := by simpa using e1
  clear e1 hbad
  rw [if_pos rfl] at hA0 hB0
  obtain ⟨hz0, hi0⟩ : timeF l t = 0 ∧ (placeN l t).1 ≠ l.length := by
    have h := HF.out
    rw [hT] at h
    split at h
    · rename_i h2; exact absurd h.symm h2
    rename_i h2
    split at h
    · simp at h
    rename_i h3
    exact ⟨by simpa using h2, h3⟩
  have hz := hz hz0
  have hpa := pf_all hz.1
  have hnb := placeN_bd (l := l) hz.2.1
  have hle := placeN_le l t
  generalize placeN l t = n at hle hnb HV HBB hA0 hB0 hi0
  obtain ⟨i, bef⟩ := n
  simp only at hle hnb HV HBB hA0 hB0 hi0
  subst hA0 hB0
  have HPA := Lib.hid hpa
  have HT := Lib.hid hT
  have HZ := Lib.hid hz
  have hi : i < l.length := by omega
  clear hpa hT hz hz0 hi0
  have hiz : (i : Int) < (l.length : Int) := by omega
  obtain ⟨p, hx⟩ : ∃ x, l[i]? = some x := ⟨l[i], by simp [hi]⟩
  have hg : l.getD i default = p := by rw [List.getD_eq_getElem?_getD, hx]; rfl
  rw [hg] at hnb
  obtain ⟨hb0, hbl⟩ := hnb hi
  obtain ⟨hp0, hp1, hp2⟩ := HPA.out p (List.mem_of_getElem? hx)
  have HGi := Lib.hid hg
  have HX := Lib.hid hx
  have HEL := Lib.hid hel
  have hno : Hid (noAd p = p.ad.toList.isEmpty) := Lib.hid rfl
  obtain ⟨b, off, hao, hc⟩ := hel i p hx
  subst hao
  have hlt0 := World.block_lt_of_cell? w _ (hc 0 _ rfl)
  have HC := Lib.hid hc
  clear hnb hg hx hel hc hle
  cases e3 : p.ad.toList.isEmpty
  case true =>
    have e4 : p.ad.toList = [] := by simpa using e3
    have hA : Hid (p.fr + PB = progV l t) := Lib.hid (by rw [HV.out, if_pos trivial, HGi.out, if_pos (hno.out.trans e3)])
    have hB : Hid (true = progB l t) := Lib.hid (by rw [HBB.out, HGi.out, hno.out, e3]; rfl)
    go_enter Try.func22, Try.ntmps22
    go_wp2_with (go_at_call 19; refine h1.mono ?_; rintro e w' ⟨rfl, hb'⟩; have c0 := (hb'.cell (p := ⟨b, off + i * 3, none⟩) hlt0).trans (HC.out 0 _ rfl); have c1 := (hb'.cell (p := ⟨b, off + i * 3 + 1, none⟩) hlt0).trans (HC.out 1 _ rfl))
    go_ret3
    exact Pg3.mk hA.out hB.out HF.out hb'
  have e4 : ¬ p.ad.toList = [] := by simpa using e3
  have hA : Hid (progV l t = (firstP (l.drop i)).getD (endL 0 l)) := Lib.hid (by rw [HV.out, if_pos trivial, HGi.out, if_neg (by rw [hno.out, e3]; simp)])
  have hB : Hid (false = progB l t) := Lib.hid (by rw [HBB.out, HGi.out, hno.out, e3]; simp)
  have hpn : Hid (noAd p = false) := Lib.hid (hno.out.trans e3)
  go_enter Try.func22, Try.ntmps22
  go_wp2_with (go_at_call 19; refine h1.mono ?_; rintro e w1 ⟨rfl, hb1⟩; have c0 := (hb1.cell (p := ⟨b, off + i * 3, none⟩) hlt0).trans (HC.out 0 _ rfl); have c1 := (hb1.cell (p := ⟨b, off + i * 3 + 1, none⟩) hlt0).trans (HC.out 1 _ rfl))
  have HB1 := Lib.hid hb1
  clear c0 c1 hb1 h1
  go_loop [10] (fun s10 => ∃ kk : Nat, i + 1 ≤ kk ∧ kk ≤ l.length ∧ s10 = .int .i64 kk ∧ Aside (∀ j q, l[j]? = some q → i ≤ j → j < kk → noAd q = false)) (fun s => l.length - (intOf s).toNat)
  case atStart => exact ⟨i + 1, Nat.le_refl _, by omega, by go_num, (show Aside _ from fun j q hq h1 h2 => by
    obtain rfl : j = i := by omega
    have := HX.out.symm.trans hq
    simp at this; subst this; exact hpn.out)⟩
  case round =>
    obtain ⟨kk, hkk0, hkk, rfl, A⟩ := hrel
    by_cases hlt : kk < l.length
    · have hltz : (kk : Int) < (l.length : Int) := by omega
      obtain ⟨q, hq⟩ : ∃ x, l[kk]? = some x := ⟨l[kk]'(by omega), by simp⟩
      obtain ⟨b', off', hao, hd⟩ := HEL.out kk q hq
      obtain ⟨rfl, rfl⟩ : b = b' ∧ off = off' := by simpa using hao
      have d0 := (HB1.out.cell (p := ⟨b, off + kk * 3, none⟩) hlt0).trans (hd 0 _ rfl)
      have d1 := (HB1.out.cell (p := ⟨b, off + kk * 3 + 1, none⟩) hlt0).trans (hd 1 _ rfl)
      have HQ := Lib.hid hq
      have hnq : Hid (noAd q = q.ad.toList.isEmpty) := Lib.hid rfl
      clear hao hd hq
      cases e5 : q.ad.toList.isEmpty
      case true =>
        have e6 : q.ad.toList = [] := by simpa using e5
        have hA2 : Hid (q.fr = progV l t) := Lib.hid (by
          rw [hA.out, firstP_skip (l := l.drop i) (k := kk - i) (fun j z hz hj => A.out (i + j) z (by rw [List.getElem?_drop] at hz; exact hz) (by omega) (by omega)) (by simp; omega), List.drop_drop, show i + (kk - i) = kk by omega, drop_next HQ.out, firstP, if_pos (hnq.out.trans e5)]; rfl)
        go_wp2
        go_ret3
        exact Pg3.mk hA2.out hB.out HF.out HB1.out
      case false =>
        have e6 : ¬ q.ad.toList = [] := by simpa using e5
        go_wp2
        go_round
        case rel =>
          refine ⟨kk + 1, by omega, by omega, by go_num, (show Aside _ from fun j z hz h1 h2 => ?_)⟩
          by_cases e : j = kk
          · subst e
            have := HQ.out.symm.trans hz
            simp at this; subst this; rw [hnq.out, e5]
          · exact A.out j z hz h1 (by omega)
        case measure => simp [intOf]; omega
    · go_wp2
      have hA2 : Hid (progV l t = endL 0 (l.take i)) := Lib.hid (by
        have hk : kk = l.length := by omega
        rw [hA.out, firstP_skip (l := l.drop i) (k := l.length - i) (fun j q hq hj => A.out (i + j) q (by rw [List.getElem?_drop] at hq; exact hq) (by omega) (by omega)) (by simp), List.drop_drop, List.drop_of_length_le (by omega)]
        show endL 0 l = _
        conv => lhs; rw [← List.take_append_drop i l, endL_append]
        refine endL_none fun q hq => ?_
        obtain ⟨j, hj, rfl⟩ := List.mem_iff_getElem.1 hq
        simp at hj
        exact A.out (i + j) _ (by rw [List.getElem_drop]; simp) (by omega) (by omega))
      go_loopw [11, 12] (fun s11 s12 wr => ∃ (m : Nat) (e : Int), m ≤ i ∧ s12 = .int .i64 m ∧ s11 = .int .i64 e ∧ 0 ≤ e ∧ e ≤ 1000000000000000 ∧ Aside (Below w.heap.size w wr) ∧ Aside (e = endL 0 (l.take m))) (fun _ s _ => i - (intOf s).toNat)
      case atStart => exact ⟨0, 0, Nat.zero_le _, rfl, rfl, by omega, by omega, HB1.out, (show Aside _ from rfl)⟩
      obtain ⟨m, e, hm, rfl, rfl, he0, he1, BM, EM⟩ := hrel
      by_cases hlm : m < i
      · have hlmz : (m : Int) < (i : Int) := by omega
        have hlmy : (m : Int) < (l.length : Int) := by omega
        obtain ⟨q, hq⟩ : ∃ x, l[m]? = some x := ⟨l[m]'(by omega), by simp⟩
        obtain ⟨b', off', hao, hd⟩ := HEL.out m q hq
        obtain ⟨rfl, rfl⟩ : b = b' ∧ off = off' := by simpa using hao
        have d0 : wr.cell? ⟨b, off + m * 3, none⟩ = some (.string q.ad) := (BM.out.cell (p := ⟨b, off + m * 3, none⟩) hlt0).trans (hd 0 _ rfl)
        have d1 := (BM.out.cell (p := ⟨b, off + m * 3 + 1, none⟩) hlt0).trans (hd 1 _ rfl)
        have d2 := (BM.out.cell (p := ⟨b, off + m * 3 + 2, none⟩) hlt0).trans (hd 2 _ rfl)
        obtain ⟨hq0, hq1, hq2⟩ := HPA.out q (List.mem_of_getElem? hq)
        have hnq : Hid (noAd q = q.ad.toList.isEmpty) := Lib.hid rfl
        have hen : Hid (endL 0 (l.take (m + 1)) = if noAd q = true then q.fr + q.ln else e) := Lib.hid (by rw [endL_take 0 hq, ← EM.out])
        clear hao hd hq
        cases e5 : q.ad.toList.isEmpty
        case true =>
          have e6 : q.ad.toList = [] := by simpa using e5
          have hwr : IntKind.i64.wrap (q.fr + q.ln) = q.fr + q.ln := IntWalk.i64_in _ (by omega)
          go_wp2
          go_quiet (fail)
          clear hwr
          go_wp2
          go_roundw
          case rel => exact ⟨m + 1, q.fr + q.ln, by omega, by go_num, rfl, by omega, by omega, below_drewN BM.out _, (show Aside (q.fr + q.ln = endL 0 (l.take (m + 1))) from by show _ = _; rw [hen.out, hnq.out, e5]; rfl)⟩
          case measure => simp [intOf]; omega
        case false =>
          have e6 : ¬ q.ad.toList = [] := by simpa using e5
          go_wp2
          go_roundw
          case rel => exact ⟨m + 1, e, by omega, by go_num, rfl, by omega, by omega, BM.out, (show Aside (e = endL 0 (l.take (m + 1))) from by show _ = _; rw [hen.out, hnq.out, e5]; rfl)⟩
          case measure => simp [intOf]; omega
      · obtain rfl : m = i := by omega
        have hfin : Hid (e = progV l t) := Lib.hid (by rw [hA2.out, EM.out])
        go_wp2
        go_ret3
        exact Pg3.mk hfin.out hB.out HF.out BM.out
end Go.Proofs.Yteijcombdlgioaa

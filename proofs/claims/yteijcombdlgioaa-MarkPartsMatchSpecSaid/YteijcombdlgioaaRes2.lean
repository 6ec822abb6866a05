/- Resume of the reference. -/
import Derived.Test.YteijcombdlgioaaRes1
import Derived.Test.YteijcombdlgioaaRdue
namespace Go.Proofs.Yteijcombdlgioaa
open Go.RowKit

def reC (l : List Prt) (t : Int) (m : Nat) : Bool := decide (m < l.length) && !reHit t (l.getD m default)
theorem resI_of {l : List Prt} {t : Int} {m : Nat} (hm : m ≤ l.length) (h : ∀ (j : Nat) q, l[j]? = some q → j < m → reHit t q = false) (hc : reC l t m = false) : resI l t = m := by
  by_cases e : m = l.length
  · subst e
    unfold resI
    rw [List.findIdx_eq_length]
    intro x hx
    obtain ⟨j, hj, rfl⟩ := List.mem_iff_getElem.1 hx
    exact h j _ (List.getElem?_eq_getElem hj) hj
  · have hml : m < l.length := by omega
    unfold reC at hc
    rw [List.getD_eq_getElem?_getD, List.getElem?_eq_getElem hml] at hc
    unfold resI
    rw [List.findIdx_eq hml]
    exact ⟨by simpa [hml] using hc, fun j hj => h j _ (List.getElem?_eq_getElem (by omega)) hj⟩

set_option maxRecDepth 100000 in
set_option maxHeartbeats 4000000 in
theorem resumeR_any (w : World) (l : List Prt) (v : Value) (s : List Int) (u : Value) (t : Int) (hl : Sl w 3 encP v l) (hs : Sl w 1 encI u s) (hw : ∀ p, p ∈ l → WfP p) :
    Calls Try.prog 24 #[v, u, .int .i64 t] w (R2 w l s t) := by
  have h1 := checkPartsR_any w l v hl hw
  have hF : resF l s t = if timeF l t ≠ 0 then timeF l t else seenF l s := rfl
  have hT : timeF l t = if checkP l ≠ 0 then checkP l else if outB t 0 1000000000000000 = true then 1 else 0 := rfl
  have HSS := Lib.hid hs
  have HSL := Lib.hid hl
  obtain ⟨ao, cap, rfl, hcap, hmax, hnil, hel⟩ := hl
  obtain ⟨bo, cbp, rfl, hcbp, hmbx, hnbl, hem⟩ := hs
  unfold maxLen at hmax hmbx
  have HV : Hid (resV l s t = if resF l s t ≠ 0 then 0 else if resI l t = l.length then sumL l else
    match unsee s (fst1 l (resI l t)) (resI l t - fst1 l (resI l t)) with
    | some k => sumL (l.take k)
    | none => sumL (l.take (resI l t)) + max 0 (t - (l.getD (resI l t) default).fr)) := Lib.hid rfl
  obtain ⟨f, hf⟩ : ∃ f, f = checkP l := ⟨_, rfl⟩
  rw [← hf] at h1 hT
  have HFt := Lib.hid hf
  have HF := Lib.hid hF
  have HT := Lib.hid hT
  clear hF hf hT
  cases e1 : (f != 0)
  case true =>
    have hne : f ≠ 0 := by simpa using e1
    have hf : Hid (f = resF l s t) := Lib.hid (by rw [HF.out, HT.out, if_pos hne, if_pos hne])
    have hv : Hid (0 = resV l s t) := Lib.hid (by rw [HV.out, if_pos (by rw [← hf.out]; exact hne)])
    clear hel hem hne
    go_enter Try.func24, Try.ntmps24
    go_wp2_with (first | (go_at_call 21; refine h1.mono ?_; rintro e w' ⟨rfl, hb'⟩))
    go_ret2
    exact R2.mk hv.out hf.out hb'
  obtain rfl : f = 0 := by simpa using e1
  clear e1
  cases o1 : outB t 0 1000000000000000
  case true =>
    have ht : timeF l t = 1 := by rw [HT.out, o1]; rfl
    have hf : Hid (1 = resF l s t) := Lib.hid (by rw [HF.out, ht]; rfl)
    have hv : Hid (0 = resV l s t) := Lib.hid (by rw [HV.out, if_pos (by rw [← hf.out]; decide)])
    clear hel hem ht
    go_enter Try.func24, Try.ntmps24
    go_wp2_with (first | (go_at_call 21; refine h1.mono ?_; rintro e w' ⟨rfl, hb'⟩) | (go_at_call 35; refine (within_any _ _ _ _).mono ?_; rintro e w' ⟨rfl, rfl⟩))
    go_ret2
    exact R2.mk hv.out hf.out hb'
  have hF2 : Hid (resF l s t = seenF l s) := Lib.hid (by
    have ht : timeF l t = 0 := by rw [HT.out, o1]; rfl
    rw [HF.out, ht]; rfl)
  have hch : checkP l = 0 := HFt.out.symm
  have ht0 : 0 ≤ t ∧ t ≤ 1000000000000000 := by simp [outB] at o1; omega
  obtain ⟨ht0, ht1⟩ := ht0
  have hlen := (checkP_parts hch).1
  have hbd := checkP_bd hch
  have hpa := pf_all hch
  have hsum : ∀ i, i ≤ l.length → 0 ≤ sumL (l.take i) ∧ sumL (l.take i) ≤ 1000000000000000000 := fun i hi => by
    have h := sumL_bd (l := l.take i) (fun q hq => hbd q (List.mem_of_mem_take hq))
    have h' : ((l.take i).length : Int) ≤ 1000 := by simp; omega
    omega
  have HBD := Lib.hid hbd
  have HPA := Lib.hid hpa
  have HSU := Lib.hid hsum
  have HEL := Lib.hid hel
  have HEM := Lib.hid hem
  clear hch hbd hsum hpa HF HT hel hem
  go_enter Try.func24, Try.ntmps24
  go_wp2_with (first | (go_at_call 21; refine h1.mono ?_; rintro e w1 ⟨rfl, hb1⟩) | (go_at_call 35; refine (within_any _ _ _ _).mono ?_; rintro e w' ⟨rfl, rfl⟩))
  have HB1 := Lib.hid hb1
  clear hb1 h1
  go_loop [9] (fun s9 => ∃ kk : Nat, kk ≤ s.length ∧ s9 = .int .i64 kk ∧ Aside (∀ j, j < kk → seF1 l (s.getD j 0) = 0)) (fun i => s.length - (intOf i).toNat)
  case atStart => exact ⟨0, Nat.zero_le _, rfl, fun j hj => absurd hj (Nat.not_lt_zero _)⟩
  case round =>
    obtain ⟨kk, hkk, rfl, A⟩ := hrel
    by_cases hlt : kk < s.length
    · have hltz : (kk : Int) < (s.length : Int) := by omega
      obtain ⟨k, hx⟩ : ∃ x, s[kk]? = some x := ⟨s[kk], by simp [hlt]⟩
      obtain ⟨b, off, rfl, hc⟩ := HEM.out kk k hx
      have hc0 := hc 0 _ rfl
      have hlt0 := World.block_lt_of_cell? w _ hc0
      have c0 : w1.cell? ⟨b, off + kk, none⟩ = some (.int .i64 k) := by have h := (HB1.out.cell (p := ⟨b, off + kk * 1 + 0, none⟩) hlt0).trans hc0; simpa using h
      have hgd : Hid (s.getD kk 0 = k) := Lib.hid (by rw [List.getD_eq_getElem?_getD, hx]; rfl)
      have hS : Hid (∀ z, seF1 l k = z → z ≠ 0 → z = resF l s t) := Lib.hid (fun z h hz => by
        rw [hF2.out, seenF, FF_hit hlt A.out (by rw [hgd.out, h]; exact hz), hgd.out, h])
      have hS1 : Hid (seF1 l k = if outB k 0 ((l.length : Int) - 1) = true then 1 else if noAd (l.getD k.toNat default) = true then 6 else 0) := Lib.hid rfl
      clear hx hc hc0
      cases o2 : outB k 0 ((l.length : Int) - 1)
      case true =>
        have hf : Hid (1 = resF l s t) := Lib.hid (hS.out 1 (by rw [hS1.out, o2]; rfl) (by decide))
        have hv : Hid (0 = resV l s t) := Lib.hid (by rw [HV.out, if_pos (by rw [← hf.out]; decide)])
        have hor : k < 0 ∨ (¬ k < 0 ∧ (l.length : Int) ≤ k) := by simp [outB] at o2; omega
        clear HV
        rcases hor with q | ⟨q, q2⟩
        · go_wp2
          go_ret2
          exact R2.mk hv.out hf.out HB1.out
        · go_wp2
          go_ret2
          exact R2.mk hv.out hf.out HB1.out
      have hk : 0 ≤ k ∧ k < l.length := by simp [outB] at o2; omega
      obtain ⟨n, rfl⟩ : ∃ n : Nat, k = (n : Int) := ⟨k.toNat, by omega⟩
      obtain ⟨p, hp⟩ : ∃ x, l[n]? = some x := ⟨l[n]'(by omega), by simp⟩
      obtain ⟨b', off', rfl, hd⟩ := HEL.out n p hp
      have hd0 := hd 0 _ rfl
      have hlt1 := World.block_lt_of_cell? w _ hd0
      have d0 : w1.cell? ⟨b', off' + n * 3, none⟩ = some (.string p.ad) := (HB1.out.cell (p := ⟨b', off' + n * 3 + 0, none⟩) hlt1).trans hd0
      have hno : Hid (seF1 l (n : Int) = if p.ad.toList.isEmpty = true then 6 else 0) := Lib.hid (by rw [hS1.out, o2, Int.toNat_natCast, List.getD_eq_getElem?_getD, hp]; rfl)
      obtain ⟨hk0, hk1⟩ := hk
      clear hp hd hd0 hS1
      cases e5 : p.ad.toList.isEmpty
      case true =>
        have e6 : p.ad.toList = [] := by simpa using e5
        have hf : Hid (6 = resF l s t) := Lib.hid (hS.out 6 (by rw [hno.out, e5]; rfl) (by decide))
        have hv : Hid (0 = resV l s t) := Lib.hid (by rw [HV.out, if_pos (by rw [← hf.out]; decide)])
        go_wp2
        go_ret2
        exact R2.mk hv.out hf.out HB1.out
      case false =>
        have e6 : ¬ p.ad.toList = [] := by simpa using e5
        have hf : Hid (seF1 l (s.getD kk 0) = 0) := Lib.hid (by rw [hgd.out, hno.out, e5]; rfl)
        go_wp2
        go_round
        case rel =>
          refine ⟨kk + 1, by omega, by go_num, (show Aside _ from fun j hj => ?_)⟩
          by_cases e : j = kk
          · rw [e, hf.out]
          · exact A.out j (by omega)
        case measure => simp [intOf]; omega
    · obtain rfl : kk = s.length := by omega
      have hf : Hid (0 = resF l s t) := Lib.hid (by rw [hF2.out, seenF, FF_zero A.out])
      have hV2 : Hid (resV l s t = if resI l t = l.length then sumL l else
          match unsee s (fst1 l (resI l t)) (resI l t - fst1 l (resI l t)) with
          | some k => sumL (l.take k)
          | none => sumL (l.take (resI l t)) + max 0 (t - (l.getD (resI l t) default).fr)) := Lib.hid (by rw [HV.out, if_neg (by rw [← hf.out]; decide)])
      clear HV hF2 A
      go_wp2
      have h0 : (0 : Int) = ((0 : Nat) : Int) := rfl
      go_loopw [10] (fun s10 wr => ∃ m : Nat, m ≤ l.length ∧ s10 = .int .i64 m ∧ Aside (Below w.heap.size w wr) ∧ Aside (∀ (j : Nat) q, l[j]? = some q → j < m → reHit t q = false)) (fun s _ => l.length - (intOf s).toNat)
      case atStart => exact ⟨0, Nat.zero_le _, rfl, HB1.out, fun j q _ hj => absurd hj (Nat.not_lt_zero _)⟩
      obtain ⟨m, hm, rfl, BM, NM⟩ := hrel
      clear h0
      go_upto_region 14 with (fail)
      go_cut [76] (fun s76 w4 => s76 = .bool (reC l t m) ∧ ∃ n, w4 = wr.drewN n)
      case first =>
        by_cases hml : m < l.length
        · obtain ⟨p, hp⟩ : ∃ x, l[m]? = some x := ⟨l[m], by simp [hml]⟩
          obtain ⟨b, off, hao, hd⟩ := HEL.out m p hp
          subst hao
          have hd0 := hd 0 _ rfl
          have hlt1 := World.block_lt_of_cell? w _ hd0
          have d0 : wr.cell? ⟨b, off + m * 3, none⟩ = some (.string p.ad) := (BM.out.cell (p := ⟨b, off + m * 3 + 0, none⟩) hlt1).trans hd0
          have d1 : wr.cell? ⟨b, off + m * 3 + 1, none⟩ = some (.int .i64 p.fr) := (BM.out.cell (p := ⟨b, off + m * 3 + 1, none⟩) hlt1).trans (hd 1 _ rfl)
          have d2 : wr.cell? ⟨b, off + m * 3 + 2, none⟩ = some (.int .i64 p.ln) := (BM.out.cell (p := ⟨b, off + m * 3 + 2, none⟩) hlt1).trans (hd 2 _ rfl)
          obtain ⟨hp0, hp1, hp2⟩ := HPA.out p (List.mem_of_getElem? hp)
          have hmz : (m : Int) < (l.length : Int) := by omega
          have hmz1 : decide ((m : Int) < (l.length : Int)) = true := by simpa using hmz
          have hwr : IntKind.i64.wrap (p.fr + p.ln) = p.fr + p.ln := IntWalk.i64_in _ (by omega)
          have hcb : Hid (reC l t m = (!p.ad.toList.isEmpty || decide (p.fr + p.ln ≤ t))) := Lib.hid (by
            unfold reC reHit noAd
            rw [List.getD_eq_getElem?_getD, hp]
            simp only [Option.getD_some, hml, decide_true, Bool.true_and, Bool.not_and]
            congr 1
            rw [Bool.eq_iff_iff]; simp)
          clear hp hd hd0 hml
          cases e5 : p.ad.toList.isEmpty
          · have e6 : ¬ p.ad.toList = [] := by simpa using e5
            have e7 : (!p.ad.toList.isEmpty) = true := by rw [e5]; rfl
            go_quiet (fail)
            go_wp2
            go_meet
            exact ⟨by rw [hcb.out, e5]; rfl, _, rfl⟩
          · have e6 : p.ad.toList = [] := by simpa using e5
            have e7 : (!p.ad.toList.isEmpty) = false := by rw [e5]; rfl
            go_quiet (fail)
            go_wp2
            go_meet
            exact ⟨by rw [hcb.out, e5]; rfl, _, rfl⟩
        · have hmz : ¬ (m : Int) < (l.length : Int) := by omega
          have hmz1 : decide ((m : Int) < (l.length : Int)) = false := by simpa using hmz
          have hcb : Hid (reC l t m = false) := Lib.hid (by simp [reC, hml])
          clear hml
          go_quiet (fail)
          go_wp2
          go_meet
          exact ⟨by rw [hcb.out], _, rfl⟩
      obtain ⟨rfl, nq, rfl⟩ := hcut
      cases hC : reC l t m
      case true =>
        have hC2 : m < l.length ∧ reHit t (l.getD m default) = false := by simpa [reC] using hC
        obtain ⟨hml, hC2⟩ := hC2
        have HC2 := Lib.hid hC2
        clear hC hC2
        go_wp2
        go_roundw
        case rel =>
          refine ⟨m + 1, by omega, by go_num, below_drewN BM.out _, (show Aside (∀ (j : Nat) q, l[j]? = some q → j < m + 1 → reHit t q = false) from fun j q hq hj => ?_)⟩
          by_cases e : j = m
          · subst e
            have := HC2.out
            rw [List.getD_eq_getElem?_getD, hq] at this
            exact this
          · exact NM.out j q hq (by omega)
        case measure => simp [intOf]; omega
      case false =>
        have hi : resI l t = m := resI_of hm NM.out hC
        have hhit : m < l.length → ∃ p, l[m]? = some p ∧ reHit t p = true := fun h => by
          subst hi
          exact ⟨_, List.getElem?_eq_getElem h, List.findIdx_getElem⟩
        have hV3 := hV2.out
        rw [hi] at hV3
        have HV3 := Lib.hid hV3
        have HHIT := Lib.hid hhit
        have HSU2 : Hid (sumL l = sumL (l.take l.length)) := Lib.hid (by rw [List.take_length])
        obtain ⟨w3, hw3⟩ : ∃ w3, w3 = wr.drewN nq := ⟨_, rfl⟩
        have hb : Hid (Below w.heap.size w w3) := Lib.hid (by rw [hw3]; exact below_drewN BM.out _)
        rw [← hw3]
        clear hi hV2 hV3 hhit hC NM BM hw3
        have HEL3 := Lib.hid (el_below HEL.out hb.out (Nat.le_refl _))
        have HSS3 := Lib.hid (HSS.out.below hb.out (Nat.le_refl _))
        have HSL3 := Lib.hid (HSL.out.below hb.out (Nat.le_refl _))
        have HBG := Lib.hid (fun (W : World) (h : Sl W 3 encP (.slice ao l.length cap) l) (i : Nat) (hi : i ≤ l.length) => begins_any W l (.slice ao l.length cap) i h hlen HBD.out hi)
        by_cases hI : m = l.length
        · have hv : Hid (sumL (l.take m) = resV l s t) := Lib.hid (by rw [HV3.out, if_pos hI, hI, List.take_length])
          have hbg := HBG.out w3 HSL3.out m hm
          have hz : ((m : Int) == (l.length : Int)) = true := by simp [hI]
          clear hI
          go_wp2_with (go_at_call 36; refine hbg.mono ?_; rintro e w' ⟨rfl, rfl⟩)
          go_ret2
          exact R2.mk hv.out hf.out hb.out
        · have hil : m < l.length := by omega
          have hz : ((m : Int) == (l.length : Int)) = false := by simp; omega
          have hV4 : Hid (resV l s t = match unsee s (fst1 l m) (m - fst1 l m) with
            | some k => sumL (l.take k)
            | none => sumL (l.take m) + max 0 (t - (l.getD m default).fr)) := Lib.hid (by rw [HV3.out, if_neg hI])
          clear hI HV3
          obtain ⟨i, hi⟩ : ∃ i : Nat, i = m := ⟨_, rfl⟩
          subst hi
          go_wp2
          go_loop [11] (fun s11 => ∃ m : Nat, m ≤ i ∧ s11 = .int .i64 m ∧ Aside (fst1 l i = fst1 l m)) (fun s => (intOf s).toNat)
          case atStart => exact ⟨i, Nat.le_refl _, rfl, (show Aside _ from rfl)⟩
          obtain ⟨m, hm, rfl, M⟩ := hrel
          go_upto_region 19 with (fail)
          go_cut [97] (fun s97 w4 => s97 = .bool (contB l m) ∧ w3 = w4)
          case first =>
            by_cases hm0 : m = 0
            · have hq : Hid (contB l m = false) := Lib.hid (by simp [contB, hm0])
              have hz : ¬ (0 : Int) < (m : Int) := by omega
              have hz' : decide ((0 : Int) < (m : Int)) = false := by simp; omega
              clear hm0
              go_wp2
              go_meet
              exact ⟨by rw [hq.out], rfl⟩
            · obtain ⟨q, hq⟩ : ∃ x, l[m - 1]? = some x := ⟨l[m - 1]'(by omega), by simp⟩
              obtain ⟨b, off, hao, hd⟩ := HEL3.out (m - 1) q hq
              subst hao
              have d0 : w3.cell? ⟨b, off + (m - 1) * 3, none⟩ = some (.string q.ad) := hd 0 _ rfl
              have hcb : Hid (contB l m = !q.ad.toList.isEmpty) := Lib.hid (by
                unfold contB
                rw [List.getD_eq_getElem?_getD, hq]
                simp [noAd]; omega)
              have hz : (0 : Int) < (m : Int) := by omega
              have ez : IntKind.i64.wrap ((m : Int) - 1) = ((m - 1 : Nat) : Int) := by rw [IntWalk.i64_in _ (by omega)]; omega
              have ez2 : ((m : Int) - 1).toNat = m - 1 := by omega
              have hm1 : (m : Int) - 1 < (l.length : Int) := by omega
              have hm2 : (0 : Int) ≤ (m : Int) - 1 := by omega
              clear hm0 hq hd ez
              cases e5 : q.ad.toList.isEmpty
              · have e6 : ¬ q.ad.toList = [] := by simpa using e5
                go_wp2
                go_meet
                exact ⟨by rw [hcb.out]; simp [*], rfl⟩
              · have e6 : q.ad.toList = [] := by simpa using e5
                go_wp2
                go_meet
                exact ⟨by rw [hcb.out]; simp [*], rfl⟩
          obtain ⟨rfl, rfl⟩ := hcut
          cases hC : contB l m
          case true =>
            have hc1 := contB_true hC
            obtain ⟨hc0, hc1⟩ := hc1
            have HC1 := Lib.hid hc1
            clear hC hc1
            go_wp2
            go_round
            case rel => exact ⟨m - 1, by omega, by go_num, (show Aside _ from M.out.trans HC1.out)⟩
            case measure => simp [intOf]; omega
          case false =>
            have hc1 := contB_false hC
            have hV5 := hV4.out
            rw [M.out, hc1] at hV5
            have HV5 := Lib.hid hV5
            clear hC hc1 M hV5 hV4
            go_wp2
            go_loop [12] (fun s12 => ∃ k : Nat, k ≤ i ∧ s12 = .int .i64 k ∧ Aside (unsee s m (i - m) = unsee s k (i - k))) (fun s => i - (intOf s).toNat)
            case atStart => exact ⟨m, hm, rfl, (show Aside _ from rfl)⟩
            obtain ⟨k, hk, rfl, K⟩ := hrel
            by_cases hki : k < i
            · have hkz : (k : Int) < (i : Int) := by omega
              have hkz2 : (k : Int) < (l.length : Int) + 1 := by omega
              have hcon := seenAll_any w3 s _ (k : Int) HSS3.out
              have hun : Hid (unsee s k (i - k) = if seenB s k = true then unsee s (k + 1) (i - (k + 1)) else some k) := Lib.hid (by
                rw [show i - k = (i - (k + 1)) + 1 by omega, unsee])
              have hbg := HBG.out w3 HSL3.out k (by omega)
              cases e7 : seenB s (k : Int)
              case true =>
                have hn : Hid (unsee s m (i - m) = unsee s (k + 1) (i - (k + 1))) := Lib.hid (by rw [K.out, hun.out, e7]; rfl)
                rw [e7] at hcon
                go_wp2_with (go_at_call 46; refine hcon.mono ?_; rintro e w' ⟨rfl, rfl⟩)
                go_round
                case rel => exact ⟨k + 1, by omega, by go_num, hn.out⟩
                case measure => simp [intOf]; omega
              case false =>
                have hn : Hid (sumL (l.take k) = resV l s t) := Lib.hid (by rw [HV5.out, K.out, hun.out, e7]; rfl)
                rw [e7] at hcon
                go_wp2_with (first | (go_at_call 46; refine hcon.mono ?_; rintro e w' ⟨rfl, rfl⟩) | (go_at_call 36; refine hbg.mono ?_; rintro e w' ⟨rfl, rfl⟩))
                go_ret2
                exact R2.mk hn.out hf.out hb.out
            · obtain rfl : k = i := by omega
              obtain ⟨p, hp, hp1⟩ := HHIT.out hil
              obtain ⟨b, off, hao, hd⟩ := HEL3.out k p hp
              subst hao
              have d1 : w3.cell? ⟨b, off + k * 3 + 1, none⟩ = some (.int .i64 p.fr) := hd 1 _ rfl
              obtain ⟨hs0, hs1⟩ := HSU.out k (by omega)
              obtain ⟨hp0, hp2, hp3⟩ := HPA.out p (List.mem_of_getElem? hp)
              have hn : Hid (sumL (l.take k) + max 0 (t - p.fr) = resV l s t) := Lib.hid (by
                rw [HV5.out, K.out, Nat.sub_self, unsee, List.getD_eq_getElem?_getD, hp]; rfl)
              obtain ⟨S, hS⟩ : ∃ S, S = sumL (l.take k) := ⟨_, rfl⟩
              rw [← hS] at hs0 hs1 hn
              have hkz : (k : Int) < (l.length : Int) := by omega
              have hkz2 : (k : Int) < (l.length : Int) + 1 := by omega
              have hbg2 := Lib.hid (fun (W : World) h => HBG.out W h k (by omega))
              have hbg3 := hbg2.out
              rw [← hS] at hbg3
              have HBG3 := Lib.hid hbg3
              clear hS hp hp1 hd K hbg2 hbg3
              go_wp2
              go_quiet ((go_at_call 36; exact Calls.quiet_of_same ((HBG3.out _ (HSL3.out.drewN _)).mono fun _ _ h => ⟨h.1, h.2.symm⟩)))
              all_goals go_wp2
              all_goals
                go_ret2
                exact R2.mk (by rw [← hn.out]; omega) hf.out (below_drewN hb.out _)
end Go.Proofs.Yteijcombdlgioaa

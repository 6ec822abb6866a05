/- Resume of the program. -/
import Derived.Test.YteijcombdlgioaaRes
namespace Go.Proofs.Yteijcombdlgioaa
open Go.RowKit

theorem seF1_in {l : List Prt} {k : Int} (h : seF1 l k = 0) : 0 ≤ k ∧ k < l.length ∧ noAd (l.getD k.toNat default) = false := by
  unfold seF1 at h
  split at h
  · simp at h
  rename_i h1
  split at h
  · simp at h
  rename_i h2
  simp [outB] at h1
  exact ⟨by omega, by omega, by simpa using h2⟩

theorem startsL_ne (l : List Prt) : startsL l l.length ≠ [] := by intro e; have := startsL_len l l.length; rw [e] at this; simp at this

def contB (l : List Prt) (m : Nat) : Bool := decide (0 < m) && !noAd (l.getD (m - 1) default)
theorem contB_true {l : List Prt} {m : Nat} (h : contB l m = true) : 0 < m ∧ fst1 l m = fst1 l (m - 1) := by
  unfold contB at h
  simp only [Bool.and_eq_true, decide_eq_true_eq, Bool.not_eq_true'] at h
  obtain ⟨h1, h2⟩ := h
  refine ⟨h1, ?_⟩
  obtain ⟨k, rfl⟩ : ∃ k, m = k + 1 := ⟨m - 1, by omega⟩
  simp only [Nat.add_sub_cancel] at h2 ⊢
  rw [fst1, h2]; rfl
theorem contB_false {l : List Prt} {m : Nat} (h : contB l m = false) : fst1 l m = m := by
  unfold contB at h
  cases m with
  | zero => rfl
  | succ k =>
    simp at h
    rw [fst1, List.getD_eq_getElem?_getD, h]; rfl

set_option maxRecDepth 100000 in
set_option maxHeartbeats 4000000 in
theorem resume_any (w : World) (l : List Prt) (v : Value) (s : List Int) (u : Value) (t : Int) (hl : Sl w 3 encP v l) (hs : Sl w 1 encI u s) (hw : ∀ p, p ∈ l → WfP p) :
    Calls Try.prog 17 #[v, u, .int .i64 t] w (R2 w l s t) := by
  have h1 := fun (W : World) (hb : Below w.heap.size w W) => timeFault_any W l v t (hl.below hb (Nat.le_refl _)) hw
  have h2 := fun (w1 : World) (hb : Below w.heap.size w w1) => starts_any w1 l v (hl.below hb (Nat.le_refl _))
  have h3 := fun (w1 : World) (hb : Below w.heap.size w w1) (hc : w1.cell? ⟨w.heap.size, 0, none⟩ = some (.int .i64 t)) (hpa : ∀ p, p ∈ l → 0 ≤ p.fr ∧ 1 ≤ p.ln ∧ p.fr + p.ln ≤ 1000000000000000) =>
    idxP 41 #[.pointer (some ⟨w.heap.size, 0, none⟩)] (reHit t) w1 l v (hl.below hb (Nat.le_refl _)) (enters_of Try.func41 (by kernel_rfl) rfl)
      (fun W' y hy hb' => reHit_any y t w.heap.size W' ((hb'.cell (p := ⟨w.heap.size, 0, none⟩) (World.block_lt_of_cell? w1 _ hc)).trans hc) (hpa y hy).1 (hpa y hy).2.1 (hpa y hy).2.2)
  have hF : resF l s t = if timeF l t ≠ 0 then timeF l t else seenF l s := rfl
  have hz := @timeF_zero l t
  have HSS := Lib.hid hs
  obtain ⟨ao, cap, rfl, hcap, hmax, hnil, hel⟩ := hl
  obtain ⟨bo, cbp, rfl, hcbp, hmbx, hnbl, hem⟩ := hs
  unfold maxLen at hmax hmbx
  have HV : Hid (resV l s t = if resF l s t ≠ 0 then 0 else if resI l t = l.length then sumL l else
    match unsee s (fst1 l (resI l t)) (resI l t - fst1 l (resI l t)) with
    | some k => sumL (l.take k)
    | none => sumL (l.take (resI l t)) + max 0 (t - (l.getD (resI l t) default).fr)) := Lib.hid rfl
  generalize timeF l t = f at h1 hF hz
  have HF := Lib.hid hF
  have H1 := Lib.hid h1
  have H2 := Lib.hid h2
  have H3 := Lib.hid h3
  clear hF h1 h2 h3
  have hbx : Below w.heap.size w (w.alloc (.cells #[.int .i64 t] 3)) := (Below.refl _ _).alloc (Nat.le_refl _) _
  have h1 := H1.out _ hbx
  cases e1 : (f != 0)
  case true =>
    have hne : f ≠ 0 := by simpa using e1
    have hf : Hid (f = resF l s t) := Lib.hid (by rw [HF.out, if_pos hne])
    have hv : Hid (0 = resV l s t) := Lib.hid (by rw [HV.out, if_pos (by rw [← hf.out]; exact hne)])
    clear hel hem hne hz
    go_enter Try.func17, Try.ntmps17
    go_wp2_with (first | (go_at_call 31; refine h1.mono ?_; rintro e w' ⟨rfl, hb'⟩))
    go_ret2
    exact R2.mk hv.out hf.out (hbx.thru hb')
  obtain rfl : f = 0 := by simpa using e1
  clear e1
  obtain ⟨hch, ht0, ht1⟩ := hz rfl
  have hF2 : Hid (resF l s t = seenF l s) := Lib.hid (by rw [HF.out]; rfl)
  have hlen := (checkP_parts hch).1
  have hbd := checkP_bd hch
  have hpa := pf_all hch
  have hsum : ∀ i, i ≤ l.length → 0 ≤ sumL (l.take i) ∧ sumL (l.take i) ≤ 1000000000000000000 := fun i hi => by
    have h := sumL_bd (l := l.take i) (fun q hq => hbd q (List.mem_of_mem_take hq))
    have h' : ((l.take i).length : Int) ≤ 1000 := by simp; omega
    omega
  have HBD := Lib.hid hbd
  have HPA := Lib.hid hpa
  have HSU := Lib.hid hsum
  have HEL := Lib.hid hel
  have HEM := Lib.hid hem
  clear hch hbd hsum hpa HF H1 hel hem
  go_enter Try.func17, Try.ntmps17
  go_wp2_with (first | (go_at_call 31; refine h1.mono ?_; rintro e w1 ⟨rfl, hb1⟩))
  have hbt : w1.cell? ⟨w.heap.size, 0, none⟩ = some (.int .i64 t) := (hb1.cell (p := ⟨w.heap.size, 0, none⟩) (by simp)).trans (by simp [go_sem])
  have hszt : w.heap.size < w1.heap.size := by have := hb1.size; simp at this; omega
  have hbw1 : Below w.heap.size w w1 := hbx.thru hb1
  have HBT := Lib.hid hbt
  have HB1 := Lib.hid hbw1
  clear hbt hbw1 hb1 h1 hbx
  go_loop [10, 23] (fun _ s23 => ∃ kk : Nat, kk ≤ s.length ∧ s23 = .int .i64 kk ∧ Aside (∀ j, j < kk → seF1 l (s.getD j 0) = 0)) (fun _ i => s.length - (intOf i).toNat)
  case atStart => exact ⟨0, Nat.zero_le _, rfl, fun j hj => absurd hj (Nat.not_lt_zero _)⟩
  case round =>
    obtain ⟨kk, hkk, rfl, A⟩ := hrel
    by_cases hlt : kk < s.length
    · have hltz : (kk : Int) < (s.length : Int) := by omega
      obtain ⟨k, hx⟩ : ∃ x, s[kk]? = some x := ⟨s[kk], by simp [hlt]⟩
      obtain ⟨b, off, rfl, hc⟩ := HEM.out kk k hx
      have hc0 := hc 0 _ rfl
      have hlt0 := World.block_lt_of_cell? w _ hc0
      have c0 : w1.cell? ⟨b, off + kk, none⟩ = some (.int .i64 k) := by have h := (HB1.out.cell (p := ⟨b, off + kk * 1 + 0, none⟩) hlt0).trans hc0; simpa using h
      have hgd : Hid (s.getD kk 0 = k) := Lib.hid (by rw [List.getD_eq_getElem?_getD, hx]; rfl)
      have hS : Hid (∀ z, seF1 l k = z → z ≠ 0 → z = resF l s t) := Lib.hid (fun z h hz => by
        rw [hF2.out, seenF, FF_hit hlt A.out (by rw [hgd.out, h]; exact hz), hgd.out, h])
      have hS1 : Hid (seF1 l k = if outB k 0 ((l.length : Int) - 1) = true then 1 else if noAd (l.getD k.toNat default) = true then 6 else 0) := Lib.hid rfl
      clear hx hc hc0
      cases o1 : outB k 0 ((l.length : Int) - 1)
      case true =>
        have hf : Hid (1 = resF l s t) := Lib.hid (hS.out 1 (by rw [hS1.out, o1]; rfl) (by decide))
        have hv : Hid (0 = resV l s t) := Lib.hid (by rw [HV.out, if_pos (by rw [← hf.out]; decide)])
        go_wp2_with (first | (go_at_call 32; refine (out_any _ _ _ _).mono ?_; rintro e w' ⟨rfl, rfl⟩))
        go_ret2
        exact R2.mk hv.out hf.out HB1.out
      have hk : 0 ≤ k ∧ k < l.length := by simp [outB] at o1; omega
      obtain ⟨n, rfl⟩ : ∃ n : Nat, k = (n : Int) := ⟨k.toNat, by omega⟩
      obtain ⟨p, hp⟩ : ∃ x, l[n]? = some x := ⟨l[n]'(by omega), by simp⟩
      obtain ⟨b', off', rfl, hd⟩ := HEL.out n p hp
      have hd0 := hd 0 _ rfl
      have hlt1 := World.block_lt_of_cell? w _ hd0
      have d0 : w1.cell? ⟨b', off' + n * 3, none⟩ = some (.string p.ad) := (HB1.out.cell (p := ⟨b', off' + n * 3 + 0, none⟩) hlt1).trans hd0
      have hno : Hid (seF1 l (n : Int) = if p.ad.toList.isEmpty = true then 6 else 0) := Lib.hid (by rw [hS1.out, o1, Int.toNat_natCast, List.getD_eq_getElem?_getD, hp]; rfl)
      obtain ⟨hk0, hk1⟩ := hk
      clear hp hd hd0 hS1
      cases e5 : p.ad.toList.isEmpty
      case true =>
        have e6 : p.ad.toList = [] := by simpa using e5
        have hf : Hid (6 = resF l s t) := Lib.hid (hS.out 6 (by rw [hno.out, e5]; rfl) (by decide))
        have hv : Hid (0 = resV l s t) := Lib.hid (by rw [HV.out, if_pos (by rw [← hf.out]; decide)])
        go_wp2_with (first | (go_at_call 32; refine (out_any _ _ _ _).mono ?_; rintro e w' ⟨rfl, rfl⟩))
        go_ret2
        exact R2.mk hv.out hf.out HB1.out
      case false =>
        have e6 : ¬ p.ad.toList = [] := by simpa using e5
        have hf : Hid (seF1 l (s.getD kk 0) = 0) := Lib.hid (by rw [hgd.out, hno.out, e5]; rfl)
        go_wp2_with (first | (go_at_call 32; refine (out_any _ _ _ _).mono ?_; rintro e w' ⟨rfl, rfl⟩))
        go_round
        case rel =>
          refine ⟨kk + 1, by omega, by go_num, (show Aside _ from fun j hj => ?_)⟩
          by_cases e : j = kk
          · rw [e, hf.out]
          · exact A.out j (by omega)
        case measure => simp [intOf]; omega
    · obtain rfl : kk = s.length := by omega
      have hf : Hid (0 = resF l s t) := Lib.hid (by rw [hF2.out, seenF, FF_zero A.out])
      have hV2 : Hid (resV l s t = if resI l t = l.length then sumL l else
          match unsee s (fst1 l (resI l t)) (resI l t - fst1 l (resI l t)) with
          | some k => sumL (l.take k)
          | none => sumL (l.take (resI l t)) + max 0 (t - (l.getD (resI l t) default).fr)) := Lib.hid (by rw [HV.out, if_neg (by rw [← hf.out]; decide)])
      have hcall2 := H2.out w1 HB1.out hlen HBD.out
      obtain ⟨i, hi⟩ : ∃ i, i = resI l t := ⟨_, rfl⟩
      have hfx : fidxP (reHit t) l = if i = l.length then -1 else (i : Int) := by rw [hi]; rfl
      have hile : i ≤ l.length := by rw [hi]; exact List.findIdx_le_length
      have hhit : i < l.length → ∃ p, l[i]? = some p ∧ reHit t p = true := fun h => by
        subst hi
        exact ⟨_, List.getElem?_eq_getElem h, List.findIdx_getElem⟩
      have hV3 := hV2.out
      rw [← hi] at hV3
      have HV3 := Lib.hid hV3
      have HHIT := Lib.hid hhit
      have HSU2 : Hid (sumL l = sumL (l.take l.length)) := Lib.hid (by rw [List.take_length])
      clear HV hF2 A hi hV2 hV3 hhit
      by_cases hI : i = l.length
      · have hv : Hid (sumL l = resV l s t) := Lib.hid (by rw [HV3.out, if_pos hI])
        rw [if_pos hI] at hfx
        have h3 := fun (w1 : World) (hb : Below w.heap.size w w1) (hc : w1.cell? ⟨w.heap.size, 0, none⟩ = some (.int .i64 t)) => H3.out w1 hb hc HPA.out
        rw [hfx] at h3
        have H3' := Lib.hid h3
        have hz0 : (l.length : Int) < (l.length : Int) + 1 := by omega
        clear h3 hfx H3 hI
        go_wp2_with (first | (go_at_call 33; refine hcall2.mono ?_; rintro e w2 ⟨v2, rfl, ho2, hb2⟩; have hbt2 := (hb2.cell (p := ⟨w.heap.size, 0, none⟩) hszt).trans HBT.out; have hcall3 := H3'.out w2 (HB1.out.thru hb2) hbt2; obtain ⟨g, cg, rfl, hg1, hg2, hg3, hgc⟩ := Own.get encI_len ho2 (startsL_ne l); have gk2 : w2.cell? ⟨g, l.length, none⟩ = some (.int .i64 (sumL l)) := (hgc l.length _ _ (startsL_get l l.length l.length (Nat.le_refl _)) rfl).trans (by rw [← HSU2.out]); rw [startsL_len]; clear hgc) | (go_at_call 40; refine hcall3.mono ?_; rintro e w3 ⟨rfl, hb3⟩; have gk := (hb3.cell (p := ⟨g, l.length, none⟩) hg2).trans gk2))
        go_ret2
        exact R2.mk hv.out hf.out ((HB1.out.thru hb2).thru hb3)
      · have hil : i < l.length := by omega
        rw [if_neg hI] at hfx
        have h3 := fun (w1 : World) (hb : Below w.heap.size w w1) (hc : w1.cell? ⟨w.heap.size, 0, none⟩ = some (.int .i64 t)) => H3.out w1 hb hc HPA.out
        rw [hfx] at h3
        have H3' := Lib.hid h3
        have hV4 : Hid (resV l s t = match unsee s (fst1 l i) (i - fst1 l i) with
          | some k => sumL (l.take k)
          | none => sumL (l.take i) + max 0 (t - (l.getD i default).fr)) := Lib.hid (by rw [HV3.out, if_neg hI])
        clear h3 hfx H3 hI HV3
        go_wp2_with (first | (go_at_call 33; refine hcall2.mono ?_; rintro e w2 ⟨v2, rfl, ho2, hb2⟩; have hbt2 := (hb2.cell (p := ⟨w.heap.size, 0, none⟩) hszt).trans HBT.out; have hcall3 := H3'.out w2 (HB1.out.thru hb2) hbt2) | (go_at_call 40; refine hcall3.mono ?_; rintro e w3 ⟨rfl, hb3⟩))
        obtain ⟨g, cg, rfl, hg1, hg2, hg3, hgc⟩ := Own.get encI_len ho2 (by intro e; have := startsL_len l l.length; rw [e] at this; simp at this)
        have hgl := startsL_len l l.length
        have HG : Hid (∀ k, k ≤ l.length → w3.cell? ⟨g, k, none⟩ = some (.int .i64 (sumL (l.take k)))) := Lib.hid fun k hk => (hb3.cell (p := ⟨g, k, none⟩) hg2).trans (hgc k _ _ (startsL_get l l.length k hk) rfl)
        have hb := Lib.hid ((HB1.out.thru hb2).thru hb3)
        have HB3 : Hid (w3.cell? ⟨w.heap.size, 0, none⟩ = some (.int .i64 t)) := Lib.hid ((hb3.cell (p := ⟨w.heap.size, 0, none⟩) (Nat.lt_of_lt_of_le hszt hb2.size)).trans hbt2)
        rw [hgl]
        clear hgc hgl hb2 hb3 ho2 hbt2 hcall2 hcall3 hg2
        have HEL3 := Lib.hid (el_below HEL.out hb.out (Nat.le_refl _))
        have HSS3 := Lib.hid (HSS.out.below hb.out (Nat.le_refl _))
        go_loop [13] (fun s13 => ∃ m : Nat, m ≤ i ∧ s13 = .int .i64 m ∧ Aside (fst1 l i = fst1 l m)) (fun s => (intOf s).toNat)
        case atStart => exact ⟨i, Nat.le_refl _, rfl, (show Aside _ from rfl)⟩
        obtain ⟨m, hm, rfl, M⟩ := hrel
        go_upto_region 17 with (fail)
        go_cut [64] (fun s64 w4 => s64 = .bool (contB l m) ∧ w3 = w4)
        case first =>
          by_cases hm0 : m = 0
          · have hq : Hid (contB l m = false) := Lib.hid (by simp [contB, hm0])
            have hz : ¬ (0 : Int) < (m : Int) := by omega
            have hz' : decide ((0 : Int) < (m : Int)) = false := by simp; omega
            clear hm0
            go_wp2
            go_meet
            exact ⟨by rw [hq.out], rfl⟩
          · obtain ⟨q, hq⟩ : ∃ x, l[m - 1]? = some x := ⟨l[m - 1]'(by omega), by simp⟩
            obtain ⟨b, off, hao, hd⟩ := HEL3.out (m - 1) q hq
            subst hao
            have d0 : w3.cell? ⟨b, off + (m - 1) * 3, none⟩ = some (.string q.ad) := hd 0 _ rfl
            have hcb : Hid (contB l m = !q.ad.toList.isEmpty) := Lib.hid (by
              unfold contB
              rw [List.getD_eq_getElem?_getD, hq]
              simp [noAd]; omega)
            have hz : (0 : Int) < (m : Int) := by omega
            have ez : IntKind.i64.wrap ((m : Int) - 1) = ((m - 1 : Nat) : Int) := by rw [IntWalk.i64_in _ (by omega)]; omega
            have ez2 : ((m : Int) - 1).toNat = m - 1 := by omega
            have hm1 : (m : Int) - 1 < (l.length : Int) := by omega
            have hm2 : (0 : Int) ≤ (m : Int) - 1 := by omega
            clear hm0 hq hd ez
            cases e5 : q.ad.toList.isEmpty
            · have e6 : ¬ q.ad.toList = [] := by simpa using e5
              go_wp2
              go_meet
              exact ⟨by rw [hcb.out]; simp [*], rfl⟩
            · have e6 : q.ad.toList = [] := by simpa using e5
              go_wp2
              go_meet
              exact ⟨by rw [hcb.out]; simp [*], rfl⟩
        obtain ⟨rfl, rfl⟩ := hcut
        cases hC : contB l m
        case true =>
          have hc1 := contB_true hC
          obtain ⟨hc0, hc1⟩ := hc1
          have HC1 := Lib.hid hc1
          clear hC hc1
          go_wp2
          go_round
          case rel => exact ⟨m - 1, by omega, by go_num, (show Aside _ from M.out.trans HC1.out)⟩
          case measure => simp [intOf]; omega
        case false =>
          have hc1 := contB_false hC
          have hV5 := hV4.out
          rw [M.out, hc1] at hV5
          have HV5 := Lib.hid hV5
          clear hC hc1 M hV5 hV4
          go_wp2
          go_loop [14] (fun s14 => ∃ k : Nat, k ≤ i ∧ s14 = .int .i64 k ∧ Aside (unsee s m (i - m) = unsee s k (i - k))) (fun s => i - (intOf s).toNat)
          case atStart => exact ⟨m, hm, rfl, (show Aside _ from rfl)⟩
          obtain ⟨k, hk, rfl, K⟩ := hrel
          by_cases hki : k < i
          · have hkz : (k : Int) < (i : Int) := by omega
            have hkz2 : (k : Int) < (l.length : Int) + 1 := by omega
            have hcon := containsI_any w3 s _ (k : Int) HSS3.out
            have hun : Hid (unsee s k (i - k) = if seenB s k = true then unsee s (k + 1) (i - (k + 1)) else some k) := Lib.hid (by
              rw [show i - k = (i - (k + 1)) + 1 by omega, unsee])
            have gk := HG.out k (by omega)
            cases e7 : seenB s (k : Int)
            case true =>
              have hn : Hid (unsee s m (i - m) = unsee s (k + 1) (i - (k + 1))) := Lib.hid (by rw [K.out, hun.out, e7]; rfl)
              rw [e7] at hcon
              go_wp2_with (go_at_call 42; refine hcon.mono ?_; rintro e w' ⟨rfl, rfl⟩)
              go_round
              case rel => exact ⟨k + 1, by omega, by go_num, hn.out⟩
              case measure => simp [intOf]; omega
            case false =>
              have hn : Hid (sumL (l.take k) = resV l s t) := Lib.hid (by rw [HV5.out, K.out, hun.out, e7]; rfl)
              rw [e7] at hcon
              go_wp2_with (go_at_call 42; refine hcon.mono ?_; rintro e w' ⟨rfl, rfl⟩)
              go_ret2
              exact R2.mk hn.out hf.out hb.out
          · obtain rfl : k = i := by omega
            obtain ⟨p, hp, hp1⟩ := HHIT.out hil
            obtain ⟨b, off, hao, hd⟩ := HEL3.out k p hp
            subst hao
            have d1 : w3.cell? ⟨b, off + k * 3 + 1, none⟩ = some (.int .i64 p.fr) := hd 1 _ rfl
            have gk := HG.out k (by omega)
            have hbt := HB3.out
            obtain ⟨hs0, hs1⟩ := HSU.out k (by omega)
            obtain ⟨hp0, hp2, hp3⟩ := HPA.out p (List.mem_of_getElem? hp)
            have hn : Hid (sumL (l.take k) + max 0 (t - p.fr) = resV l s t) := Lib.hid (by
              rw [HV5.out, K.out, Nat.sub_self, unsee, List.getD_eq_getElem?_getD, hp]; rfl)
            obtain ⟨S, hS⟩ : ∃ S, S = sumL (l.take k) := ⟨_, rfl⟩
            rw [← hS] at hs0 hs1 hn gk
            have hkz : (k : Int) < (l.length : Int) := by omega
            have hkz2 : (k : Int) < (l.length : Int) + 1 := by omega
            clear hS hp hp1 hd K
            go_wp2
            go_quiet (fail)
            all_goals go_wp2
            all_goals
              go_ret2
              exact R2.mk (by rw [← hn.out]; omega) hf.out (below_drewN hb.out _)
end Go.Proofs.Yteijcombdlgioaa

/- symMerge of slices.SortStableFunc at strings, whole. -/
import Derived.Test.YtmgbmoiefgfemaaDoorStbM
namespace Go.Proofs.YtmgbmoiefgfemaaDoor
open Go.RowKit
set_option linter.unusedSectionVars false

section
variable {α : Type} [Inhabited α]
variable {pr : α → Prop} {st : α → ByteArray} {w0 W : World} {base blk cap n : Nat} {L : List α} {g : Nat} {lb : Array Value} {cf : α → α → Int}

/-- What symMerge is said to do, one call deep. -/
def SymAt (pr : α → Prop) (st : α → ByteArray) (w0 : World) (base blk cap n g : Nat) (lb : Array Value) (cf : α → α → Int) (N : Nat) : Prop :=
  ∀ (W : World) (L : List α) (a m b : Nat), StW pr st w0 base blk cap n L W → a < m → m < b → b ≤ n → b - a ≤ N →
    Calls Tryd.prog 108 #[.slice (some ⟨blk, 0, none⟩) n cap, .int .i64 a, .int .i64 m, .int .i64 b, .func (.func g) #[] lb] W (StP pr st w0 base blk cap n (symR (ltI cf) N a m b L))
def d1R (m s e : Nat) (L : List α) : List α := if s < m ∧ m < e then rotR m (e - s) (m - s) (e - m) L else L
def d2R (lt : α → α → Bool) (N a s mid : Nat) (L : List α) : List α := if a < s ∧ s < mid then symR lt N a s mid L else L

set_option maxRecDepth 100000 in
set_option maxHeartbeats 8000000 in
theorem sym_gen (h : StW pr st w0 base blk cap n L W) (hc : CmpW g lb pr st cf w0 blk) (eg : ∀ args w, (callFunc g args).run Tryd.prog w = .ok (.enter g args) w) (a m b N : Nat) (ham : a < m) (hmb : m < b) (hma1 : m - a ≠ 1) (hbm1 : b - m ≠ 1) (hb : b ≤ n) (hsz : n ≤ 1000000) (hN : b - a ≤ N + 1)
    (IH : SymAt pr st w0 base blk cap n g lb cf N) :
    Calls Tryd.prog 108 #[.slice (some ⟨blk, 0, none⟩) n cap, .int .i64 a, .int .i64 m, .int .i64 b, .func (.func g) #[] lb] W (StP pr st w0 base blk cap n (d2R (ltI cf) N ((a + b) / 2) ((a + b) / 2 + m - cutR (ltI cf) L a m b) b (d2R (ltI cf) N a (cutR (ltI cf) L a m b) ((a + b) / 2) (d1R m (cutR (ltI cf) L a m b) ((a + b) / 2 + m - cutR (ltI cf) L a m b) L)))) := by
  have HH := Lib.hid h
  have HC := Lib.hid hc
  have HEG := Lib.hid eg
  have HIH := Lib.hid IH
  clear h hc eg IH
  have hwa := wrapSub m a (by omega) (by omega)
  have hwa1 : (((m - a : Nat) : Int) == 1) = false := by rw [beq_eq_false_iff_ne]; omega
  have hwb := wrapSub b m (by omega) (by omega)
  have hwb1 : (((b - m : Nat) : Int) == 1) = false := by rw [beq_eq_false_iff_ne]; omega
  obtain ⟨mid, hmid⟩ : ∃ mid, mid = (a + b) / 2 := ⟨_, rfl⟩
  obtain ⟨nm, hnm⟩ : ∃ nm, nm = mid + m := ⟨_, rfl⟩
  obtain ⟨pm, hpm⟩ : ∃ pm, pm = nm - 1 := ⟨_, rfl⟩
  obtain ⟨lo, hlo⟩ : ∃ lo, lo = if mid < m then mid + m - b else a := ⟨_, rfl⟩
  obtain ⟨hi, hhi⟩ : ∃ hi, hi = if mid < m then mid else m := ⟨_, rfl⟩
  have hb1 : a ≤ lo ∧ lo ≤ hi ∧ hi ≤ m ∧ nm - hi ≥ m ∧ nm - lo ≤ b ∧ hi ≤ mid ∧ lo + b ≥ nm := by
    rw [hlo, hhi]
    split <;> omega
  obtain ⟨q, hq⟩ : ∃ q, q = fun c => !ltI cf (at_ L (pm - c)) (at_ L c) := ⟨_, rfl⟩
  have HCUT : Hid (cutR (ltI cf) L a m b = bsR q (b - a) lo hi) := Lib.hid (by
    unfold cutR
    rw [← hmid, ← hlo, ← hhi, hq, hpm, hnm])
  have HQ := Lib.hid hq
  have HLO := Lib.hid hlo
  have HHI := Lib.hid hhi
  have HMID := Lib.hid hmid
  rw [← hmid, ← hnm]
  have hmid1 : a < mid ∧ mid < b := by omega
  obtain ⟨hmid1, hmid2⟩ := hmid1
  obtain ⟨b1, b2, b3, b4, b5, b6, b7⟩ := hb1
  have hwn : IntKind.i64.wrap ((mid : Int) + (m : Int)) = (nm : Int) := by rw [show (mid : Int) + (m : Int) = (nm : Int) by omega]; exact IntWalk.i64_in _ (by omega)
  have hwp : IntKind.i64.wrap ((nm : Int) - 1) = (pm : Int) := by rw [show (nm : Int) - 1 = (pm : Int) by omega]; exact IntWalk.i64_in _ (by omega)
  have hnmb : nm ≤ 2000000 := by omega
  have HNM := Lib.hid hnm
  have HPM := Lib.hid hpm
  clear hq hlo hhi hmid hnm hpm hma1 hbm1
  go_enter Tryd.func108, Tryd.ntmps108
  go_upto_region 24 with (fail)
  go_cut [18] (fun s18 wc => s18 = .int .i64 mid ∧ W = wc)
  case first =>
    as_aux_lemma =>
      go_wp2
      go_meet
      exact ⟨by rw [show ((mid : Nat) : Int) = ((a : Int) + (b : Int)) / 2 by have := HMID.out; omega], rfl⟩
  obtain ⟨rfl, rfl⟩ := hcut
  go_upto_if 140 with (fail)
  go_cut [20, 21] (fun s20 s21 wc => s20 = .int .i64 lo ∧ s21 = .int .i64 hi ∧ W = wc)
  case first =>
    as_aux_lemma =>
      by_cases hmm : mid < m
      · have e1 : lo = nm - b := by rw [HLO.out, if_pos hmm, HNM.out]
        have e2 : hi = mid := by rw [HHI.out, if_pos hmm]
        have hw := wrapSub nm b (by have := HMID.out; have := HNM.out; omega) (by omega)
        rw [← e1] at hw
        have hmz : (mid : Int) < (m : Int) := by omega
        clear e1
        go_wp2
        go_meet
        exact ⟨rfl, by rw [e2], rfl⟩
      · have e1 : lo = a := by rw [HLO.out, if_neg hmm]
        have e2 : hi = m := by rw [HHI.out, if_neg hmm]
        have hmz : ¬ (mid : Int) < (m : Int) := by omega
        go_wp2
        go_meet
        exact ⟨by rw [e1], by rw [e2], rfl⟩
  obtain ⟨rfl, rfl, rfl⟩ := hcut
  go_wp2
  go_loopg [20, 21] (b - a) (fun gg s20 s21 wr => ∃ (i j : Nat), lo ≤ i ∧ i ≤ j ∧ j ≤ hi ∧ j - i ≤ gg ∧ s20 = .int .i64 i ∧ s21 = .int .i64 j ∧ Aside (StW pr st w0 base blk cap n L wr) ∧ Aside (∃ k, j - i ≤ k ∧ bsR q k i j = bsR q (b - a) lo hi))
  case atStart => exact ⟨lo, hi, by omega, by omega, by omega, by omega, rfl, rfl, HH.out, (show Aside _ from ⟨b - a, by omega, rfl⟩)⟩
  case round =>
    obtain ⟨wi, rfl⟩ : ∃ wi : World, wi = wr := ⟨_, rfl⟩
    obtain ⟨i, j, hi1, hij, hj, hg, rfl, rfl, HE, HB⟩ := hrel
    by_cases hlt : i < j
    · have hltz : (i : Int) < (j : Int) := by omega
      go_upto_region 34 with (fail)
      go_cut [23] (fun s23 wc => s23 = .int .i64 (((i + j) / 2 : Nat) : Int) ∧ wi = wc)
      case first =>
        as_aux_lemma =>
          go_wp2
          go_meet
          exact ⟨by rw [show (((i + j) / 2 : Nat) : Int) = ((i : Int) + (j : Int)) / 2 by omega], rfl⟩
      obtain ⟨rfl, rfl⟩ := hcut
      obtain ⟨t, ht⟩ : ∃ t, t = (i + j) / 2 := ⟨_, rfl⟩
      rw [← ht]
      have HT := Lib.hid ht
      have ht1 : i ≤ t ∧ t < j := by omega
      obtain ⟨ht1, ht2⟩ := ht1
      clear ht
      obtain ⟨pc, hpc⟩ : ∃ pc, pc = pm - t := ⟨_, rfl⟩
      have hpn : pc < n ∧ t ≤ pm := by have := HPM.out; have := HNM.out; omega
      obtain ⟨hpn, htp⟩ := hpn
      have hwc := wrapSub pm t htp (by have := HPM.out; omega)
      rw [← hpc] at hwc
      obtain ⟨ct, ft⟩ := HE.out.cell (i := t) (by omega)
      obtain ⟨ca, fa⟩ := HE.out.cell (i := pc) hpn
      have hbl := HE.out.lt (by omega)
      have hl := HE.out.len
      have hcm := fun (W' : World) (hb : Below wi.heap.size wi W') => HC.out W' (HE.out.onl.below hb) (at_ L pc) (at_ L t) (HE.out.ok _ (at_mem (by omega))) (HE.out.ok _ (at_mem (by omega)))
      obtain ⟨z, hz⟩ : ∃ z, z = cf (at_ L pc) (at_ L t) := ⟨_, rfl⟩
      obtain ⟨sa, hsa⟩ : ∃ s, s = st (at_ L pc) := ⟨_, rfl⟩
      obtain ⟨sh, hsh⟩ : ∃ s, s = st (at_ L t) := ⟨_, rfl⟩
      rw [← hsa] at ca hcm
      rw [← hsh] at ct hcm
      rw [← hz] at hcm
      have HCM := Lib.hid hcm
      obtain ⟨y, hy⟩ : ∃ y, y = q t := ⟨_, rfl⟩
      have HPT : Hid (y = !decide (z < 0)) := Lib.hid (by rw [hy, HQ.out, hz, hpc]; rfl)
      have HY := Lib.hid hy
      have htz : (t : Int) < (n : Int) := by omega
      have haz : (pc : Int) < (n : Int) := by omega
      clear hcm hz hsa hsh ft fa hl hy hpc
      have HQ1 : Below wi.heap.size wi wi.drew := (Below.refl _ wi).drew
      go_upto_region 35 with (fail)
      go_cut [171] (fun s171 wc => s171 = .bool y ∧ Aside (Below wi.heap.size wi wc))
      case first =>
        as_aux_lemma =>
          have eg := HEG.out
          go_region_held3 (fun W' => W'.cell? ⟨blk, t, none⟩ = some (.string sh) ∧ W'.cell? ⟨blk, pc, none⟩ = some (.string sa))
            (first | exact ⟨(HQ1.cell (p := ⟨blk, t, none⟩) hbl).trans ct, (HQ1.cell (p := ⟨blk, pc, none⟩) hbl).trans ca⟩ | fail)
            (first | (go_at_fn g; (with_reducible refine (HCM.out _ HQ1).mono ?_); rintro e w' ⟨rfl, hb⟩; have HQ1 := HQ1.trans (hb.mono HQ1.size)) | fail)
          go_wp2
          go_meet
          exact ⟨by rw [HPT.out] <;> first | rfl | simp, HQ1⟩
      obtain ⟨rfl, HQC⟩ := hcut
      have HE2 := Lib.hid (HE.out.below HQC.out)
      obtain ⟨k, hk, hbs⟩ := HB.out
      obtain ⟨k, rfl⟩ : ∃ k', k = k' + 1 := ⟨k - 1, by omega⟩
      have HBS := Lib.hid hbs
      clear hbs HQC HQ1 ct ca HE HB HCM
      cases hv : y
      · have hb2 := bsR_not (q := k) HT.out hlt (show q t = false by rw [← HY.out]; exact hv)
        rw [HBS.out] at hb2
        have HB2 := Lib.hid hb2
        clear hb2
        subst hv
        go_wp2
        go_roundg (t - i)
        case measure => omega
        case rel => exact ⟨i, t, by omega, by omega, by omega, by omega, rfl, rfl, HE2.out, (show Aside _ from ⟨k, by omega, HB2.out.symm⟩)⟩
      · have hb2 := bsR_yes (q := k) HT.out hlt (show q t = true by rw [← HY.out]; exact hv)
        rw [HBS.out] at hb2
        have HB2 := Lib.hid hb2
        clear hb2
        subst hv
        go_wp2
        go_roundg (j - (t + 1))
        case measure => omega
        case rel => exact ⟨t + 1, j, by omega, by omega, by omega, by omega, by go_num, rfl, HE2.out, (show Aside _ from ⟨k, by omega, HB2.out.symm⟩)⟩
    · obtain rfl : i = j := by omega
      obtain ⟨k, _, hbs⟩ := HB.out
      rw [bsR_end] at hbs
      rw [← HCUT.out] at hbs
      have HI := Lib.hid hbs
      clear hbs HB
      obtain ⟨e, he⟩ : ∃ e, e = nm - i := ⟨_, rfl⟩
      have hwe := wrapSub nm i (by omega) (by omega)
      rw [← he] at hwe
      have HEE := Lib.hid he
      have he1 : m ≤ e ∧ e ≤ b ∧ mid ≤ e := by have := HNM.out; omega
      obtain ⟨he1, he2, he3⟩ := he1
      clear he
      have hib : i ≤ m ∧ a ≤ i ∧ i ≤ mid := by omega
      obtain ⟨hib1, hib2, hib3⟩ := hib
      have hml : mid - a ≤ N ∧ b - mid ≤ N := by have := HMID.out; omega
      obtain ⟨hml1, hml2⟩ := hml
      obtain ⟨y1, hy1⟩ : ∃ y1, y1 = decide (i < m ∧ m < e) := ⟨_, rfl⟩
      obtain ⟨y2, hy2⟩ : ∃ y2, y2 = decide (a < i ∧ i < mid) := ⟨_, rfl⟩
      obtain ⟨y3, hy3⟩ : ∃ y3, y3 = decide (mid < e ∧ e < b) := ⟨_, rfl⟩
      have HY1 := Lib.hid hy1
      have HY2 := Lib.hid hy2
      have HY3 := Lib.hid hy3
      clear hy1 hy2 hy3
      go_upto_region 39 with (fail)
      go_cut [185] (fun s185 wc => s185 = .bool y1 ∧ wi = wc)
      case first =>
        as_aux_lemma =>
          by_cases x1 : i < m
          · have x1z : (i : Int) < (m : Int) := by omega
            by_cases x2 : m < e
            · have x2z : (m : Int) < (e : Int) := by omega
              have hyt : Hid (y1 = true) := Lib.hid (by rw [HY1.out]; exact decide_eq_true ⟨x1, x2⟩)
              go_wp2
              go_meet
              exact ⟨by rw [hyt.out], rfl⟩
            · have x2z : ¬ (m : Int) < (e : Int) := by omega
              have hyt : Hid (y1 = false) := Lib.hid (by rw [HY1.out]; exact decide_eq_false fun h => x2 h.2)
              go_wp2
              go_meet
              exact ⟨by rw [hyt.out], rfl⟩
          · have x1z : ¬ (i : Int) < (m : Int) := by omega
            have hyt : Hid (y1 = false) := Lib.hid (by rw [HY1.out]; exact decide_eq_false fun h => x1 h.1)
            go_wp2
            go_meet
            exact ⟨by rw [hyt.out], rfl⟩
      obtain ⟨rfl, rfl⟩ := hcut
      go_upto_if 185 with (fail)
      go_cut [] (fun wc => Aside (StW pr st w0 base blk cap n (d1R m i e L) wc))
      case first =>
        as_aux_lemma =>
          cases hv : y1
          · have hF : Hid (d1R m i e L = L) := Lib.hid (by unfold d1R; rw [if_neg]; rw [HY1.out] at hv; exact of_decide_eq_false hv)
            subst hv
            go_wp2
            go_meet
            rw [hF.out]
            exact HE.out
          · have hx : i < m ∧ m < e := by rw [HY1.out] at hv; exact of_decide_eq_true hv
            have hF : Hid (d1R m i e L = rotR m (e - i) (m - i) (e - m) L) := Lib.hid (by unfold d1R; rw [if_pos hx])
            have HROT := Lib.hid (fun f => rotate_st HE.out i m e hx.1 hx.2 (by omega) hsz f)
            subst hv
            clear hx
            go_wp2_with (go_at_call 132; refine (HROT.out _).mono ?_; rintro e' w6 ⟨rfl, hq⟩; have HQ6 := Lib.hid hq; clear hq)
            go_meet
            rw [hF.out]
            exact HQ6.out
      obtain ⟨w1, rfl⟩ : ∃ w1 : World, w1 = wc := ⟨_, rfl⟩
      have HE1 := Lib.hid hcut.out
      obtain ⟨D1, hD1⟩ : ∃ D1, D1 = d1R m i e L := ⟨_, rfl⟩
      rw [← hD1] at HE1
      have HD1 := Lib.hid hD1
      clear hD1 hcut HE
      go_upto_region 41 with (fail)
      go_cut [199] (fun s199 wc => s199 = .bool y2 ∧ w1 = wc)
      case first =>
        as_aux_lemma =>
          by_cases x1 : a < i
          · have x1z : (a : Int) < (i : Int) := by omega
            by_cases x2 : i < mid
            · have x2z : (i : Int) < (mid : Int) := by omega
              have hyt : Hid (y2 = true) := Lib.hid (by rw [HY2.out]; exact decide_eq_true ⟨x1, x2⟩)
              go_wp2
              go_meet
              exact ⟨by rw [hyt.out], rfl⟩
            · have x2z : ¬ (i : Int) < (mid : Int) := by omega
              have hyt : Hid (y2 = false) := Lib.hid (by rw [HY2.out]; exact decide_eq_false fun h => x2 h.2)
              go_wp2
              go_meet
              exact ⟨by rw [hyt.out], rfl⟩
          · have x1z : ¬ (a : Int) < (i : Int) := by omega
            have hyt : Hid (y2 = false) := Lib.hid (by rw [HY2.out]; exact decide_eq_false fun h => x1 h.1)
            go_wp2
            go_meet
            exact ⟨by rw [hyt.out], rfl⟩
      obtain ⟨rfl, rfl⟩ := hcut
      go_upto_if 199 with (fail)
      go_cut [] (fun wc => Aside (StW pr st w0 base blk cap n (d2R (ltI cf) N a i mid D1) wc))
      case first =>
        as_aux_lemma =>
          cases hv : y2
          · have hF : Hid (d2R (ltI cf) N a i mid D1 = D1) := Lib.hid (by unfold d2R; rw [if_neg]; rw [HY2.out] at hv; exact of_decide_eq_false hv)
            subst hv
            go_wp2
            go_meet
            rw [hF.out]
            exact HE1.out
          · have hx : a < i ∧ i < mid := by rw [HY2.out] at hv; exact of_decide_eq_true hv
            have hF : Hid (d2R (ltI cf) N a i mid D1 = symR (ltI cf) N a i mid D1) := Lib.hid (by unfold d2R; rw [if_pos hx])
            have HSY := Lib.hid (HIH.out _ _ a i mid HE1.out hx.1 hx.2 (by omega) hml1)
            subst hv
            clear hx
            go_wp2_with (go_at_call 108; refine (HSY.out).mono ?_; rintro e' w6 ⟨rfl, hq⟩; have HQ6 := Lib.hid hq; clear hq)
            go_meet
            rw [hF.out]
            exact HQ6.out
      obtain ⟨w2, rfl⟩ : ∃ w2 : World, w2 = wc := ⟨_, rfl⟩
      have HE2 := Lib.hid hcut.out
      obtain ⟨D2, hD2⟩ : ∃ D2, D2 = d2R (ltI cf) N a i mid D1 := ⟨_, rfl⟩
      rw [← hD2] at HE2
      have HD2 := Lib.hid hD2
      clear hD2 hcut HE1
      go_upto_region 43 with (fail)
      go_cut [213] (fun s213 wc => s213 = .bool y3 ∧ w2 = wc)
      case first =>
        as_aux_lemma =>
          by_cases x1 : mid < e
          · have x1z : (mid : Int) < (e : Int) := by omega
            by_cases x2 : e < b
            · have x2z : (e : Int) < (b : Int) := by omega
              have hyt : Hid (y3 = true) := Lib.hid (by rw [HY3.out]; exact decide_eq_true ⟨x1, x2⟩)
              go_wp2
              go_meet
              exact ⟨by rw [hyt.out], rfl⟩
            · have x2z : ¬ (e : Int) < (b : Int) := by omega
              have hyt : Hid (y3 = false) := Lib.hid (by rw [HY3.out]; exact decide_eq_false fun h => x2 h.2)
              go_wp2
              go_meet
              exact ⟨by rw [hyt.out], rfl⟩
          · have x1z : ¬ (mid : Int) < (e : Int) := by omega
            have hyt : Hid (y3 = false) := Lib.hid (by rw [HY3.out]; exact decide_eq_false fun h => x1 h.1)
            go_wp2
            go_meet
            exact ⟨by rw [hyt.out], rfl⟩
      obtain ⟨rfl, rfl⟩ := hcut
      have HFIN : Hid (∀ w', StW pr st w0 base blk cap n (d2R (ltI cf) N mid e b D2) w' → StW pr st w0 base blk cap n (d2R (ltI cf) N mid (nm - cutR (ltI cf) L a m b) b (d2R (ltI cf) N a (cutR (ltI cf) L a m b) mid (d1R m (cutR (ltI cf) L a m b) (nm - cutR (ltI cf) L a m b) L))) w') := Lib.hid (fun w' hw' => by
        rw [← HI.out, ← HEE.out, ← HD1.out, ← HD2.out]
        exact hw')
      cases hv : y3
      · have hF : Hid (d2R (ltI cf) N mid e b D2 = D2) := Lib.hid (by unfold d2R; rw [if_neg]; rw [HY3.out] at hv; exact of_decide_eq_false hv)
        subst hv
        go_wp2
        go_end0
        exact ⟨rfl, HFIN.out _ (by rw [hF.out]; exact HE2.out)⟩
      · have hx : mid < e ∧ e < b := by rw [HY3.out] at hv; exact of_decide_eq_true hv
        have hF : Hid (d2R (ltI cf) N mid e b D2 = symR (ltI cf) N mid e b D2) := Lib.hid (by unfold d2R; rw [if_pos hx])
        have HSY := Lib.hid (HIH.out _ _ mid e b HE2.out hx.1 hx.2 (by omega) hml2)
        subst hv
        clear hx
        go_wp2_with (go_at_call 108; refine (HSY.out).mono ?_; rintro e' w6 ⟨rfl, hq⟩; have HQ6 := Lib.hid hq; clear hq)
        go_end0
        exact ⟨rfl, HFIN.out _ (by rw [hF.out]; exact HQ6.out)⟩
/-- symMerge does what the plain function does. -/
theorem sym_st (hc : CmpW g lb pr st cf w0 blk) (eg : ∀ args w, (callFunc g args).run Tryd.prog w = .ok (.enter g args) w) (hsz : n ≤ 1000000) : ∀ N, SymAt pr st w0 base blk cap n g lb cf N
  | 0 => fun W L a m b h h1 h2 h3 h4 => by omega
  | N + 1 => fun W L a m b h h1 h2 h3 h4 => by
    show Calls _ _ _ _ (StP pr st w0 base blk cap n (if m - a = 1 then upR L a (bsR (fun h => ltI cf (at_ L h) (at_ L a)) (b - a) m b - 1 - a)
      else if b - m = 1 then dnR L m (m - bsR (fun h => !ltI cf (at_ L m) (at_ L h)) (b - a) a m) else _))
    by_cases e1 : m - a = 1
    · rw [if_pos e1]
      obtain rfl : m = a + 1 := by omega
      exact sym_one h hc eg a b (by omega) h3 hsz
    rw [if_neg e1]
    by_cases e2 : b - m = 1
    · rw [if_pos e2]
      obtain rfl : b = m + 1 := by omega
      exact sym_two h hc eg a m h1 e1 h3 hsz
    rw [if_neg e2]
    exact sym_gen h hc eg a m b N h1 h2 e1 e2 h3 hsz h4 (sym_st hc eg hsz N)
end
end Go.Proofs.YtmgbmoiefgfemaaDoor

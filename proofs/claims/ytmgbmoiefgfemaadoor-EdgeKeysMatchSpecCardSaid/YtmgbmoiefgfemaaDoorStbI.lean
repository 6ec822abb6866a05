/- insertionSort of slices.SortStableFunc at strings: the walk. -/
import Derived.Test.YtmgbmoiefgfemaaDoorStbM
namespace Go.Proofs.YtmgbmoiefgfemaaDoor
open Go.RowKit
set_option linter.unusedSectionVars false

section
variable {α : Type} [Inhabited α]
variable {pr : α → Prop} {st : α → ByteArray} {w0 W : World} {base blk cap n : Nat} {L : List α} {g : Nat} {lb : Array Value} {cf : α → α → Int}

theorem insI_stop {lt : α → α → Bool} {a j : Nat} {l : List α} (h : j ≤ a) : insI lt a j l = l := by
  cases j with
  | zero => rfl
  | succ j =>
    show (if a < j + 1 ∧ lt (at_ l (j + 1)) (at_ l j) = true then _ else l) = l
    rw [if_neg (by omega)]
theorem insI_no {lt : α → α → Bool} {a j : Nat} {l : List α} (h : lt (at_ l (j + 1)) (at_ l j) = false) : insI lt a (j + 1) l = l := by
  show (if a < j + 1 ∧ lt (at_ l (j + 1)) (at_ l j) = true then _ else l) = l
  rw [if_neg (by simp [h])]
theorem insI_go {lt : α → α → Bool} {a j : Nat} {l : List α} (ha : a < j + 1) (h : lt (at_ l (j + 1)) (at_ l j) = true) : insI lt a (j + 1) l = insI lt a j (swL l (j + 1) j) := by
  show (if a < j + 1 ∧ lt (at_ l (j + 1)) (at_ l j) = true then insI lt a j (swL l (j + 1) j) else l) = _
  rw [if_pos ⟨ha, h⟩]
theorem insO_go {lt : α → α → Bool} {a b q i : Nat} {l : List α} (h : i < b) : insO lt a b (q + 1) i l = insO lt a b q (i + 1) (insI lt a i l) := by
  show (if i < b then _ else l) = _
  rw [if_pos h]
theorem insO_end {lt : α → α → Bool} {a b q i : Nat} {l : List α} (h : ¬ i < b) : insO lt a b q i l = l := by
  cases q with
  | zero => rfl
  | succ q =>
    show (if i < b then _ else l) = _
    rw [if_neg h]

set_option maxRecDepth 100000 in
set_option maxHeartbeats 4000000 in
theorem ins_st (h : StW pr st w0 base blk cap n L W) (hc : CmpW g lb pr st cf w0 blk) (eg : ∀ args w, (callFunc g args).run Tryd.prog w = .ok (.enter g args) w) (a b : Nat) (hab : a ≤ b) (hb : b ≤ n) (hsz : n ≤ 1000000) :
    Calls Tryd.prog 107 #[.slice (some ⟨blk, 0, none⟩) n cap, .int .i64 a, .int .i64 b, .func (.func g) #[] lb] W (StP pr st w0 base blk cap n (insB (ltI cf) a b L)) := by
  have HH := Lib.hid h
  have HC := Lib.hid hc
  have HEG := Lib.hid eg
  clear h hc eg
  go_enter Tryd.func107, Tryd.ntmps107
  go_wp2
  go_loopg [8] (b - a) (fun gg s8 wr => ∃ (i : Nat) (L1 : List α), a < i ∧ i ≤ b + 1 ∧ b - i ≤ gg ∧ s8 = .int .i64 i ∧ Aside (StW pr st w0 base blk cap n L1 wr) ∧ Aside (∃ q, b - i ≤ q ∧ insO (ltI cf) a b q i L1 = insB (ltI cf) a b L))
  case atStart => exact ⟨a + 1, L, by omega, by omega, by omega, by go_num, HH.out, (show Aside _ from ⟨b - a, by omega, rfl⟩)⟩
  case round =>
    obtain ⟨wo, rfl⟩ : ∃ wo : World, wo = wr := ⟨_, rfl⟩
    obtain ⟨i, L1, hai, hib, hgi, rfl, HE, HB⟩ := hrel
    by_cases hlt : i < b
    · have hltz : (i : Int) < (b : Int) := by omega
      obtain ⟨q, hq, hbs⟩ := HB.out
      obtain ⟨q, rfl⟩ : ∃ q', q = q' + 1 := ⟨q - 1, by omega⟩
      rw [insO_go hlt] at hbs
      have HBS := Lib.hid hbs
      clear hbs HB
      go_wp2
      go_loopg [9] i (fun g2 s9 wr => ∃ (j : Nat) (L2 : List α), a ≤ j ∧ j ≤ i ∧ j ≤ g2 ∧ s9 = .int .i64 j ∧ Aside (StW pr st w0 base blk cap n L2 wr) ∧ Aside (insI (ltI cf) a j L2 = insI (ltI cf) a i L1))
      case atStart => exact ⟨i, L1, by omega, by omega, by omega, rfl, HE.out, (show Aside _ from rfl)⟩
      case round =>
        obtain ⟨wi, rfl⟩ : ∃ wi : World, wi = wr := ⟨_, rfl⟩
        obtain ⟨j, L2, haj, hji, hg2, rfl, HE2, HI⟩ := hrel
        by_cases hja : a < j
        · have hjaz : (a : Int) < (j : Int) := by omega
          obtain ⟨jb, hjb⟩ : ∃ jb, jb = j - 1 := ⟨_, rfl⟩
          have hj1 : j = jb + 1 := by omega
          obtain ⟨ca, fa⟩ := HE2.out.cell (i := j) (by omega)
          obtain ⟨cb, fb⟩ := HE2.out.cell (i := jb) (by omega)
          have hbl := HE2.out.lt (by omega)
          have hl := HE2.out.len
          have hwb := wrapSub j 1 (by omega) (by omega)
          rw [← hjb] at hwb
          have hwb : IntKind.i64.wrap ((j : Int) - 1) = (jb : Int) := hwb
          have hcm := fun (W' : World) (hb : Below wi.heap.size wi W') => HC.out W' (HE2.out.onl.below hb) (at_ L2 j) (at_ L2 jb) (HE2.out.ok _ (at_mem (by omega))) (HE2.out.ok _ (at_mem (by omega)))
          obtain ⟨z, hz⟩ : ∃ z, z = cf (at_ L2 j) (at_ L2 jb) := ⟨_, rfl⟩
          have HSW := Lib.hid (fun W (h : StW pr st w0 base blk cap n L2 W) u v hu hv => h.swap (i := j) (j := jb) (u := u) (v := v) (by omega) (by omega) (by omega) hu hv)
          obtain ⟨sa, hsa⟩ : ∃ s, s = st (at_ L2 j) := ⟨_, rfl⟩
          obtain ⟨sb, hsb⟩ : ∃ s, s = st (at_ L2 jb) := ⟨_, rfl⟩
          have HSW2 := Lib.hid (fun W h => HSW.out W h sb sa hsb hsa)
          rw [← hsa] at ca hcm
          rw [← hsb] at cb hcm
          rw [← hz] at hcm
          have HCM := Lib.hid hcm
          have HZ := Lib.hid hz
          have HJ := Lib.hid hj1
          have hjz : (j : Int) < (n : Int) := by omega
          have hjbz : (jb : Int) < (n : Int) := by omega
          have hjn : j < n := by omega
          have hjbn : jb < n := by omega
          have hne : j ≠ jb := by omega
          clear hcm hz hsa hsb fa fb hl hj1 hjb HSW
          have HQ : Below wi.heap.size wi wi.drew := (Below.refl _ wi).drew
          go_upto_region 4 with (fail)
          go_cut [34] (fun s34 wc => s34 = .bool (decide (z < 0)) ∧ Aside (Below wi.heap.size wi wc))
          case first =>
            as_aux_lemma =>
              have eg := HEG.out
              go_region_held3 (fun W' => W'.cell? ⟨blk, j, none⟩ = some (.string sa) ∧ W'.cell? ⟨blk, jb, none⟩ = some (.string sb))
                (first | exact ⟨(HQ.cell (p := ⟨blk, j, none⟩) hbl).trans ca, (HQ.cell (p := ⟨blk, jb, none⟩) hbl).trans cb⟩ | fail)
                (first | (go_at_fn g; (with_reducible refine (HCM.out _ HQ).mono ?_); rintro e w' ⟨rfl, hb⟩; have HQ := HQ.trans (hb.mono HQ.size)) | fail)
              go_wp2
              go_meet
              exact ⟨rfl, HQ⟩
          obtain ⟨rfl, HQC⟩ := hcut
          have HE3 := Lib.hid (HE2.out.below HQC.out)
          clear HQ HCM HE2
          by_cases hv : z < 0
          · have hg := insI_go (lt := ltI cf) (l := L2) (show a < jb + 1 by have := HJ.out; omega) (by rw [← HJ.out]; show decide (cf _ _ < 0) = true; rw [← HZ.out]; exact decide_eq_true hv)
            rw [← HJ.out, HI.out] at hg
            have HG := Lib.hid hg
            have c1 := (HQC.out.cell (p := ⟨blk, j, none⟩) hbl).trans ca
            have c2 := (HQC.out.cell (p := ⟨blk, jb, none⟩) hbl).trans cb
            have f1 := (HE3.out.cell (i := j) hjn).2
            have f2 := (HE3.out.cell (i := jb) hjbn).2
            obtain ⟨wd, hwd⟩ : ∃ wd : World, wd = wc := ⟨_, rfl⟩
            rw [← hwd] at c1 c2 f1 f2 HE3 ⊢
            have HSW3 := Lib.hid (HSW2.out _ HE3.out)
            clear hg ca cb hbl hwd HQC
            go_upto_region 6 with (fail)
            go_big_region
            all_goals go_wp2
            all_goals
              go_roundg jb
              case measure => have := HJ.out; omega
              case rel => exact ⟨jb, swL L2 j jb, by have := HJ.out; omega, by have := HJ.out; omega, by omega, by first | rfl | go_num, (show Aside _ from HSW3.out.drew), (show Aside _ from HG.out.symm)⟩
          · have hg := insI_no (lt := ltI cf) (a := a) (l := L2) (j := jb) (by rw [← HJ.out]; show decide (cf _ _ < 0) = false; rw [← HZ.out]; exact decide_eq_false hv)
            rw [← HJ.out, HI.out] at hg
            have HG := Lib.hid hg
            clear hg ca cb hbl HQC
            go_wp2
            go_roundg (b - (i + 1))
            case measure => omega
            case rel => exact ⟨i + 1, L2, by omega, by omega, by omega, by go_num, HE3.out, (show Aside _ from ⟨q, by omega, by rw [← HG.out]; exact HBS.out⟩)⟩
        · have hjaz : ¬ (a : Int) < (j : Int) := by omega
          have hg := insI_stop (lt := ltI cf) (l := L2) (show j ≤ a by omega)
          rw [HI.out] at hg
          have HG := Lib.hid hg
          clear hg
          go_upto_region 4 with (fail)
          have hund : undef = Value.tuple #[] := rfl
          go_quiet (fail)
          clear hund
          have HE3 := Lib.hid (HE2.out.drewN nq)
          go_wp2
          go_roundg (b - (i + 1))
          case measure => omega
          case rel => exact ⟨i + 1, L2, by omega, by omega, by omega, by go_num, HE3.out, (show Aside _ from ⟨q, by omega, by rw [← HG.out]; exact HBS.out⟩)⟩
    · obtain ⟨q, hq, hbs⟩ := HB.out
      rw [insO_end hlt] at hbs
      have HBS := Lib.hid hbs
      have hltz : ¬ (i : Int) < (b : Int) := by omega
      clear hbs HB
      go_wp2
      go_end0
      exact ⟨rfl, by rw [← HBS.out]; exact HE.out⟩
end
end Go.Proofs.YtmgbmoiefgfemaaDoor

/- symMerge of slices.SortStableFunc at strings: the walk. -/
import Derived.Test.YteepbfpcdhdgfaaDoorG09
import Derived.Deep.RegionHeld3
namespace Go.Proofs.YteepbfpcdhdgfaaDoor
open Go.RowKit
set_option linter.unusedSectionVars false

section
variable {α : Type} [Inhabited α]

/-- What is asked of a comparison: it may lay new memory. -/
def CmpW (g : Nat) (lb : Array Value) (pr : α → Prop) (st : α → ByteArray) (cf : α → α → Int) (w0 : World) (blk : Nat) : Prop :=
  ∀ W, Onl blk w0 W → ∀ x y, pr x → pr y → Calls Tryd.prog g (#[.string (st x), .string (st y)] ++ lb) W fun e w' => e = .returned (.int .i64 (cf x y)) ∧ Below W.heap.size W w'
def ltI (cf : α → α → Int) (x y : α) : Bool := decide (cf x y < 0)
variable {pr : α → Prop} {st : α → ByteArray} {w0 W : World} {base blk cap n : Nat} {L : List α} {g : Nat} {lb : Array Value} {cf : α → α → Int}

theorem bsR_yes {p : Nat → Bool} {q i j t : Nat} (ht : t = (i + j) / 2) (hlt : i < j) (hp : p t = true) : bsR p (q + 1) i j = bsR p q (t + 1) j := by
  subst ht
  show (if i < j then (if p ((i + j) / 2) = true then bsR p q ((i + j) / 2 + 1) j else bsR p q i ((i + j) / 2)) else i) = _
  rw [if_pos hlt, if_pos hp]
theorem bsR_not {p : Nat → Bool} {q i j t : Nat} (ht : t = (i + j) / 2) (hlt : i < j) (hp : p t = false) : bsR p (q + 1) i j = bsR p q i t := by
  subst ht
  show (if i < j then (if p ((i + j) / 2) = true then bsR p q ((i + j) / 2 + 1) j else bsR p q i ((i + j) / 2)) else i) = _
  rw [if_pos hlt, if_neg (by simp [hp])]
theorem bsR_end (p : Nat → Bool) (q i : Nat) : bsR p q i i = i := by
  cases q with
  | zero => rfl
  | succ q =>
    show (if i < i then _ else i) = i
    rw [if_neg (by omega)]
set_option maxRecDepth 100000 in
set_option maxHeartbeats 4000000 in
theorem sym_one (h : StW pr st w0 base blk cap n L W) (hc : CmpW g lb pr st cf w0 blk) (eg : ∀ args w, (callFunc g args).run Tryd.prog w = .ok (.enter g args) w) (a b : Nat) (hab : a + 1 < b) (hb : b ≤ n) (hsz : n ≤ 1000000) :
    Calls Tryd.prog 66 #[.slice (some ⟨blk, 0, none⟩) n cap, .int .i64 a, .int .i64 ((a + 1 : Nat) : Int), .int .i64 b, .func (.func g) #[] lb] W (StP pr st w0 base blk cap n (upR L a (bsR (fun h => ltI cf (at_ L h) (at_ L a)) (b - a) (a + 1) b - 1 - a))) := by
  have HH := Lib.hid h
  have HC := Lib.hid hc
  have HEG := Lib.hid eg
  clear h hc
  have hwa : IntKind.i64.wrap (((a + 1 : Nat) : Int) - (a : Int)) = 1 := by rw [show ((a + 1 : Nat) : Int) - (a : Int) = 1 by omega]; rfl
  obtain ⟨m, hm⟩ : ∃ m, m = a + 1 := ⟨_, rfl⟩
  have HM := Lib.hid hm
  rw [← hm] at hwa hab ⊢
  clear hm
  obtain ⟨p, hp⟩ : ∃ p, p = fun h => ltI cf (at_ L h) (at_ L a) := ⟨_, rfl⟩
  rw [← hp]
  have HP := Lib.hid hp
  clear hp eg
  go_enter Tryd.func66, Tryd.ntmps66
  go_wp2
  go_loopg [10, 11] (b - a) (fun gg s10 s11 wr => ∃ (i j : Nat), m ≤ i ∧ i ≤ j ∧ j ≤ b ∧ j - i ≤ gg ∧ s10 = .int .i64 i ∧ s11 = .int .i64 j ∧ Aside (StW pr st w0 base blk cap n L wr) ∧ Aside (∃ q, j - i ≤ q ∧ bsR p q i j = bsR p (b - a) m b))
  case atStart => exact ⟨m, b, by omega, by omega, by omega, by have := HM.out; omega, rfl, rfl, HH.out, (show Aside _ from ⟨b - a, by have := HM.out; omega, rfl⟩)⟩
  case round =>
    obtain ⟨wi, rfl⟩ : ∃ wi : World, wi = wr := ⟨_, rfl⟩
    obtain ⟨i, j, hi, hij, hj, hg, rfl, rfl, HE, HB⟩ := hrel
    by_cases hlt : i < j
    · have hltz : (i : Int) < (j : Int) := by omega
      go_upto_region 4 with (fail)
      go_cut [12] (fun s12 wc => s12 = .int .i64 (((i + j) / 2 : Nat) : Int) ∧ wi = wc)
      case first =>
        go_wp2
        go_meet
        exact ⟨by rw [show (((i + j) / 2 : Nat) : Int) = ((i : Int) + (j : Int)) / 2 by omega], rfl⟩
      obtain ⟨rfl, rfl⟩ := hcut
      obtain ⟨t, ht⟩ : ∃ t, t = (i + j) / 2 := ⟨_, rfl⟩
      rw [← ht]
      have HT := Lib.hid ht
      have ht1 : i ≤ t ∧ t < j := by omega
      obtain ⟨ht1, ht2⟩ := ht1
      clear ht
      have hma := HM.out
      obtain ⟨ct, ft⟩ := HE.out.cell (i := t) (by omega)
      obtain ⟨ca, fa⟩ := HE.out.cell (i := a) (by omega)
      have hbl := HE.out.lt (by omega)
      have hl := HE.out.len
      have hcm := fun (W' : World) (hb : Below wi.heap.size wi W') => HC.out W' (HE.out.onl.below hb) (at_ L t) (at_ L a) (HE.out.ok _ (at_mem (by omega))) (HE.out.ok _ (at_mem (by omega)))
      obtain ⟨z, hz⟩ : ∃ z, z = cf (at_ L t) (at_ L a) := ⟨_, rfl⟩
      obtain ⟨sa, hsa⟩ : ∃ s, s = st (at_ L a) := ⟨_, rfl⟩
      obtain ⟨sh, hsh⟩ : ∃ s, s = st (at_ L t) := ⟨_, rfl⟩
      rw [← hsa] at ca hcm
      rw [← hsh] at ct hcm
      rw [← hz] at hcm
      have HCM := Lib.hid hcm
      have HPT : Hid (p t = decide (z < 0)) := Lib.hid (by rw [HP.out, hz]; rfl)
      have htz : (t : Int) < (n : Int) := by omega
      have haz : (a : Int) < (n : Int) := by omega
      clear hcm hz hsa hsh ft fa hl hma
      have HQ : Below wi.heap.size wi wi.drew := (Below.refl _ wi).drew
      go_upto_region 5 with (fail)
      go_cut [50] (fun s50 wc => s50 = .bool (decide (z < 0)) ∧ Aside (Below wi.heap.size wi wc))
      case first =>
        have eg := HEG.out
        go_region_held3 (fun W' => W'.cell? ⟨blk, t, none⟩ = some (.string sh) ∧ W'.cell? ⟨blk, a, none⟩ = some (.string sa))
          (first | exact ⟨(HQ.cell (p := ⟨blk, t, none⟩) hbl).trans ct, (HQ.cell (p := ⟨blk, a, none⟩) hbl).trans ca⟩ | fail)
          (first | (go_at_fn g; (with_reducible refine (HCM.out _ HQ).mono ?_); rintro e w' ⟨rfl, hb⟩; have HQ := HQ.trans (hb.mono HQ.size)) | fail)
        go_wp2
        go_meet
        exact ⟨rfl, HQ⟩
      obtain ⟨rfl, HQC⟩ := hcut
      have HE2 := Lib.hid (HE.out.below HQC.out)
      obtain ⟨q, hq, hbs⟩ := HB.out
      obtain ⟨q, rfl⟩ : ∃ q', q = q' + 1 := ⟨q - 1, by omega⟩
      have HBS := Lib.hid hbs
      clear hbs HQC HQ ct ca HE HB HCM
      by_cases hv : z < 0
      · have hb2 := bsR_yes (q := q) HT.out hlt (show p t = true by rw [HPT.out]; simpa using hv)
        rw [HBS.out] at hb2
        have HB2 := Lib.hid hb2
        clear hb2
        go_wp2
        go_roundg (j - (t + 1))
        case measure => omega
        case rel => exact ⟨t + 1, j, by omega, by omega, by omega, by omega, by go_num, rfl, HE2.out, (show Aside _ from ⟨q, by omega, HB2.out.symm⟩)⟩
      · have hb2 := bsR_not (q := q) HT.out hlt (show p t = false by rw [HPT.out]; simpa using hv)
        rw [HBS.out] at hb2
        have HB2 := Lib.hid hb2
        clear hb2
        go_wp2
        go_roundg (t - i)
        case measure => omega
        case rel => exact ⟨i, t, by omega, by omega, by omega, by omega, rfl, rfl, HE2.out, (show Aside _ from ⟨q, by omega, HB2.out.symm⟩)⟩
    · obtain rfl : i = j := by omega
      obtain ⟨q, _, hbs⟩ := HB.out
      rw [bsR_end] at hbs
      have HI := Lib.hid hbs
      have hma := HM.out
      have hwi : IntKind.i64.wrap ((i : Int) - 1) = (i : Int) - 1 := IntWalk.i64_in _ (by omega)
      clear hbs HB
      go_wp2
      go_loopg [13] i (fun gg s13 wr => ∃ k : Nat, a + k + 1 ≤ i ∧ i - k ≤ gg ∧ s13 = .int .i64 ((a + k : Nat) : Int) ∧ Aside (StW pr st w0 base blk cap n (upR L a k) wr))
      case atStart => exact ⟨0, by omega, by omega, rfl, HE.out⟩
      case round =>
        obtain ⟨wq, rfl⟩ : ∃ wq : World, wq = wr := ⟨_, rfl⟩
        obtain ⟨k, hk, hgk, rfl, HU⟩ := hrel
        obtain ⟨ja, hja⟩ : ∃ ja, ja = a + k := ⟨_, rfl⟩
        rw [← hja]
        by_cases hkl : ja + 1 < i
        · have hkz : (ja : Int) < (i : Int) - 1 := by omega
          obtain ⟨jb, hjb⟩ : ∃ jb, jb = ja + 1 := ⟨_, rfl⟩
          obtain ⟨ca, fa⟩ := HU.out.cell (i := ja) (by omega)
          obtain ⟨cb, fb⟩ := HU.out.cell (i := jb) (by omega)
          have HSW := Lib.hid (fun u v hu hv => HU.out.swap (i := ja) (j := jb) (u := u) (v := v) (by omega) (by omega) (by omega) hu hv)
          obtain ⟨sa, hsa⟩ : ∃ s, s = st (at_ (upR L a k) ja) := ⟨_, rfl⟩
          obtain ⟨sb, hsb⟩ : ∃ s, s = st (at_ (upR L a k) jb) := ⟨_, rfl⟩
          rw [← hsa] at ca
          rw [← hsb] at cb
          have HSW2 := Lib.hid (HSW.out sb sa hsb hsa)
          have hwb : IntKind.i64.wrap ((ja : Int) + 1) = (jb : Int) := by rw [show (ja : Int) + 1 = (jb : Int) by omega]; exact IntWalk.i64_in _ (by omega)
          have hai : ja < n := by omega
          have hbi : jb < n := by omega
          have hne : ja ≠ jb := by omega
          have hja0 : (0 : Int) ≤ (ja : Int) := by omega
          have hjb0 : (0 : Int) ≤ (jb : Int) := by omega
          have hjaz : (ja : Int) < (n : Int) := by omega
          have hjbz : (jb : Int) < (n : Int) := by omega
          have HJ := Lib.hid (And.intro hja hjb)
          clear hja hjb hsa hsb HSW HU hma
          go_upto_region 11 with (fail)
          go_big_region
          all_goals go_wp2
          all_goals
            go_roundg (i - (k + 1))
            case measure => omega
            case rel => exact ⟨k + 1, by have := HJ.out; omega, by omega, by have := HJ.out; first | rfl | (congr 1; omega), (show Aside _ from by
              show StW pr st w0 base blk cap n (swL (upR L a k) (a + k) (a + k + 1)) _
              rw [← HJ.out.1, ← HJ.out.2]
              exact HSW2.out.drew)⟩
        · have hkz : ¬ (ja : Int) < (i : Int) - 1 := by omega
          have HK : Hid (i - 1 - a = k) := Lib.hid (by omega)
          go_wp2
          go_end0
          exact ⟨rfl, by rw [← HM.out, ← HI.out, HK.out]; exact HU.out⟩
set_option maxRecDepth 100000 in
set_option maxHeartbeats 4000000 in
theorem sym_two (h : StW pr st w0 base blk cap n L W) (hc : CmpW g lb pr st cf w0 blk) (eg : ∀ args w, (callFunc g args).run Tryd.prog w = .ok (.enter g args) w) (a m : Nat) (ham : a < m) (hma1 : m - a ≠ 1) (hb : m + 1 ≤ n) (hsz : n ≤ 1000000) :
    Calls Tryd.prog 66 #[.slice (some ⟨blk, 0, none⟩) n cap, .int .i64 a, .int .i64 m, .int .i64 ((m + 1 : Nat) : Int), .func (.func g) #[] lb] W (StP pr st w0 base blk cap n (dnR L m (m - bsR (fun h => !ltI cf (at_ L m) (at_ L h)) (m + 1 - a) a m))) := by
  have HH := Lib.hid h
  have HC := Lib.hid hc
  have HEG := Lib.hid eg
  clear h hc
  have hwa := wrapSub m a (by omega) (by omega)
  have hwa1 : (((m - a : Nat) : Int) == 1) = false := by rw [beq_eq_false_iff_ne]; omega
  have hwb : IntKind.i64.wrap (((m + 1 : Nat) : Int) - (m : Int)) = 1 := by rw [show ((m + 1 : Nat) : Int) - (m : Int) = 1 by omega]; rfl
  obtain ⟨b, hm⟩ : ∃ b, b = m + 1 := ⟨_, rfl⟩
  have HM := Lib.hid hm
  rw [← hm] at hwb hb ⊢
  have hmn : m < n := by omega
  clear hm
  obtain ⟨p, hp⟩ : ∃ p, p = fun h => !ltI cf (at_ L m) (at_ L h) := ⟨_, rfl⟩
  rw [← hp]
  have HP := Lib.hid hp
  clear hp eg hma1
  go_enter Tryd.func66, Tryd.ntmps66
  go_wp2
  go_loopg [14, 15] (b - a) (fun gg s14 s15 wr => ∃ (i j : Nat), a ≤ i ∧ i ≤ j ∧ j ≤ m ∧ j - i ≤ gg ∧ s14 = .int .i64 i ∧ s15 = .int .i64 j ∧ Aside (StW pr st w0 base blk cap n L wr) ∧ Aside (∃ q, j - i ≤ q ∧ bsR p q i j = bsR p (b - a) a m))
  case atStart => exact ⟨a, m, by omega, by omega, by omega, by have := HM.out; omega, rfl, rfl, HH.out, (show Aside _ from ⟨b - a, by have := HM.out; omega, rfl⟩)⟩
  case round =>
    obtain ⟨wi, rfl⟩ : ∃ wi : World, wi = wr := ⟨_, rfl⟩
    obtain ⟨i, j, hi, hij, hj, hg, rfl, rfl, HE, HB⟩ := hrel
    by_cases hlt : i < j
    · have hltz : (i : Int) < (j : Int) := by omega
      go_upto_region 16 with (fail)
      go_cut [16] (fun s16 wc => s16 = .int .i64 (((i + j) / 2 : Nat) : Int) ∧ wi = wc)
      case first =>
        go_wp2
        go_meet
        exact ⟨by rw [show (((i + j) / 2 : Nat) : Int) = ((i : Int) + (j : Int)) / 2 by omega], rfl⟩
      obtain ⟨rfl, rfl⟩ := hcut
      obtain ⟨t, ht⟩ : ∃ t, t = (i + j) / 2 := ⟨_, rfl⟩
      rw [← ht]
      have HT := Lib.hid ht
      have ht1 : i ≤ t ∧ t < j := by omega
      obtain ⟨ht1, ht2⟩ := ht1
      clear ht
      have hma := HM.out
      obtain ⟨ct, ft⟩ := HE.out.cell (i := t) (by omega)
      obtain ⟨ca, fa⟩ := HE.out.cell (i := m) (by omega)
      have hbl := HE.out.lt (by omega)
      have hl := HE.out.len
      have hcm := fun (W' : World) (hb : Below wi.heap.size wi W') => HC.out W' (HE.out.onl.below hb) (at_ L m) (at_ L t) (HE.out.ok _ (at_mem (by omega))) (HE.out.ok _ (at_mem (by omega)))
      obtain ⟨z, hz⟩ : ∃ z, z = cf (at_ L m) (at_ L t) := ⟨_, rfl⟩
      obtain ⟨sa, hsa⟩ : ∃ s, s = st (at_ L m) := ⟨_, rfl⟩
      obtain ⟨sh, hsh⟩ : ∃ s, s = st (at_ L t) := ⟨_, rfl⟩
      rw [← hsa] at ca hcm
      rw [← hsh] at ct hcm
      rw [← hz] at hcm
      have HCM := Lib.hid hcm
      obtain ⟨y, hy⟩ : ∃ y, y = p t := ⟨_, rfl⟩
      have HPT : Hid (y = !decide (z < 0)) := Lib.hid (by rw [hy, HP.out, hz]; rfl)
      have HY := Lib.hid hy
      have htz : (t : Int) < (n : Int) := by omega
      have haz : (m : Int) < (n : Int) := by omega
      clear hcm hz hsa hsh ft fa hl hma hy
      have HQ : Below wi.heap.size wi wi.drew := (Below.refl _ wi).drew
      go_upto_region 17 with (fail)
      go_cut [103] (fun s103 wc => s103 = .bool y ∧ Aside (Below wi.heap.size wi wc))
      case first =>
        have eg := HEG.out
        go_region_held3 (fun W' => W'.cell? ⟨blk, t, none⟩ = some (.string sh) ∧ W'.cell? ⟨blk, m, none⟩ = some (.string sa))
          (first | exact ⟨(HQ.cell (p := ⟨blk, t, none⟩) hbl).trans ct, (HQ.cell (p := ⟨blk, m, none⟩) hbl).trans ca⟩ | fail)
          (first | (go_at_fn g; (with_reducible refine (HCM.out _ HQ).mono ?_); rintro e w' ⟨rfl, hb⟩; have HQ := HQ.trans (hb.mono HQ.size)) | fail)
        go_wp2
        go_meet
        exact ⟨by rw [HPT.out] <;> first | rfl | simp, HQ⟩
      obtain ⟨rfl, HQC⟩ := hcut
      have HE2 := Lib.hid (HE.out.below HQC.out)
      obtain ⟨q, hq, hbs⟩ := HB.out
      obtain ⟨q, rfl⟩ : ∃ q', q = q' + 1 := ⟨q - 1, by omega⟩
      have HBS := Lib.hid hbs
      clear hbs HQC HQ ct ca HE HB HCM
      cases hv : y
      · have hb2 := bsR_not (q := q) HT.out hlt (show p t = false by rw [← HY.out]; exact hv)
        rw [HBS.out] at hb2
        have HB2 := Lib.hid hb2
        clear hb2
        subst hv
        go_wp2
        go_roundg (t - i)
        case measure => omega
        case rel => exact ⟨i, t, by omega, by omega, by omega, by omega, rfl, rfl, HE2.out, (show Aside _ from ⟨q, by omega, HB2.out.symm⟩)⟩
      · have hb2 := bsR_yes (q := q) HT.out hlt (show p t = true by rw [← HY.out]; exact hv)
        rw [HBS.out] at hb2
        have HB2 := Lib.hid hb2
        clear hb2
        subst hv
        go_wp2
        go_roundg (j - (t + 1))
        case measure => omega
        case rel => exact ⟨t + 1, j, by omega, by omega, by omega, by omega, by go_num, rfl, HE2.out, (show Aside _ from ⟨q, by omega, HB2.out.symm⟩)⟩
    · obtain rfl : i = j := by omega
      obtain ⟨q, _, hbs⟩ := HB.out
      rw [bsR_end] at hbs
      have HI := Lib.hid hbs
      have hma := HM.out
      clear hbs HB
      go_wp2
      go_loopg [17] m (fun gg s17 wr => ∃ k : Nat, i + k ≤ m ∧ m - k ≤ gg ∧ s17 = .int .i64 ((m - k : Nat) : Int) ∧ Aside (StW pr st w0 base blk cap n (dnR L m k) wr))
      case atStart => exact ⟨0, by omega, by omega, rfl, HE.out⟩
      case round =>
        obtain ⟨wq, rfl⟩ : ∃ wq : World, wq = wr := ⟨_, rfl⟩
        obtain ⟨k, hk, hgk, rfl, HU⟩ := hrel
        obtain ⟨ja, hja⟩ : ∃ ja, ja = m - k := ⟨_, rfl⟩
        rw [← hja]
        by_cases hkl : i < ja
        · have hkz : (i : Int) < (ja : Int) := by omega
          obtain ⟨jb, hjb⟩ : ∃ jb, jb = ja - 1 := ⟨_, rfl⟩
          obtain ⟨ca, fa⟩ := HU.out.cell (i := ja) (by omega)
          obtain ⟨cb, fb⟩ := HU.out.cell (i := jb) (by omega)
          have HSW := Lib.hid (fun u v hu hv => HU.out.swap (i := ja) (j := jb) (u := u) (v := v) (by omega) (by omega) (by omega) hu hv)
          obtain ⟨sa, hsa⟩ : ∃ s, s = st (at_ (dnR L m k) ja) := ⟨_, rfl⟩
          obtain ⟨sb, hsb⟩ : ∃ s, s = st (at_ (dnR L m k) jb) := ⟨_, rfl⟩
          rw [← hsa] at ca
          rw [← hsb] at cb
          have HSW2 := Lib.hid (HSW.out sb sa hsb hsa)
          have hwb1 : IntKind.i64.wrap ((ja : Int) - 1) = (jb : Int) := by rw [show (ja : Int) - 1 = (jb : Int) by omega]; exact IntWalk.i64_in _ (by omega)
          have hai : ja < n := by omega
          have hbi : jb < n := by omega
          have hne : ja ≠ jb := by omega
          have hja0 : (0 : Int) ≤ (ja : Int) := by omega
          have hjb0 : (0 : Int) ≤ (jb : Int) := by omega
          have hjaz : (ja : Int) < (n : Int) := by omega
          have hjbz : (jb : Int) < (n : Int) := by omega
          have HJ := Lib.hid (And.intro hja hjb)
          clear hja hjb hsa hsb HSW HU hma
          go_upto_region 23 with (fail)
          go_big_region
          all_goals go_wp2
          all_goals
            go_roundg (m - (k + 1))
            case measure => have := HJ.out; omega
            case rel => exact ⟨k + 1, by have := HJ.out; omega, by have := HJ.out; omega, by have := HJ.out; first | rfl | (congr 1; omega), (show Aside _ from by
              show StW pr st w0 base blk cap n (swL (dnR L m k) (m - k) (m - k - 1)) _
              rw [← HJ.out.1, ← HJ.out.2]
              exact HSW2.out.drew)⟩
        · have hkz : ¬ (i : Int) < (ja : Int) := by omega
          have HK : Hid (m - i = k) := Lib.hid (by omega)
          go_wp2
          go_end0
          exact ⟨rfl, by rw [← HM.out, ← HI.out, HK.out]; exact HU.out⟩
end
end Go.Proofs.YteepbfpcdhdgfaaDoor

/- symMerge of slices.SortStableFunc at strings, whole. -/
namespace Go.Proofs.YteepbfpcdhdgfaaDoor
open Go.RowKit
set_option linter.unusedSectionVars false

section
variable {α : Type} [Inhabited α]
variable {pr : α → Prop} {st : α → ByteArray} {w0 W : World} {base blk cap n : Nat} {L : List α} {g : Nat} {lb : Array Value} {cf : α → α → Int}

/-- What symMerge is said to do, one call deep. -/
def SymAt (pr : α → Prop) (st : α → ByteArray) (w0 : World) (base blk cap n g : Nat) (lb : Array Value) (cf : α → α → Int) (N : Nat) : Prop :=
  ∀ (W : World) (L : List α) (a m b : Nat), StW pr st w0 base blk cap n L W → a < m → m < b → b ≤ n → b - a ≤ N →
    Calls Tryd.prog 66 #[.slice (some ⟨blk, 0, none⟩) n cap, .int .i64 a, .int .i64 m, .int .i64 b, .func (.func g) #[] lb] W (StP pr st w0 base blk cap n (symR (ltI cf) N a m b L))
def d1R (m s e : Nat) (L : List α) : List α := if s < m ∧ m < e then rotR m (e - s) (m - s) (e - m) L else L
def d2R (lt : α → α → Bool) (N a s mid : Nat) (L : List α) : List α := if a < s ∧ s < mid then symR lt N a s mid L else L

set_option maxRecDepth 100000 in
set_option maxHeartbeats 8000000 in
theorem sym_gen (h : StW pr st w0 base blk cap n L W) (hc : CmpW g lb pr st cf w0 blk) (eg : ∀ args w, (callFunc g args).run Tryd.prog w = .ok (.enter g args) w) (a m b N : Nat) (ham : a < m) (hmb : m < b) (hma1 : m - a ≠ 1) (hbm1 : b - m ≠ 1) (hb : b ≤ n) (hsz : n ≤ 1000000) (hN : b - a ≤ N + 1)
    (IH : SymAt pr st w0 base blk cap n g lb cf N) :
    Calls Tryd.prog 66 #[.slice (some ⟨blk, 0, none⟩) n cap, .int .i64 a, .int .i64 m, .int .i64 b, .func (.func g) #[] lb] W (StP pr st w0 base blk cap n (d2R (ltI cf) N ((a + b) / 2) ((a + b) / 2 + m - cutR (ltI cf) L a m b) b (d2R (ltI cf) N a (cutR (ltI cf) L a m b) ((a + b) / 2) (d1R m (cutR (ltI cf) L a m b) ((a + b) / 2 + m - cutR (ltI cf) L a m b) L)))) := by
  have HH := Lib.hid h
  have HC := Lib.hid hc
  have HEG := Lib.hid eg
  have HIH := Lib.hid IH
  clear h hc eg IH
  have hwa := wrapSub m a (by omega) (by omega)
  have hwa1 : (((m - a : Nat) : Int) == 1) = false := by rw [beq_eq_false_iff_ne]; omega
  have hwb := wrapSub b m (by omega) (by omega)
  have hwb1 : (((b - m : Nat) : Int) == 1) = false := by rw [beq_eq_false_iff_ne]; omega
  obtain ⟨mid, hmid⟩ : ∃ mid, mid = (a + b) / 2 := ⟨_, rfl⟩
  obtain ⟨nm, hnm⟩ : ∃ nm, nm = mid + m := ⟨_, rfl⟩
  obtain ⟨pm, hpm⟩ : ∃ pm, pm = nm - 1 := ⟨_, rfl⟩
  obtain ⟨lo, hlo⟩ : ∃ lo, lo = if mid < m then mid + m - b else a := ⟨_, rfl⟩
  obtain ⟨hi, hhi⟩ : ∃ hi, hi = if mid < m then mid else m := ⟨_, rfl⟩
  have hb1 : a ≤ lo ∧ lo ≤ hi ∧ hi ≤ m ∧ nm - hi ≥ m ∧ nm - lo ≤ b ∧ hi ≤ mid ∧ lo + b ≥ nm := by
    rw [hlo, hhi]
    split <;> omega
  obtain ⟨q, hq⟩ : ∃ q, q = fun c => !ltI cf (at_ L (pm - c)) (at_ L c) := ⟨_, rfl⟩
  have HCUT : Hid (cutR (ltI cf) L a m b = bsR q (b - a) lo hi) := Lib.hid (by
    unfold cutR
    rw [← hmid, ← hlo, ← hhi, hq, hpm, hnm])
  have HQ := Lib.hid hq
  have HLO := Lib.hid hlo
  have HHI := Lib.hid hhi
  have HMID := Lib.hid hmid
  rw [← hmid, ← hnm]
  have hmid1 : a < mid ∧ mid < b := by omega
  obtain ⟨hmid1, hmid2⟩ := hmid1
  obtain ⟨b1, b2, b3, b4, b5, b6, b7⟩ := hb1
  have hwn : IntKind.i64.wrap ((mid : Int) + (m : Int)) = (nm : Int) := by rw [show (mid : Int) + (m : Int) = (nm : Int) by omega]; exact IntWalk.i64_in _ (by omega)
  have hwp : IntKind.i64.wrap ((nm : Int) - 1) = (pm : Int) := by rw [show (nm : Int) - 1 = (pm : Int) by omega]; exact IntWalk.i64_in _ (by omega)
  have hnmb : nm ≤ 2000000 := by omega
  have HNM := Lib.hid hnm
  have HPM := Lib.hid hpm
  clear hq hlo hhi hmid hnm hpm hma1 hbm1
  go_enter Tryd.func66, Tryd.ntmps66
  go_upto_region 24 with (fail)
  go_cut [18] (fun s18 wc => s18 = .int .i64 mid ∧ W = wc)
  case first =>
    as_aux_lemma =>
      go_wp2
      go_meet
      exact ⟨by rw [show ((mid : Nat) : Int) = ((a : Int) + (b : Int)) / 2 by have := HMID.out; omega], rfl⟩
  obtain ⟨rfl, rfl⟩ := hcut
  go_upto_if 140 with (fail)
  go_cut [20, 21] (fun s20 s21 wc => s20 = .int .i64 lo ∧ s21 = .int .i64 hi ∧ W = wc)
  case first =>
    as_aux_lemma =>
      by_cases hmm : mid < m
      · have e1 : lo = nm - b := by rw [HLO.out, if_pos hmm, HNM.out]
        have e2 : hi = mid := by rw [HHI.out, if_pos hmm]
        have hw := wrapSub nm b (by have := HMID.out; have := HNM.out; omega) (by omega)
        rw [← e1] at hw
        have hmz : (mid : Int) < (m : Int) := by omega
        clear e1
        go_wp2
        go_meet
        exact ⟨rfl, by rw [e2], rfl⟩
      · have e1 : lo = a := by rw [HLO.out, if_neg hmm]
        have e2 : hi = m := by rw [HHI.out, if_neg hmm]
        have hmz : ¬ (mid : Int) < (m : Int) := by omega
        go_wp2
        go_meet
        exact ⟨by rw [e1], by rw [e2], rfl⟩
  obtain ⟨rfl, rfl, rfl⟩ := hcut
  go_wp2
  go_loopg [20, 21] (b - a) (fun gg s20 s21 wr => ∃ (i j : Nat), lo ≤ i ∧ i ≤ j ∧ j ≤ hi ∧ j - i ≤ gg ∧ s20 = .int .i64 i ∧ s21 = .int .i64 j ∧ Aside (StW pr st w0 base blk cap n L wr) ∧ Aside (∃ k, j - i ≤ k ∧ bsR q k i j = bsR q (b - a) lo hi))
  case atStart => exact ⟨lo, hi, by omega, by omega, by omega, by omega, rfl, rfl, HH.out, (show Aside _ from ⟨b - a, by omega, rfl⟩)⟩
  case round =>
    obtain ⟨wi, rfl⟩ : ∃ wi : World, wi = wr := ⟨_, rfl⟩
    obtain ⟨i, j, hi1, hij, hj, hg, rfl, rfl, HE, HB⟩ := hrel
    by_cases hlt : i < j
    · have hltz : (i : Int) < (j : Int) := by omega
      go_upto_region 34 with (fail)
      go_cut [23] (fun s23 wc => s23 = .int .i64 (((i + j) / 2 : Nat) : Int) ∧ wi = wc)
      case first =>
        as_aux_lemma =>
          go_wp2
          go_meet
          exact ⟨by rw [show (((i + j) / 2 : Nat) : Int) = ((i : Int) + (j : Int)) / 2 by omega], rfl⟩
      obtain ⟨rfl, rfl⟩ := hcut
      obtain ⟨t, ht⟩ : ∃ t, t = (i + j) / 2 := ⟨_, rfl⟩
      rw [← ht]
      have HT := Lib.hid ht
      have ht1 : i ≤ t ∧ t < j := by omega
      obtain ⟨ht1, ht2⟩ := ht1
      clear ht
      obtain ⟨pc, hpc⟩ : ∃ pc, pc = pm - t := ⟨_, rfl⟩
      have hpn : pc < n ∧ t ≤ pm := by have := HPM.out; have := HNM.out; omega
      obtain ⟨hpn, htp⟩ := hpn
      have hwc := wrapSub pm t htp (by have := HPM.out; omega)
      rw [← hpc] at hwc
      obtain ⟨ct, ft⟩ := HE.out.cell (i := t) (by omega)
      obtain ⟨ca, fa⟩ := HE.out.cell (i := pc) hpn
      have hbl := HE.out.lt (by omega)
      have hl := HE.out.len
      have hcm := fun (W' : World) (hb : Below wi.heap.size wi W') => HC.out W' (HE.out.onl.below hb) (at_ L pc) (at_ L t) (HE.out.ok _ (at_mem (by omega))) (HE.out.ok _ (at_mem (by omega)))
      obtain ⟨z, hz⟩ : ∃ z, z = cf (at_ L pc) (at_ L t) := ⟨_, rfl⟩
      obtain ⟨sa, hsa⟩ : ∃ s, s = st (at_ L pc) := ⟨_, rfl⟩
      obtain ⟨sh, hsh⟩ : ∃ s, s = st (at_ L t) := ⟨_, rfl⟩
      rw [← hsa] at ca hcm
      rw [← hsh] at ct hcm
      rw [← hz] at hcm
      have HCM := Lib.hid hcm
      obtain ⟨y, hy⟩ : ∃ y, y = q t := ⟨_, rfl⟩
      have HPT : Hid (y = !decide (z < 0)) := Lib.hid (by rw [hy, HQ.out, hz, hpc]; rfl)
      have HY := Lib.hid hy
      have htz : (t : Int) < (n : Int) := by omega
      have haz : (pc : Int) < (n : Int) := by omega
      clear hcm hz hsa hsh ft fa hl hy hpc
      have HQ1 : Below wi.heap.size wi wi.drew := (Below.refl _ wi).drew
      go_upto_region 35 with (fail)
      go_cut [171] (fun s171 wc => s171 = .bool y ∧ Aside (Below wi.heap.size wi wc))
      case first =>
        as_aux_lemma =>
          have eg := HEG.out
          go_region_held3 (fun W' => W'.cell? ⟨blk, t, none⟩ = some (.string sh) ∧ W'.cell? ⟨blk, pc, none⟩ = some (.string sa))
            (first | exact ⟨(HQ1.cell (p := ⟨blk, t, none⟩) hbl).trans ct, (HQ1.cell (p := ⟨blk, pc, none⟩) hbl).trans ca⟩ | fail)
            (first | (go_at_fn g; (with_reducible refine (HCM.out _ HQ1).mono ?_); rintro e w' ⟨rfl, hb⟩; have HQ1 := HQ1.trans (hb.mono HQ1.size)) | fail)
          go_wp2
          go_meet
          exact ⟨by rw [HPT.out] <;> first | rfl | simp, HQ1⟩
      obtain ⟨rfl, HQC⟩ := hcut
      have HE2 := Lib.hid (HE.out.below HQC.out)
      obtain ⟨k, hk, hbs⟩ := HB.out
      obtain ⟨k, rfl⟩ : ∃ k', k = k' + 1 := ⟨k - 1, by omega⟩
      have HBS := Lib.hid hbs
      clear hbs HQC HQ1 ct ca HE HB HCM
      cases hv : y
      · have hb2 := bsR_not (q := k) HT.out hlt (show q t = false by rw [← HY.out]; exact hv)
        rw [HBS.out] at hb2
        have HB2 := Lib.hid hb2
        clear hb2
        subst hv
        go_wp2
        go_roundg (t - i)
        case measure => omega
        case rel => exact ⟨i, t, by omega, by omega, by omega, by omega, rfl, rfl, HE2.out, (show Aside _ from ⟨k, by omega, HB2.out.symm⟩)⟩
      · have hb2 := bsR_yes (q := k) HT.out hlt (show q t = true by rw [← HY.out]; exact hv)
        rw [HBS.out] at hb2
        have HB2 := Lib.hid hb2
        clear hb2
        subst hv
        go_wp2
        go_roundg (j - (t + 1))
        case measure => omega
        case rel => exact ⟨t + 1, j, by omega, by omega, by omega, by omega, by go_num, rfl, HE2.out, (show Aside _ from ⟨k, by omega, HB2.out.symm⟩)⟩
    · obtain rfl : i = j := by omega
      obtain ⟨k, _, hbs⟩ := HB.out
      rw [bsR_end] at hbs
      rw [← HCUT.out] at hbs
      have HI := Lib.hid hbs
      clear hbs HB
      obtain ⟨e, he⟩ : ∃ e, e = nm - i := ⟨_, rfl⟩
      have hwe := wrapSub nm i (by omega) (by omega)
      rw [← he] at hwe
      have HEE := Lib.hid he
      have he1 : m ≤ e ∧ e ≤ b ∧ mid ≤ e := by have := HNM.out; omega
      obtain ⟨he1, he2, he3⟩ := he1
      clear he
      have hib : i ≤ m ∧ a ≤ i ∧ i ≤ mid := by omega
      obtain ⟨hib1, hib2, hib3⟩ := hib
      have hml : mid - a ≤ N ∧ b - mid ≤ N := by have := HMID.out; omega
      obtain ⟨hml1, hml2⟩ := hml
      obtain ⟨y1, hy1⟩ : ∃ y1, y1 = decide (i < m ∧ m < e) := ⟨_, rfl⟩
      obtain ⟨y2, hy2⟩ : ∃ y2, y2 = decide (a < i ∧ i < mid) := ⟨_, rfl⟩
      obtain ⟨y3, hy3⟩ : ∃ y3, y3 = decide (mid < e ∧ e < b) := ⟨_, rfl⟩
      have HY1 := Lib.hid hy1
      have HY2 := Lib.hid hy2
      have HY3 := Lib.hid hy3
      clear hy1 hy2 hy3
      go_upto_region 39 with (fail)
      go_cut [185] (fun s185 wc => s185 = .bool y1 ∧ wi = wc)
      case first =>
        as_aux_lemma =>
          by_cases x1 : i < m
          · have x1z : (i : Int) < (m : Int) := by omega
            by_cases x2 : m < e
            · have x2z : (m : Int) < (e : Int) := by omega
              have hyt : Hid (y1 = true) := Lib.hid (by rw [HY1.out]; exact decide_eq_true ⟨x1, x2⟩)
              go_wp2
              go_meet
              exact ⟨by rw [hyt.out], rfl⟩
            · have x2z : ¬ (m : Int) < (e : Int) := by omega
              have hyt : Hid (y1 = false) := Lib.hid (by rw [HY1.out]; exact decide_eq_false fun h => x2 h.2)
              go_wp2
              go_meet
              exact ⟨by rw [hyt.out], rfl⟩
          · have x1z : ¬ (i : Int) < (m : Int) := by omega
            have hyt : Hid (y1 = false) := Lib.hid (by rw [HY1.out]; exact decide_eq_false fun h => x1 h.1)
            go_wp2
            go_meet
            exact ⟨by rw [hyt.out], rfl⟩
      obtain ⟨rfl, rfl⟩ := hcut
      go_upto_if 185 with (fail)
      go_cut [] (fun wc => Aside (StW pr st w0 base blk cap n (d1R m i e L) wc))
      case first =>
        as_aux_lemma =>
          cases hv : y1
          · have hF : Hid (d1R m i e L = L) := Lib.hid (by unfold d1R; rw [if_neg]; rw [HY1.out] at hv; exact of_decide_eq_false hv)
            subst hv
            go_wp2
            go_meet
            rw [hF.out]
            exact HE.out
          · have hx : i < m ∧ m < e := by rw [HY1.out] at hv; exact of_decide_eq_true hv
            have hF : Hid (d1R m i e L = rotR m (e - i) (m - i) (e - m) L) := Lib.hid (by unfold d1R; rw [if_pos hx])
            have HROT := Lib.hid (fun f => rotate_st HE.out i m e hx.1 hx.2 (by omega) hsz f)
            subst hv
            clear hx
            go_wp2_with (go_at_call 85; refine (HROT.out _).mono ?_; rintro e' w6 ⟨rfl, hq⟩; have HQ6 := Lib.hid hq; clear hq)
            go_meet
            rw [hF.out]
            exact HQ6.out
      obtain ⟨w1, rfl⟩ : ∃ w1 : World, w1 = wc := ⟨_, rfl⟩
      have HE1 := Lib.hid hcut.out
      obtain ⟨D1, hD1⟩ : ∃ D1, D1 = d1R m i e L := ⟨_, rfl⟩
      rw [← hD1] at HE1
      have HD1 := Lib.hid hD1
      clear hD1 hcut HE
      go_upto_region 41 with (fail)
      go_cut [199] (fun s199 wc => s199 = .bool y2 ∧ w1 = wc)
      case first =>
        as_aux_lemma =>
          by_cases x1 : a < i
          · have x1z : (a : Int) < (i : Int) := by omega
            by_cases x2 : i < mid
            · have x2z : (i : Int) < (mid : Int) := by omega
              have hyt : Hid (y2 = true) := Lib.hid (by rw [HY2.out]; exact decide_eq_true ⟨x1, x2⟩)
              go_wp2
              go_meet
              exact ⟨by rw [hyt.out], rfl⟩
            · have x2z : ¬ (i : Int) < (mid : Int) := by omega
              have hyt : Hid (y2 = false) := Lib.hid (by rw [HY2.out]; exact decide_eq_false fun h => x2 h.2)
              go_wp2
              go_meet
              exact ⟨by rw [hyt.out], rfl⟩
          · have x1z : ¬ (a : Int) < (i : Int) := by omega
            have hyt : Hid (y2 = false) := Lib.hid (by rw [HY2.out]; exact decide_eq_false fun h => x1 h.1)
            go_wp2
            go_meet
            exact ⟨by rw [hyt.out], rfl⟩
      obtain ⟨rfl, rfl⟩ := hcut
      go_upto_if 199 with (fail)
      go_cut [] (fun wc => Aside (StW pr st w0 base blk cap n (d2R (ltI cf) N a i mid D1) wc))
      case first =>
        as_aux_lemma =>
          cases hv : y2
          · have hF : Hid (d2R (ltI cf) N a i mid D1 = D1) := Lib.hid (by unfold d2R; rw [if_neg]; rw [HY2.out] at hv; exact of_decide_eq_false hv)
            subst hv
            go_wp2
            go_meet
            rw [hF.out]
            exact HE1.out
          · have hx : a < i ∧ i < mid := by rw [HY2.out] at hv; exact of_decide_eq_true hv
            have hF : Hid (d2R (ltI cf) N a i mid D1 = symR (ltI cf) N a i mid D1) := Lib.hid (by unfold d2R; rw [if_pos hx])
            have HSY := Lib.hid (HIH.out _ _ a i mid HE1.out hx.1 hx.2 (by omega) hml1)
            subst hv
            clear hx
            go_wp2_with (go_at_call 66; refine (HSY.out).mono ?_; rintro e' w6 ⟨rfl, hq⟩; have HQ6 := Lib.hid hq; clear hq)
            go_meet
            rw [hF.out]
            exact HQ6.out
      obtain ⟨w2, rfl⟩ : ∃ w2 : World, w2 = wc := ⟨_, rfl⟩
      have HE2 := Lib.hid hcut.out
      obtain ⟨D2, hD2⟩ : ∃ D2, D2 = d2R (ltI cf) N a i mid D1 := ⟨_, rfl⟩
      rw [← hD2] at HE2
      have HD2 := Lib.hid hD2
      clear hD2 hcut HE1
      go_upto_region 43 with (fail)
      go_cut [213] (fun s213 wc => s213 = .bool y3 ∧ w2 = wc)
      case first =>
        as_aux_lemma =>
          by_cases x1 : mid < e
          · have x1z : (mid : Int) < (e : Int) := by omega
            by_cases x2 : e < b
            · have x2z : (e : Int) < (b : Int) := by omega
              have hyt : Hid (y3 = true) := Lib.hid (by rw [HY3.out]; exact decide_eq_true ⟨x1, x2⟩)
              go_wp2
              go_meet
              exact ⟨by rw [hyt.out], rfl⟩
            · have x2z : ¬ (e : Int) < (b : Int) := by omega
              have hyt : Hid (y3 = false) := Lib.hid (by rw [HY3.out]; exact decide_eq_false fun h => x2 h.2)
              go_wp2
              go_meet
              exact ⟨by rw [hyt.out], rfl⟩
          · have x1z : ¬ (mid : Int) < (e : Int) := by omega
            have hyt : Hid (y3 = false) := Lib.hid (by rw [HY3.out]; exact decide_eq_false fun h => x1 h.1)
            go_wp2
            go_meet
            exact ⟨by rw [hyt.out], rfl⟩
      obtain ⟨rfl, rfl⟩ := hcut
      have HFIN : Hid (∀ w', StW pr st w0 base blk cap n (d2R (ltI cf) N mid e b D2) w' → StW pr st w0 base blk cap n (d2R (ltI cf) N mid (nm - cutR (ltI cf) L a m b) b (d2R (ltI cf) N a (cutR (ltI cf) L a m b) mid (d1R m (cutR (ltI cf) L a m b) (nm - cutR (ltI cf) L a m b) L))) w') := Lib.hid (fun w' hw' => by
        rw [← HI.out, ← HEE.out, ← HD1.out, ← HD2.out]
        exact hw')
      cases hv : y3
      · have hF : Hid (d2R (ltI cf) N mid e b D2 = D2) := Lib.hid (by unfold d2R; rw [if_neg]; rw [HY3.out] at hv; exact of_decide_eq_false hv)
        subst hv
        go_wp2
        go_end0
        exact ⟨rfl, HFIN.out _ (by rw [hF.out]; exact HE2.out)⟩
      · have hx : mid < e ∧ e < b := by rw [HY3.out] at hv; exact of_decide_eq_true hv
        have hF : Hid (d2R (ltI cf) N mid e b D2 = symR (ltI cf) N mid e b D2) := Lib.hid (by unfold d2R; rw [if_pos hx])
        have HSY := Lib.hid (HIH.out _ _ mid e b HE2.out hx.1 hx.2 (by omega) hml2)
        subst hv
        clear hx
        go_wp2_with (go_at_call 66; refine (HSY.out).mono ?_; rintro e' w6 ⟨rfl, hq⟩; have HQ6 := Lib.hid hq; clear hq)
        go_end0
        exact ⟨rfl, HFIN.out _ (by rw [hF.out]; exact HQ6.out)⟩
/-- symMerge does what the plain function does. -/
theorem sym_st (hc : CmpW g lb pr st cf w0 blk) (eg : ∀ args w, (callFunc g args).run Tryd.prog w = .ok (.enter g args) w) (hsz : n ≤ 1000000) : ∀ N, SymAt pr st w0 base blk cap n g lb cf N
  | 0 => fun W L a m b h h1 h2 h3 h4 => by omega
  | N + 1 => fun W L a m b h h1 h2 h3 h4 => by
    show Calls _ _ _ _ (StP pr st w0 base blk cap n (if m - a = 1 then upR L a (bsR (fun h => ltI cf (at_ L h) (at_ L a)) (b - a) m b - 1 - a)
      else if b - m = 1 then dnR L m (m - bsR (fun h => !ltI cf (at_ L m) (at_ L h)) (b - a) a m) else _))
    by_cases e1 : m - a = 1
    · rw [if_pos e1]
      obtain rfl : m = a + 1 := by omega
      exact sym_one h hc eg a b (by omega) h3 hsz
    rw [if_neg e1]
    by_cases e2 : b - m = 1
    · rw [if_pos e2]
      obtain rfl : b = m + 1 := by omega
      exact sym_two h hc eg a m h1 e1 h3 hsz
    rw [if_neg e2]
    exact sym_gen h hc eg a m b N h1 h2 e1 e2 h3 hsz h4 (sym_st hc eg hsz N)
end
end Go.Proofs.YteepbfpcdhdgfaaDoor

/- insertionSort of slices.SortStableFunc at strings: the walk. -/
namespace Go.Proofs.YteepbfpcdhdgfaaDoor
open Go.RowKit
set_option linter.unusedSectionVars false

section
variable {α : Type} [Inhabited α]
variable {pr : α → Prop} {st : α → ByteArray} {w0 W : World} {base blk cap n : Nat} {L : List α} {g : Nat} {lb : Array Value} {cf : α → α → Int}

theorem insI_stop {lt : α → α → Bool} {a j : Nat} {l : List α} (h : j ≤ a) : insI lt a j l = l := by
  cases j with
  | zero => rfl
  | succ j =>
    show (if a < j + 1 ∧ lt (at_ l (j + 1)) (at_ l j) = true then _ else l) = l
    rw [if_neg (by omega)]
theorem insI_no {lt : α → α → Bool} {a j : Nat} {l : List α} (h : lt (at_ l (j + 1)) (at_ l j) = false) : insI lt a (j + 1) l = l := by
  show (if a < j + 1 ∧ lt (at_ l (j + 1)) (at_ l j) = true then _ else l) = l
  rw [if_neg (by simp [h])]
theorem insI_go {lt : α → α → Bool} {a j : Nat} {l : List α} (ha : a < j + 1) (h : lt (at_ l (j + 1)) (at_ l j) = true) : insI lt a (j + 1) l = insI lt a j (swL l (j + 1) j) := by
  show (if a < j + 1 ∧ lt (at_ l (j + 1)) (at_ l j) = true then insI lt a j (swL l (j + 1) j) else l) = _
  rw [if_pos ⟨ha, h⟩]
theorem insO_go {lt : α → α → Bool} {a b q i : Nat} {l : List α} (h : i < b) : insO lt a b (q + 1) i l = insO lt a b q (i + 1) (insI lt a i l) := by
  show (if i < b then _ else l) = _
  rw [if_pos h]
theorem insO_end {lt : α → α → Bool} {a b q i : Nat} {l : List α} (h : ¬ i < b) : insO lt a b q i l = l := by
  cases q with
  | zero => rfl
  | succ q =>
    show (if i < b then _ else l) = _
    rw [if_neg h]

set_option maxRecDepth 100000 in
set_option maxHeartbeats 4000000 in
theorem ins_st (h : StW pr st w0 base blk cap n L W) (hc : CmpW g lb pr st cf w0 blk) (eg : ∀ args w, (callFunc g args).run Tryd.prog w = .ok (.enter g args) w) (a b : Nat) (hab : a ≤ b) (hb : b ≤ n) (hsz : n ≤ 1000000) :
    Calls Tryd.prog 65 #[.slice (some ⟨blk, 0, none⟩) n cap, .int .i64 a, .int .i64 b, .func (.func g) #[] lb] W (StP pr st w0 base blk cap n (insB (ltI cf) a b L)) := by
  have HH := Lib.hid h
  have HC := Lib.hid hc
  have HEG := Lib.hid eg
  clear h hc eg
  go_enter Tryd.func65, Tryd.ntmps65
  go_wp2
  go_loopg [8] (b - a) (fun gg s8 wr => ∃ (i : Nat) (L1 : List α), a < i ∧ i ≤ b + 1 ∧ b - i ≤ gg ∧ s8 = .int .i64 i ∧ Aside (StW pr st w0 base blk cap n L1 wr) ∧ Aside (∃ q, b - i ≤ q ∧ insO (ltI cf) a b q i L1 = insB (ltI cf) a b L))
  case atStart => exact ⟨a + 1, L, by omega, by omega, by omega, by go_num, HH.out, (show Aside _ from ⟨b - a, by omega, rfl⟩)⟩
  case round =>
    obtain ⟨wo, rfl⟩ : ∃ wo : World, wo = wr := ⟨_, rfl⟩
    obtain ⟨i, L1, hai, hib, hgi, rfl, HE, HB⟩ := hrel
    by_cases hlt : i < b
    · have hltz : (i : Int) < (b : Int) := by omega
      obtain ⟨q, hq, hbs⟩ := HB.out
      obtain ⟨q, rfl⟩ : ∃ q', q = q' + 1 := ⟨q - 1, by omega⟩
      rw [insO_go hlt] at hbs
      have HBS := Lib.hid hbs
      clear hbs HB
      go_wp2
      go_loopg [9] i (fun g2 s9 wr => ∃ (j : Nat) (L2 : List α), a ≤ j ∧ j ≤ i ∧ j ≤ g2 ∧ s9 = .int .i64 j ∧ Aside (StW pr st w0 base blk cap n L2 wr) ∧ Aside (insI (ltI cf) a j L2 = insI (ltI cf) a i L1))
      case atStart => exact ⟨i, L1, by omega, by omega, by omega, rfl, HE.out, (show Aside _ from rfl)⟩
      case round =>
        obtain ⟨wi, rfl⟩ : ∃ wi : World, wi = wr := ⟨_, rfl⟩
        obtain ⟨j, L2, haj, hji, hg2, rfl, HE2, HI⟩ := hrel
        by_cases hja : a < j
        · have hjaz : (a : Int) < (j : Int) := by omega
          obtain ⟨jb, hjb⟩ : ∃ jb, jb = j - 1 := ⟨_, rfl⟩
          have hj1 : j = jb + 1 := by omega
          obtain ⟨ca, fa⟩ := HE2.out.cell (i := j) (by omega)
          obtain ⟨cb, fb⟩ := HE2.out.cell (i := jb) (by omega)
          have hbl := HE2.out.lt (by omega)
          have hl := HE2.out.len
          have hwb := wrapSub j 1 (by omega) (by omega)
          rw [← hjb] at hwb
          have hwb : IntKind.i64.wrap ((j : Int) - 1) = (jb : Int) := hwb
          have hcm := fun (W' : World) (hb : Below wi.heap.size wi W') => HC.out W' (HE2.out.onl.below hb) (at_ L2 j) (at_ L2 jb) (HE2.out.ok _ (at_mem (by omega))) (HE2.out.ok _ (at_mem (by omega)))
          obtain ⟨z, hz⟩ : ∃ z, z = cf (at_ L2 j) (at_ L2 jb) := ⟨_, rfl⟩
          have HSW := Lib.hid (fun W (h : StW pr st w0 base blk cap n L2 W) u v hu hv => h.swap (i := j) (j := jb) (u := u) (v := v) (by omega) (by omega) (by omega) hu hv)
          obtain ⟨sa, hsa⟩ : ∃ s, s = st (at_ L2 j) := ⟨_, rfl⟩
          obtain ⟨sb, hsb⟩ : ∃ s, s = st (at_ L2 jb) := ⟨_, rfl⟩
          have HSW2 := Lib.hid (fun W h => HSW.out W h sb sa hsb hsa)
          rw [← hsa] at ca hcm
          rw [← hsb] at cb hcm
          rw [← hz] at hcm
          have HCM := Lib.hid hcm
          have HZ := Lib.hid hz
          have HJ := Lib.hid hj1
          have hjz : (j : Int) < (n : Int) := by omega
          have hjbz : (jb : Int) < (n : Int) := by omega
          have hjn : j < n := by omega
          have hjbn : jb < n := by omega
          have hne : j ≠ jb := by omega
          clear hcm hz hsa hsb fa fb hl hj1 hjb HSW
          have HQ : Below wi.heap.size wi wi.drew := (Below.refl _ wi).drew
          go_upto_region 4 with (fail)
          go_cut [34] (fun s34 wc => s34 = .bool (decide (z < 0)) ∧ Aside (Below wi.heap.size wi wc))
          case first =>
            as_aux_lemma =>
              have eg := HEG.out
              go_region_held3 (fun W' => W'.cell? ⟨blk, j, none⟩ = some (.string sa) ∧ W'.cell? ⟨blk, jb, none⟩ = some (.string sb))
                (first | exact ⟨(HQ.cell (p := ⟨blk, j, none⟩) hbl).trans ca, (HQ.cell (p := ⟨blk, jb, none⟩) hbl).trans cb⟩ | fail)
                (first | (go_at_fn g; (with_reducible refine (HCM.out _ HQ).mono ?_); rintro e w' ⟨rfl, hb⟩; have HQ := HQ.trans (hb.mono HQ.size)) | fail)
              go_wp2
              go_meet
              exact ⟨rfl, HQ⟩
          obtain ⟨rfl, HQC⟩ := hcut
          have HE3 := Lib.hid (HE2.out.below HQC.out)
          clear HQ HCM HE2
          by_cases hv : z < 0
          · have hg := insI_go (lt := ltI cf) (l := L2) (show a < jb + 1 by have := HJ.out; omega) (by rw [← HJ.out]; show decide (cf _ _ < 0) = true; rw [← HZ.out]; exact decide_eq_true hv)
            rw [← HJ.out, HI.out] at hg
            have HG := Lib.hid hg
            have c1 := (HQC.out.cell (p := ⟨blk, j, none⟩) hbl).trans ca
            have c2 := (HQC.out.cell (p := ⟨blk, jb, none⟩) hbl).trans cb
            have f1 := (HE3.out.cell (i := j) hjn).2
            have f2 := (HE3.out.cell (i := jb) hjbn).2
            obtain ⟨wd, hwd⟩ : ∃ wd : World, wd = wc := ⟨_, rfl⟩
            rw [← hwd] at c1 c2 f1 f2 HE3 ⊢
            have HSW3 := Lib.hid (HSW2.out _ HE3.out)
            clear hg ca cb hbl hwd HQC
            go_upto_region 6 with (fail)
            go_big_region
            all_goals go_wp2
            all_goals
              go_roundg jb
              case measure => have := HJ.out; omega
              case rel => exact ⟨jb, swL L2 j jb, by have := HJ.out; omega, by have := HJ.out; omega, by omega, by first | rfl | go_num, (show Aside _ from HSW3.out.drew), (show Aside _ from HG.out.symm)⟩
          · have hg := insI_no (lt := ltI cf) (a := a) (l := L2) (j := jb) (by rw [← HJ.out]; show decide (cf _ _ < 0) = false; rw [← HZ.out]; exact decide_eq_false hv)
            rw [← HJ.out, HI.out] at hg
            have HG := Lib.hid hg
            clear hg ca cb hbl HQC
            go_wp2
            go_roundg (b - (i + 1))
            case measure => omega
            case rel => exact ⟨i + 1, L2, by omega, by omega, by omega, by go_num, HE3.out, (show Aside _ from ⟨q, by omega, by rw [← HG.out]; exact HBS.out⟩)⟩
        · have hjaz : ¬ (a : Int) < (j : Int) := by omega
          have hg := insI_stop (lt := ltI cf) (l := L2) (show j ≤ a by omega)
          rw [HI.out] at hg
          have HG := Lib.hid hg
          clear hg
          go_upto_region 4 with (fail)
          have hund : undef = Value.tuple #[] := rfl
          go_quiet (fail)
          clear hund
          have HE3 := Lib.hid (HE2.out.drewN nq)
          go_wp2
          go_roundg (b - (i + 1))
          case measure => omega
          case rel => exact ⟨i + 1, L2, by omega, by omega, by omega, by go_num, HE3.out, (show Aside _ from ⟨q, by omega, by rw [← HG.out]; exact HBS.out⟩)⟩
    · obtain ⟨q, hq, hbs⟩ := HB.out
      rw [insO_end hlt] at hbs
      have HBS := Lib.hid hbs
      have hltz : ¬ (i : Int) < (b : Int) := by omega
      clear hbs HB
      go_wp2
      go_end0
      exact ⟨rfl, by rw [← HBS.out]; exact HE.out⟩
end
end Go.Proofs.YteepbfpcdhdgfaaDoor

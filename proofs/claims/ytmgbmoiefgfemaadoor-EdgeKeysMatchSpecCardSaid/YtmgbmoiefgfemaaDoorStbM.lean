/- symMerge of slices.SortStableFunc at strings: the walk. -/
import Derived.Test.YtmgbmoiefgfemaaDoorStbW
import Derived.Deep.RegionHeld3
namespace Go.Proofs.YtmgbmoiefgfemaaDoor
open Go.RowKit
set_option linter.unusedSectionVars false

section
variable {α : Type} [Inhabited α]

/-- What is asked of a comparison: it may lay new memory. -/
def CmpW (g : Nat) (lb : Array Value) (pr : α → Prop) (st : α → ByteArray) (cf : α → α → Int) (w0 : World) (blk : Nat) : Prop :=
  ∀ W, Onl blk w0 W → ∀ x y, pr x → pr y → Calls Tryd.prog g (#[.string (st x), .string (st y)] ++ lb) W fun e w' => e = .returned (.int .i64 (cf x y)) ∧ Below W.heap.size W w'
def ltI (cf : α → α → Int) (x y : α) : Bool := decide (cf x y < 0)
variable {pr : α → Prop} {st : α → ByteArray} {w0 W : World} {base blk cap n : Nat} {L : List α} {g : Nat} {lb : Array Value} {cf : α → α → Int}

theorem bsR_yes {p : Nat → Bool} {q i j t : Nat} (ht : t = (i + j) / 2) (hlt : i < j) (hp : p t = true) : bsR p (q + 1) i j = bsR p q (t + 1) j := by
  subst ht
  show (if i < j then (if p ((i + j) / 2) = true then bsR p q ((i + j) / 2 + 1) j else bsR p q i ((i + j) / 2)) else i) = _
  rw [if_pos hlt, if_pos hp]
theorem bsR_not {p : Nat → Bool} {q i j t : Nat} (ht : t = (i + j) / 2) (hlt : i < j) (hp : p t = false) : bsR p (q + 1) i j = bsR p q i t := by
  subst ht
  show (if i < j then (if p ((i + j) / 2) = true then bsR p q ((i + j) / 2 + 1) j else bsR p q i ((i + j) / 2)) else i) = _
  rw [if_pos hlt, if_neg (by simp [hp])]
theorem bsR_end (p : Nat → Bool) (q i : Nat) : bsR p q i i = i := by
  cases q with
  | zero => rfl
  | succ q =>
    show (if i < i then _ else i) = i
    rw [if_neg (by omega)]
set_option maxRecDepth 100000 in
set_option maxHeartbeats 4000000 in
theorem sym_one (h : StW pr st w0 base blk cap n L W) (hc : CmpW g lb pr st cf w0 blk) (eg : ∀ args w, (callFunc g args).run Tryd.prog w = .ok (.enter g args) w) (a b : Nat) (hab : a + 1 < b) (hb : b ≤ n) (hsz : n ≤ 1000000) :
    Calls Tryd.prog 108 #[.slice (some ⟨blk, 0, none⟩) n cap, .int .i64 a, .int .i64 ((a + 1 : Nat) : Int), .int .i64 b, .func (.func g) #[] lb] W (StP pr st w0 base blk cap n (upR L a (bsR (fun h => ltI cf (at_ L h) (at_ L a)) (b - a) (a + 1) b - 1 - a))) := by
  have HH := Lib.hid h
  have HC := Lib.hid hc
  have HEG := Lib.hid eg
  clear h hc
  have hwa : IntKind.i64.wrap (((a + 1 : Nat) : Int) - (a : Int)) = 1 := by rw [show ((a + 1 : Nat) : Int) - (a : Int) = 1 by omega]; rfl
  obtain ⟨m, hm⟩ : ∃ m, m = a + 1 := ⟨_, rfl⟩
  have HM := Lib.hid hm
  rw [← hm] at hwa hab ⊢
  clear hm
  obtain ⟨p, hp⟩ : ∃ p, p = fun h => ltI cf (at_ L h) (at_ L a) := ⟨_, rfl⟩
  rw [← hp]
  have HP := Lib.hid hp
  clear hp eg
  go_enter Tryd.func108, Tryd.ntmps108
  go_wp2
  go_loopg [10, 11] (b - a) (fun gg s10 s11 wr => ∃ (i j : Nat), m ≤ i ∧ i ≤ j ∧ j ≤ b ∧ j - i ≤ gg ∧ s10 = .int .i64 i ∧ s11 = .int .i64 j ∧ Aside (StW pr st w0 base blk cap n L wr) ∧ Aside (∃ q, j - i ≤ q ∧ bsR p q i j = bsR p (b - a) m b))
  case atStart => exact ⟨m, b, by omega, by omega, by omega, by have := HM.out; omega, rfl, rfl, HH.out, (show Aside _ from ⟨b - a, by have := HM.out; omega, rfl⟩)⟩
  case round =>
    obtain ⟨wi, rfl⟩ : ∃ wi : World, wi = wr := ⟨_, rfl⟩
    obtain ⟨i, j, hi, hij, hj, hg, rfl, rfl, HE, HB⟩ := hrel
    by_cases hlt : i < j
    · have hltz : (i : Int) < (j : Int) := by omega
      go_upto_region 4 with (fail)
      go_cut [12] (fun s12 wc => s12 = .int .i64 (((i + j) / 2 : Nat) : Int) ∧ wi = wc)
      case first =>
        go_wp2
        go_meet
        exact ⟨by rw [show (((i + j) / 2 : Nat) : Int) = ((i : Int) + (j : Int)) / 2 by omega], rfl⟩
      obtain ⟨rfl, rfl⟩ := hcut
      obtain ⟨t, ht⟩ : ∃ t, t = (i + j) / 2 := ⟨_, rfl⟩
      rw [← ht]
      have HT := Lib.hid ht
      have ht1 : i ≤ t ∧ t < j := by omega
      obtain ⟨ht1, ht2⟩ := ht1
      clear ht
      have hma := HM.out
      obtain ⟨ct, ft⟩ := HE.out.cell (i := t) (by omega)
      obtain ⟨ca, fa⟩ := HE.out.cell (i := a) (by omega)
      have hbl := HE.out.lt (by omega)
      have hl := HE.out.len
      have hcm := fun (W' : World) (hb : Below wi.heap.size wi W') => HC.out W' (HE.out.onl.below hb) (at_ L t) (at_ L a) (HE.out.ok _ (at_mem (by omega))) (HE.out.ok _ (at_mem (by omega)))
      obtain ⟨z, hz⟩ : ∃ z, z = cf (at_ L t) (at_ L a) := ⟨_, rfl⟩
      obtain ⟨sa, hsa⟩ : ∃ s, s = st (at_ L a) := ⟨_, rfl⟩
      obtain ⟨sh, hsh⟩ : ∃ s, s = st (at_ L t) := ⟨_, rfl⟩
      rw [← hsa] at ca hcm
      rw [← hsh] at ct hcm
      rw [← hz] at hcm
      have HCM := Lib.hid hcm
      have HPT : Hid (p t = decide (z < 0)) := Lib.hid (by rw [HP.out, hz]; rfl)
      have htz : (t : Int) < (n : Int) := by omega
      have haz : (a : Int) < (n : Int) := by omega
      clear hcm hz hsa hsh ft fa hl hma
      have HQ : Below wi.heap.size wi wi.drew := (Below.refl _ wi).drew
      go_upto_region 5 with (fail)
      go_cut [50] (fun s50 wc => s50 = .bool (decide (z < 0)) ∧ Aside (Below wi.heap.size wi wc))
      case first =>
        have eg := HEG.out
        go_region_held3 (fun W' => W'.cell? ⟨blk, t, none⟩ = some (.string sh) ∧ W'.cell? ⟨blk, a, none⟩ = some (.string sa))
          (first | exact ⟨(HQ.cell (p := ⟨blk, t, none⟩) hbl).trans ct, (HQ.cell (p := ⟨blk, a, none⟩) hbl).trans ca⟩ | fail)
          (first | (go_at_fn g; (with_reducible refine (HCM.out _ HQ).mono ?_); rintro e w' ⟨rfl, hb⟩; have HQ := HQ.trans (hb.mono HQ.size)) | fail)
        go_wp2
        go_meet
        exact ⟨rfl, HQ⟩
      obtain ⟨rfl, HQC⟩ := hcut
      have HE2 := Lib.hid (HE.out.below HQC.out)
      obtain ⟨q, hq, hbs⟩ := HB.out
      obtain ⟨q, rfl⟩ : ∃ q', q = q' + 1 := ⟨q - 1, by omega⟩
      have HBS := Lib.hid hbs
      clear hbs HQC HQ ct ca HE HB HCM
      by_cases hv : z < 0
      · have hb2 := bsR_yes (q := q) HT.out hlt (show p t = true by rw [HPT.out]; simpa using hv)
        rw [HBS.out] at hb2
        have HB2 := Lib.hid hb2
        clear hb2
        go_wp2
        go_roundg (j - (t + 1))
        case measure => omega
        case rel => exact ⟨t + 1, j, by omega, by omega, by omega, by omega, by go_num, rfl, HE2.out, (show Aside _ from ⟨q, by omega, HB2.out.symm⟩)⟩
      · have hb2 := bsR_not (q := q) HT.out hlt (show p t = false by rw [HPT.out]; simpa using hv)
        rw [HBS.out] at hb2
        have HB2 := Lib.hid hb2
        clear hb2
        go_wp2
        go_roundg (t - i)
        case measure => omega
        case rel => exact ⟨i, t, by omega, by omega, by omega, by omega, rfl, rfl, HE2.out, (show Aside _ from ⟨q, by omega, HB2.out.symm⟩)⟩
    · obtain rfl : i = j := by omega
      obtain ⟨q, _, hbs⟩ := HB.out
      rw [bsR_end] at hbs
      have HI := Lib.hid hbs
      have hma := HM.out
      have hwi : IntKind.i64.wrap ((i : Int) - 1) = (i : Int) - 1 := IntWalk.i64_in _ (by omega)
      clear hbs HB
      go_wp2
      go_loopg [13] i (fun gg s13 wr => ∃ k : Nat, a + k + 1 ≤ i ∧ i - k ≤ gg ∧ s13 = .int .i64 ((a + k : Nat) : Int) ∧ Aside (StW pr st w0 base blk cap n (upR L a k) wr))
      case atStart => exact ⟨0, by omega, by omega, rfl, HE.out⟩
      case round =>
        obtain ⟨wq, rfl⟩ : ∃ wq : World, wq = wr := ⟨_, rfl⟩
        obtain ⟨k, hk, hgk, rfl, HU⟩ := hrel
        obtain ⟨ja, hja⟩ : ∃ ja, ja = a + k := ⟨_, rfl⟩
        rw [← hja]
        by_cases hkl : ja + 1 < i
        · have hkz : (ja : Int) < (i : Int) - 1 := by omega
          obtain ⟨jb, hjb⟩ : ∃ jb, jb = ja + 1 := ⟨_, rfl⟩
          obtain ⟨ca, fa⟩ := HU.out.cell (i := ja) (by omega)
          obtain ⟨cb, fb⟩ := HU.out.cell (i := jb) (by omega)
          have HSW := Lib.hid (fun u v hu hv => HU.out.swap (i := ja) (j := jb) (u := u) (v := v) (by omega) (by omega) (by omega) hu hv)
          obtain ⟨sa, hsa⟩ : ∃ s, s = st (at_ (upR L a k) ja) := ⟨_, rfl⟩
          obtain ⟨sb, hsb⟩ : ∃ s, s = st (at_ (upR L a k) jb) := ⟨_, rfl⟩
          rw [← hsa] at ca
          rw [← hsb] at cb
          have HSW2 := Lib.hid (HSW.out sb sa hsb hsa)
          have hwb : IntKind.i64.wrap ((ja : Int) + 1) = (jb : Int) := by rw [show (ja : Int) + 1 = (jb : Int) by omega]; exact IntWalk.i64_in _ (by omega)
          have hai : ja < n := by omega
          have hbi : jb < n := by omega
          have hne : ja ≠ jb := by omega
          have hja0 : (0 : Int) ≤ (ja : Int) := by omega
          have hjb0 : (0 : Int) ≤ (jb : Int) := by omega
          have hjaz : (ja : Int) < (n : Int) := by omega
          have hjbz : (jb : Int) < (n : Int) := by omega
          have HJ := Lib.hid (And.intro hja hjb)
          clear hja hjb hsa hsb HSW HU hma
          go_upto_region 11 with (fail)
          go_big_region
          all_goals go_wp2
          all_goals
            go_roundg (i - (k + 1))
            case measure => omega
            case rel => exact ⟨k + 1, by have := HJ.out; omega, by omega, by have := HJ.out; first | rfl | (congr 1; omega), (show Aside _ from by
              show StW pr st w0 base blk cap n (swL (upR L a k) (a + k) (a + k + 1)) _
              rw [← HJ.out.1, ← HJ.out.2]
              exact HSW2.out.drew)⟩
        · have hkz : ¬ (ja : Int) < (i : Int) - 1 := by omega
          have HK : Hid (i - 1 - a = k) := Lib.hid (by omega)
          go_wp2
          go_end0
          exact ⟨rfl, by rw [← HM.out, ← HI.out, HK.out]; exact HU.out⟩
set_option maxRecDepth 100000 in
set_option maxHeartbeats 4000000 in
theorem sym_two (h : StW pr st w0 base blk cap n L W) (hc : CmpW g lb pr st cf w0 blk) (eg : ∀ args w, (callFunc g args).run Tryd.prog w = .ok (.enter g args) w) (a m : Nat) (ham : a < m) (hma1 : m - a ≠ 1) (hb : m + 1 ≤ n) (hsz : n ≤ 1000000) :
    Calls Tryd.prog 108 #[.slice (some ⟨blk, 0, none⟩) n cap, .int .i64 a, .int .i64 m, .int .i64 ((m + 1 : Nat) : Int), .func (.func g) #[] lb] W (StP pr st w0 base blk cap n (dnR L m (m - bsR (fun h => !ltI cf (at_ L m) (at_ L h)) (m + 1 - a) a m))) := by
  have HH := Lib.hid h
  have HC := Lib.hid hc
  have HEG := Lib.hid eg
  clear h hc
  have hwa := wrapSub m a (by omega) (by omega)
  have hwa1 : (((m - a : Nat) : Int) == 1) = false := by rw [beq_eq_false_iff_ne]; omega
  have hwb : IntKind.i64.wrap (((m + 1 : Nat) : Int) - (m : Int)) = 1 := by rw [show ((m + 1 : Nat) : Int) - (m : Int) = 1 by omega]; rfl
  obtain ⟨b, hm⟩ : ∃ b, b = m + 1 := ⟨_, rfl⟩
  have HM := Lib.hid hm
  rw [← hm] at hwb hb ⊢
  have hmn : m < n := by omega
  clear hm
  obtain ⟨p, hp⟩ : ∃ p, p = fun h => !ltI cf (at_ L m) (at_ L h) := ⟨_, rfl⟩
  rw [← hp]
  have HP := Lib.hid hp
  clear hp eg hma1
  go_enter Tryd.func108, Tryd.ntmps108
  go_wp2
  go_loopg [14, 15] (b - a) (fun gg s14 s15 wr => ∃ (i j : Nat), a ≤ i ∧ i ≤ j ∧ j ≤ m ∧ j - i ≤ gg ∧ s14 = .int .i64 i ∧ s15 = .int .i64 j ∧ Aside (StW pr st w0 base blk cap n L wr) ∧ Aside (∃ q, j - i ≤ q ∧ bsR p q i j = bsR p (b - a) a m))
  case atStart => exact ⟨a, m, by omega, by omega, by omega, by have := HM.out; omega, rfl, rfl, HH.out, (show Aside _ from ⟨b - a, by have := HM.out; omega, rfl⟩)⟩
  case round =>
    obtain ⟨wi, rfl⟩ : ∃ wi : World, wi = wr := ⟨_, rfl⟩
    obtain ⟨i, j, hi, hij, hj, hg, rfl, rfl, HE, HB⟩ := hrel
    by_cases hlt : i < j
    · have hltz : (i : Int) < (j : Int) := by omega
      go_upto_region 16 with (fail)
      go_cut [16] (fun s16 wc => s16 = .int .i64 (((i + j) / 2 : Nat) : Int) ∧ wi = wc)
      case first =>
        go_wp2
        go_meet
        exact ⟨by rw [show (((i + j) / 2 : Nat) : Int) = ((i : Int) + (j : Int)) / 2 by omega], rfl⟩
      obtain ⟨rfl, rfl⟩ := hcut
      obtain ⟨t, ht⟩ : ∃ t, t = (i + j) / 2 := ⟨_, rfl⟩
      rw [← ht]
      have HT := Lib.hid ht
      have ht1 : i ≤ t ∧ t < j := by omega
      obtain ⟨ht1, ht2⟩ := ht1
      clear ht
      have hma := HM.out
      obtain ⟨ct, ft⟩ := HE.out.cell (i := t) (by omega)
      obtain ⟨ca, fa⟩ := HE.out.cell (i := m) (by omega)
      have hbl := HE.out.lt (by omega)
      have hl := HE.out.len
      have hcm := fun (W' : World) (hb : Below wi.heap.size wi W') => HC.out W' (HE.out.onl.below hb) (at_ L m) (at_ L t) (HE.out.ok _ (at_mem (by omega))) (HE.out.ok _ (at_mem (by omega)))
      obtain ⟨z, hz⟩ : ∃ z, z = cf (at_ L m) (at_ L t) := ⟨_, rfl⟩
      obtain ⟨sa, hsa⟩ : ∃ s, s = st (at_ L m) := ⟨_, rfl⟩
      obtain ⟨sh, hsh⟩ : ∃ s, s = st (at_ L t) := ⟨_, rfl⟩
      rw [← hsa] at ca hcm
      rw [← hsh] at ct hcm
      rw [← hz] at hcm
      have HCM := Lib.hid hcm
      obtain ⟨y, hy⟩ : ∃ y, y = p t := ⟨_, rfl⟩
      have HPT : Hid (y = !decide (z < 0)) := Lib.hid (by rw [hy, HP.out, hz]; rfl)
      have HY := Lib.hid hy
      have htz : (t : Int) < (n : Int) := by omega
      have haz : (m : Int) < (n : Int) := by omega
      clear hcm hz hsa hsh ft fa hl hma hy
      have HQ : Below wi.heap.size wi wi.drew := (Below.refl _ wi).drew
      go_upto_region 17 with (fail)
      go_cut [103] (fun s103 wc => s103 = .bool y ∧ Aside (Below wi.heap.size wi wc))
      case first =>
        have eg := HEG.out
        go_region_held3 (fun W' => W'.cell? ⟨blk, t, none⟩ = some (.string sh) ∧ W'.cell? ⟨blk, m, none⟩ = some (.string sa))
          (first | exact ⟨(HQ.cell (p := ⟨blk, t, none⟩) hbl).trans ct, (HQ.cell (p := ⟨blk, m, none⟩) hbl).trans ca⟩ | fail)
          (first | (go_at_fn g; (with_reducible refine (HCM.out _ HQ).mono ?_); rintro e w' ⟨rfl, hb⟩; have HQ := HQ.trans (hb.mono HQ.size)) | fail)
        go_wp2
        go_meet
        exact ⟨by rw [HPT.out] <;> first | rfl | simp, HQ⟩
      obtain ⟨rfl, HQC⟩ := hcut
      have HE2 := Lib.hid (HE.out.below HQC.out)
      obtain ⟨q, hq, hbs⟩ := HB.out
      obtain ⟨q, rfl⟩ : ∃ q', q = q' + 1 := ⟨q - 1, by omega⟩
      have HBS := Lib.hid hbs
      clear hbs HQC HQ ct ca HE HB HCM
      cases hv : y
      · have hb2 := bsR_not (q := q) HT.out hlt (show p t = false by rw [← HY.out]; exact hv)
        rw [HBS.out] at hb2
        have HB2 := Lib.hid hb2
        clear hb2
        subst hv
        go_wp2
        go_roundg (t - i)
        case measure => omega
        case rel => exact ⟨i, t, by omega, by omega, by omega, by omega, rfl, rfl, HE2.out, (show Aside _ from ⟨q, by omega, HB2.out.symm⟩)⟩
      · have hb2 := bsR_yes (q := q) HT.out hlt (show p t = true by rw [← HY.out]; exact hv)
        rw [HBS.out] at hb2
        have HB2 := Lib.hid hb2
        clear hb2
        subst hv
        go_wp2
        go_roundg (j - (t + 1))
        case measure => omega
        case rel => exact ⟨t + 1, j, by omega, by omega, by omega, by omega, by go_num, rfl, HE2.out, (show Aside _ from ⟨q, by omega, HB2.out.symm⟩)⟩
    · obtain rfl : i = j := by omega
      obtain ⟨q, _, hbs⟩ := HB.out
      rw [bsR_end] at hbs
      have HI := Lib.hid hbs
      have hma := HM.out
      clear hbs HB
      go_wp2
      go_loopg [17] m (fun gg s17 wr => ∃ k : Nat, i + k ≤ m ∧ m - k ≤ gg ∧ s17 = .int .i64 ((m - k : Nat) : Int) ∧ Aside (StW pr st w0 base blk cap n (dnR L m k) wr))
      case atStart => exact ⟨0, by omega, by omega, rfl, HE.out⟩
      case round =>
        obtain ⟨wq, rfl⟩ : ∃ wq : World, wq = wr := ⟨_, rfl⟩
        obtain ⟨k, hk, hgk, rfl, HU⟩ := hrel
        obtain ⟨ja, hja⟩ : ∃ ja, ja = m - k := ⟨_, rfl⟩
        rw [← hja]
        by_cases hkl : i < ja
        · have hkz : (i : Int) < (ja : Int) := by omega
          obtain ⟨jb, hjb⟩ : ∃ jb, jb = ja - 1 := ⟨_, rfl⟩
          obtain ⟨ca, fa⟩ := HU.out.cell (i := ja) (by omega)
          obtain ⟨cb, fb⟩ := HU.out.cell (i := jb) (by omega)
          have HSW := Lib.hid (fun u v hu hv => HU.out.swap (i := ja) (j := jb) (u := u) (v := v) (by omega) (by omega) (by omega) hu hv)
          obtain ⟨sa, hsa⟩ : ∃ s, s = st (at_ (dnR L m k) ja) := ⟨_, rfl⟩
          obtain ⟨sb, hsb⟩ : ∃ s, s = st (at_ (dnR L m k) jb) := ⟨_, rfl⟩
          rw [← hsa] at ca
          rw [← hsb] at cb
          have HSW2 := Lib.hid (HSW.out sb sa hsb hsa)
          have hwb1 : IntKind.i64.wrap ((ja : Int) - 1) = (jb : Int) := by rw [show (ja : Int) - 1 = (jb : Int) by omega]; exact IntWalk.i64_in _ (by omega)
          have hai : ja < n := by omega
          have hbi : jb < n := by omega
          have hne : ja ≠ jb := by omega
          have hja0 : (0 : Int) ≤ (ja : Int) := by omega
          have hjb0 : (0 : Int) ≤ (jb : Int) := by omega
          have hjaz : (ja : Int) < (n : Int) := by omega
          have hjbz : (jb : Int) < (n : Int) := by omega
          have HJ := Lib.hid (And.intro hja hjb)
          clear hja hjb hsa hsb HSW HU hma
          go_upto_region 23 with (fail)
          go_big_region
          all_goals go_wp2
          all_goals
            go_roundg (m - (k + 1))
            case measure => have := HJ.out; omega
            case rel => exact ⟨k + 1, by have := HJ.out; omega, by have := HJ.out; omega, by have := HJ.out; first | rfl | (congr 1; omega), (show Aside _ from by
              show StW pr st w0 base blk cap n (swL (dnR L m k) (m - k) (m - k - 1)) _
              rw [← HJ.out.1, ← HJ.out.2]
              exact HSW2.out.drew)⟩
        · have hkz : ¬ (i : Int) < (ja : Int) := by omega
          have HK : Hid (m - i = k) := Lib.hid (by omega)
          go_wp2
          go_end0
          exact ⟨rfl, by rw [← HM.out, ← HI.out, HK.out]; exact HU.out⟩
end
end Go.Proofs.YtmgbmoiefgfemaaDoor

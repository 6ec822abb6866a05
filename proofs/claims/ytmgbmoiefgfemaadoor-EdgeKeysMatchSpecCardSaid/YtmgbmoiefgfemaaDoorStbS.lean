/- slices.SortStableFunc at strings: the walk. -/
import Derived.Test.YtmgbmoiefgfemaaDoorStbG
import Derived.Test.YtmgbmoiefgfemaaDoorStbI
namespace Go.Proofs.YtmgbmoiefgfemaaDoor
open Go.RowKit
set_option linter.unusedSectionVars false

section
variable {α : Type} [Inhabited α]
variable {pr : α → Prop} {st : α → ByteArray} {w0 W : World} {base blk cap n : Nat} {L : List α} {g : Nat} {lb : Array Value} {cf : α → α → Int}

theorem blO_go {lt : α → α → Bool} {n q a : Nat} {l : List α} (h : a + 20 ≤ n) : blO lt n (q + 1) a l = blO lt n q (a + 20) (insB lt a (a + 20) l) := by
  show (if a + 20 ≤ n then _ else _) = _
  rw [if_pos h]
theorem blO_end {lt : α → α → Bool} {n q a : Nat} {l : List α} (h : ¬ a + 20 ≤ n) : blO lt n (q + 1) a l = insB lt a n l := by
  show (if a + 20 ≤ n then _ else _) = _
  rw [if_neg h]
theorem mgO_go {lt : α → α → Bool} {bs n q a : Nat} {l : List α} (h : a + 2 * bs ≤ n) : mgO lt bs n (q + 1) a l = mgO lt bs n q (a + 2 * bs) (symR lt (2 * bs) a (a + bs) (a + 2 * bs) l) := by
  show (if a + 2 * bs ≤ n then _ else _) = _
  rw [if_pos h]
theorem mgO_two {lt : α → α → Bool} {bs n q a : Nat} {l : List α} (h : ¬ a + 2 * bs ≤ n) (h2 : a + bs < n) : mgO lt bs n (q + 1) a l = symR lt (n - a) a (a + bs) n l := by
  show (if a + 2 * bs ≤ n then _ else if a + bs < n then _ else _) = _
  rw [if_neg h, if_pos h2]
theorem mgO_one {lt : α → α → Bool} {bs n q a : Nat} {l : List α} (h : ¬ a + 2 * bs ≤ n) (h2 : ¬ a + bs < n) : mgO lt bs n (q + 1) a l = l := by
  show (if a + 2 * bs ≤ n then _ else if a + bs < n then _ else l) = _
  rw [if_neg h, if_neg h2]
theorem stO_go {lt : α → α → Bool} {n q bs : Nat} {l : List α} (h : bs < n) : stO lt n (q + 1) bs l = stO lt n q (2 * bs) (mgO lt bs n (n + 1) 0 l) := by
  show (if bs < n then _ else _) = _
  rw [if_pos h]
theorem stO_end {lt : α → α → Bool} {n q bs : Nat} {l : List α} (h : ¬ bs < n) : stO lt n q bs l = l := by
  cases q with
  | zero => rfl
  | succ q =>
    show (if bs < n then _ else l) = _
    rw [if_neg h]

set_option maxRecDepth 100000 in
set_option maxHeartbeats 4000000 in
theorem stable_st (h : StW pr st w0 base blk cap n L W) (hc : CmpW g lb pr st cf w0 blk) (eg : ∀ args w, (callFunc g args).run Tryd.prog w = .ok (.enter g args) w) (hsz : n ≤ 1000000) :
    Calls Tryd.prog 90 #[.slice (some ⟨blk, 0, none⟩) n cap, .int .i64 n, .func (.func g) #[] lb] W (StP pr st w0 base blk cap n (stR (ltI cf) L)) := by
  have hn := h.len
  have HR : Hid (stR (ltI cf) L = stO (ltI cf) n (n + 1) 20 (blO (ltI cf) n (n + 1) 0 L)) := Lib.hid (by unfold stR; rw [hn])
  have HH := Lib.hid h
  have HINS := Lib.hid (fun W (L1 : List α) (h : StW pr st w0 base blk cap n L1 W) a b => ins_st h hc eg a b)
  have HSYM := Lib.hid (fun N => sym_st (base := base) (cap := cap) (n := n) hc eg hsz N)
  clear h hc eg hn
  go_enter Tryd.func90, Tryd.ntmps90
  go_wp2
  go_loopg [7, 8] n (fun gg s7 s8 wr => ∃ (a : Nat) (L1 : List α), a ≤ n ∧ n - a ≤ gg ∧ s7 = .int .i64 a ∧ s8 = .int .i64 ((a + 20 : Nat) : Int) ∧ Aside (StW pr st w0 base blk cap n L1 wr) ∧ Aside (∃ q, n - a ≤ q ∧ blO (ltI cf) n (q + 1) a L1 = blO (ltI cf) n (n + 1) 0 L))
  case atStart => exact ⟨0, L, by omega, by omega, rfl, rfl, HH.out, (show Aside _ from ⟨n, by omega, rfl⟩)⟩
  case round =>
    obtain ⟨wo, rfl⟩ : ∃ wo : World, wo = wr := ⟨_, rfl⟩
    obtain ⟨a, L1, han, hga, rfl, rfl, HE, HB⟩ := hrel
    obtain ⟨q, hq, hbs⟩ := HB.out
    by_cases hle : a + 20 ≤ n
    · have hlez : ((a + 20 : Nat) : Int) ≤ (n : Int) := by omega
      have HC := Lib.hid (HINS.out _ _ HE.out a (a + 20) (by omega) hle hsz)
      obtain ⟨q, rfl⟩ : ∃ q', q = q' + 1 := ⟨q - 1, by omega⟩
      rw [blO_go hle] at hbs
      have HBS := Lib.hid hbs
      have hw := wrapAdd (a + 20) 20 (by omega)
      obtain ⟨b, hb⟩ : ∃ b, b = a + 20 := ⟨_, rfl⟩
      rw [← hb] at hlez HC HBS hw ⊢
      have HBB := Lib.hid hb
      clear hbs HB hb
      go_wp2_with (go_at_call 107; refine (HC.out).mono ?_; rintro e' w6 ⟨rfl, hq⟩; have HQ6 := Lib.hid hq; clear hq)
      go_roundg (n - b)
      case measure => have := HBB.out; omega
      case rel => exact ⟨b, insB (ltI cf) a b L1, by have := HBB.out; omega, by omega, rfl, by first | rfl | go_num, HQ6.out, (show Aside _ from ⟨q, by have := HBB.out; omega, HBS.out⟩)⟩
    · have hlez : ¬ ((a + 20 : Nat) : Int) ≤ (n : Int) := by omega
      have HC := Lib.hid (HINS.out _ _ HE.out a n han (Nat.le_refl _) hsz)
      rw [blO_end hle] at hbs
      rw [← hbs] at HR
      obtain ⟨L2, hL2⟩ : ∃ L2, L2 = insB (ltI cf) a n L1 := ⟨_, rfl⟩
      rw [← hL2] at HR HC
      clear hbs HB hL2 HE
      go_wp2_with (go_at_call 107; refine (HC.out).mono ?_; rintro e' w6 ⟨rfl, hq⟩; have HQ6 := Lib.hid hq; clear hq)
      go_loopg [6] n (fun gg s6 wr => ∃ (bs : Nat) (L3 : List α), 0 < bs ∧ bs ≤ 2 * n + 20 ∧ n - bs ≤ gg ∧ s6 = .int .i64 bs ∧ Aside (StW pr st w0 base blk cap n L3 wr) ∧ Aside (∃ q, n - bs ≤ q ∧ stO (ltI cf) n (q + 1) bs L3 = stR (ltI cf) L))
      case atStart => exact ⟨20, L2, by omega, by omega, by omega, rfl, HQ6.out, (show Aside _ from ⟨n, by omega, HR.out.symm⟩)⟩
      case round =>
        obtain ⟨wp, rfl⟩ : ∃ wp : World, wp = wr := ⟨_, rfl⟩
        obtain ⟨bs, L3, hbs0, hbs1, hgb, rfl, HE3, HB3⟩ := hrel
        obtain ⟨q3, hq3, hst⟩ := HB3.out
        by_cases hbn : bs < n
        · have hbnz : (bs : Int) < (n : Int) := by omega
          obtain ⟨q3, rfl⟩ : ∃ q', q3 = q' + 1 := ⟨q3 - 1, by omega⟩
          rw [stO_go hbn] at hst
          have HST := Lib.hid hst
          have hw2 : IntKind.i64.wrap (2 * (bs : Int)) = ((2 * bs : Nat) : Int) := by rw [show 2 * (bs : Int) = ((2 * bs : Nat) : Int) by omega]; exact IntWalk.i64_in _ (by omega)
          have hw3 : IntKind.i64.wrap ((bs : Int) * 2) = ((2 * bs : Nat) : Int) := by rw [show (bs : Int) * 2 = ((2 * bs : Nat) : Int) by omega]; exact IntWalk.i64_in _ (by omega)
          obtain ⟨b2, hb2⟩ : ∃ b2, b2 = 2 * bs := ⟨_, rfl⟩
          rw [← hb2] at hw2 hw3 HST
          have HB2 := Lib.hid hb2
          clear hst HB3 hb2 HQ6 HH HC HR
          go_wp2
          go_loopg [7, 8] n (fun g2 s7 s8 wr => ∃ (a : Nat) (L4 : List α), a ≤ n ∧ n - a ≤ g2 ∧ s7 = .int .i64 a ∧ s8 = .int .i64 ((a + b2 : Nat) : Int) ∧ Aside (StW pr st w0 base blk cap n L4 wr) ∧ Aside (∃ q, n - a ≤ q ∧ mgO (ltI cf) bs n (q + 1) a L4 = mgO (ltI cf) bs n (n + 1) 0 L3))
          case atStart => exact ⟨0, L3, by omega, by omega, rfl, by rw [Nat.zero_add], HE3.out, (show Aside _ from ⟨n, by omega, rfl⟩)⟩
          case round =>
            obtain ⟨wt, rfl⟩ : ∃ wt : World, wt = wr := ⟨_, rfl⟩
            obtain ⟨a, L4, han, hg2, rfl, rfl, HE4, HB4⟩ := hrel
            obtain ⟨q4, hq4, hmg⟩ := HB4.out
            have hwm := wrapAdd a bs (by omega)
            by_cases hle2 : a + b2 ≤ n
            · have hlez2 : ((a + b2 : Nat) : Int) ≤ (n : Int) := by omega
              obtain ⟨q4, rfl⟩ : ∃ q', q4 = q' + 1 := ⟨q4 - 1, by have := HB2.out; omega⟩
              rw [mgO_go (by have := HB2.out; omega), ← HB2.out] at hmg
              have HMG := Lib.hid hmg
              have HC4 := Lib.hid (HSYM.out b2 _ _ a (a + bs) (a + b2) HE4.out (by omega) (by have := HB2.out; omega) hle2 (by omega))
              obtain ⟨b, hb⟩ : ∃ b, b = a + b2 := ⟨_, rfl⟩
              obtain ⟨m, hm⟩ : ∃ m, m = a + bs := ⟨_, rfl⟩
              rw [← hb] at hlez2 HC4 HMG ⊢
              rw [← hm] at hwm HC4 HMG
              have hw4 := wrapAdd b b2 (by have := HB2.out; omega)
              have HBB := Lib.hid (And.intro hb hm)
              clear hmg HB4 hb hm
              go_wp2_with (go_at_call 108; refine (HC4.out).mono ?_; rintro e' w7 ⟨rfl, hq⟩; have HQ7 := Lib.hid hq; clear hq)
              go_roundg (n - b)
              case measure => have := HBB.out; have := HB2.out; omega
              case rel => exact ⟨b, symR (ltI cf) b2 a m b L4, by have := HBB.out; omega, by omega, rfl, by first | rfl | go_num, HQ7.out, (show Aside _ from ⟨q4, by have := HBB.out; have := HB2.out; omega, HMG.out⟩)⟩
            · have hlez2 : ¬ ((a + b2 : Nat) : Int) ≤ (n : Int) := by omega
              by_cases h2 : a + bs < n
              · rw [mgO_two (by have := HB2.out; omega) h2] at hmg
                have HMG := Lib.hid hmg
                have HC4 := Lib.hid (HSYM.out (n - a) _ _ a (a + bs) n HE4.out (by omega) (by omega) (Nat.le_refl _) (by omega))
                obtain ⟨m, hm⟩ : ∃ m, m = a + bs := ⟨_, rfl⟩
                have hmz : (m : Int) < (n : Int) := by omega
                rw [← hm] at hwm HC4 HMG
                rw [HMG.out] at HC4
                clear hmg HB4 hm h2
                go_wp2_with (go_at_call 108; refine (HC4.out).mono ?_; rintro e' w7 ⟨rfl, hq⟩; have HQ7 := Lib.hid hq; clear hq)
                go_roundg (n - b2)
                case measure => have := HB2.out; omega
                case rel => exact ⟨b2, _, by have := HB2.out; omega, by have := HB2.out; omega, by omega, by first | rfl | go_num, HQ7.out, (show Aside _ from ⟨q3, by have := HB2.out; omega, HST.out⟩)⟩
              · rw [mgO_one (by have := HB2.out; omega) h2] at hmg
                have HMG := Lib.hid hmg
                have HE5 := Lib.hid HE4.out
                rw [HMG.out] at HE5
                obtain ⟨m, hm⟩ : ∃ m, m = a + bs := ⟨_, rfl⟩
                have hmz : ¬ (m : Int) < (n : Int) := by omega
                rw [← hm] at hwm
                clear hmg HB4 hm h2 HE4
                go_wp2
                go_roundg (n - b2)
                case measure => have := HB2.out; omega
                case rel => exact ⟨b2, _, by have := HB2.out; omega, by have := HB2.out; omega, by omega, by first | rfl | go_num, HE5.out, (show Aside _ from ⟨q3, by have := HB2.out; omega, HST.out⟩)⟩
        · have hbnz : ¬ (bs : Int) < (n : Int) := by omega
          rw [stO_end hbn] at hst
          have HST := Lib.hid hst
          clear hst HB3
          go_wp2
          go_end0
          exact ⟨rfl, by rw [← HST.out]; exact HE3.out⟩
theorem sortStable_st (h : StW pr st w0 base blk cap n L W) (hc : CmpW g lb pr st cf w0 blk) (eg : ∀ args w, (callFunc g args).run Tryd.prog w = .ok (.enter g args) w) (hsz : n ≤ 1000000) :
    Calls Tryd.prog 56 #[.slice (some ⟨blk, 0, none⟩) n cap, .func (.func g) #[] lb] W (StP pr st w0 base blk cap n (stR (ltI cf) L)) := by
  have H := Lib.hid (stable_st h hc eg hsz)
  clear h hc eg
  go_enter Tryd.func56, Tryd.ntmps56
  go_wp2_with (go_at_call 90; refine (H.out).mono ?_; rintro e' w7 ⟨rfl, hq⟩; have HQ7 := Lib.hid hq; clear hq)
  go_end0
  exact ⟨rfl, HQ7.out⟩
end
end Go.Proofs.YtmgbmoiefgfemaaDoor

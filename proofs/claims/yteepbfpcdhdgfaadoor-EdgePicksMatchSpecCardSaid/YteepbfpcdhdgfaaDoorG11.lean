/- slices.SortStableFunc at strings: the walk. -/
import Derived.Test.YteepbfpcdhdgfaaDoorG10
import Derived.Test.YteepbfpcdhdgfaaDoorG08
import Derived.Lib.OwnBridge
import Derived.Test.YteepbfpcdhdgfaaDoorG03
import Derived.Test.YteepbfpcdhdgfaaDoorG05
namespace Go.Proofs.YteepbfpcdhdgfaaDoor
open Go.RowKit
set_option linter.unusedSectionVars false

section
variable {α : Type} [Inhabited α]
variable {pr : α → Prop} {st : α → ByteArray} {w0 W : World} {base blk cap n : Nat} {L : List α} {g : Nat} {lb : Array Value} {cf : α → α → Int}

theorem blO_go {lt : α → α → Bool} {n q a : Nat} {l : List α} (h : a + 20 ≤ n) : blO lt n (q + 1) a l = blO lt n q (a + 20) (insB lt a (a + 20) l) := by
  show (if a + 20 ≤ n then _ else _) = _
  rw [if_pos h]
theorem blO_end {lt : α → α → Bool} {n q a : Nat} {l : List α} (h : ¬ a + 20 ≤ n) : blO lt n (q + 1) a l = insB lt a n l := by
  show (if a + 20 ≤ n then _ else _) = _
  rw [if_neg h]
theorem mgO_go {lt : α → α → Bool} {bs n q a : Nat} {l : List α} (h : a + 2 * bs ≤ n) : mgO lt bs n (q + 1) a l = mgO lt bs n q (a + 2 * bs) (symR lt (2 * bs) a (a + bs) (a + 2 * bs) l) := by
  show (if a + 2 * bs ≤ n then _ else _) = _
  rw [if_pos h]
theorem mgO_two {lt : α → α → Bool} {bs n q a : Nat} {l : List α} (h : ¬ a + 2 * bs ≤ n) (h2 : a + bs < n) : mgO lt bs n (q + 1) a l = symR lt (n - a) a (a + bs) n l := by
  show (if a + 2 * bs ≤ n then _ else if a + bs < n then _ else _) = _
  rw [if_neg h, if_pos h2]
theorem mgO_one {lt : α → α → Bool} {bs n q a : Nat} {l : List α} (h : ¬ a + 2 * bs ≤ n) (h2 : ¬ a + bs < n) : mgO lt bs n (q + 1) a l = l := by
  show (if a + 2 * bs ≤ n then _ else if a + bs < n then _ else l) = _
  rw [if_neg h, if_neg h2]
theorem stO_go {lt : α → α → Bool} {n q bs : Nat} {l : List α} (h : bs < n) : stO lt n (q + 1) bs l = stO lt n q (2 * bs) (mgO lt bs n (n + 1) 0 l) := by
  show (if bs < n then _ else _) = _
  rw [if_pos h]
theorem stO_end {lt : α → α → Bool} {n q bs : Nat} {l : List α} (h : ¬ bs < n) : stO lt n q bs l = l := by
  cases q with
  | zero => rfl
  | succ q =>
    show (if bs < n then _ else l) = _
    rw [if_neg h]

set_option maxRecDepth 100000 in
set_option maxHeartbeats 4000000 in
theorem stable_st (h : StW pr st w0 base blk cap n L W) (hc : CmpW g lb pr st cf w0 blk) (eg : ∀ args w, (callFunc g args).run Tryd.prog w = .ok (.enter g args) w) (hsz : n ≤ 1000000) :
    Calls Tryd.prog 51 #[.slice (some ⟨blk, 0, none⟩) n cap, .int .i64 n, .func (.func g) #[] lb] W (StP pr st w0 base blk cap n (stR (ltI cf) L)) := by
  have hn := h.len
  have HR : Hid (stR (ltI cf) L = stO (ltI cf) n (n + 1) 20 (blO (ltI cf) n (n + 1) 0 L)) := Lib.hid (by unfold stR; rw [hn])
  have HH := Lib.hid h
  have HINS := Lib.hid (fun W (L1 : List α) (h : StW pr st w0 base blk cap n L1 W) a b => ins_st h hc eg a b)
  have HSYM := Lib.hid (fun N => sym_st (base := base) (cap := cap) (n := n) hc eg hsz N)
  clear h hc eg hn
  go_enter Tryd.func51, Tryd.ntmps51
  go_wp2
  go_loopg [7, 8] n (fun gg s7 s8 wr => ∃ (a : Nat) (L1 : List α), a ≤ n ∧ n - a ≤ gg ∧ s7 = .int .i64 a ∧ s8 = .int .i64 ((a + 20 : Nat) : Int) ∧ Aside (StW pr st w0 base blk cap n L1 wr) ∧ Aside (∃ q, n - a ≤ q ∧ blO (ltI cf) n (q + 1) a L1 = blO (ltI cf) n (n + 1) 0 L))
  case atStart => exact ⟨0, L, by omega, by omega, rfl, rfl, HH.out, (show Aside _ from ⟨n, by omega, rfl⟩)⟩
  case round =>
    obtain ⟨wo, rfl⟩ : ∃ wo : World, wo = wr := ⟨_, rfl⟩
    obtain ⟨a, L1, han, hga, rfl, rfl, HE, HB⟩ := hrel
    obtain ⟨q, hq, hbs⟩ := HB.out
    by_cases hle : a + 20 ≤ n
    · have hlez : ((a + 20 : Nat) : Int) ≤ (n : Int) := by omega
      have HC := Lib.hid (HINS.out _ _ HE.out a (a + 20) (by omega) hle hsz)
      obtain ⟨q, rfl⟩ : ∃ q', q = q' + 1 := ⟨q - 1, by omega⟩
      rw [blO_go hle] at hbs
      have HBS := Lib.hid hbs
      have hw := wrapAdd (a + 20) 20 (by omega)
      obtain ⟨b, hb⟩ : ∃ b, b = a + 20 := ⟨_, rfl⟩
      rw [← hb] at hlez HC HBS hw ⊢
      have HBB := Lib.hid hb
      clear hbs HB hb
      go_wp2_with (go_at_call 65; refine (HC.out).mono ?_; rintro e' w6 ⟨rfl, hq⟩; have HQ6 := Lib.hid hq; clear hq)
      go_roundg (n - b)
      case measure => have := HBB.out; omega
      case rel => exact ⟨b, insB (ltI cf) a b L1, by have := HBB.out; omega, by omega, rfl, by first | rfl | go_num, HQ6.out, (show Aside _ from ⟨q, by have := HBB.out; omega, HBS.out⟩)⟩
    · have hlez : ¬ ((a + 20 : Nat) : Int) ≤ (n : Int) := by omega
      have HC := Lib.hid (HINS.out _ _ HE.out a n han (Nat.le_refl _) hsz)
      rw [blO_end hle] at hbs
      rw [← hbs] at HR
      obtain ⟨L2, hL2⟩ : ∃ L2, L2 = insB (ltI cf) a n L1 := ⟨_, rfl⟩
      rw [← hL2] at HR HC
      clear hbs HB hL2 HE
      go_wp2_with (go_at_call 65; refine (HC.out).mono ?_; rintro e' w6 ⟨rfl, hq⟩; have HQ6 := Lib.hid hq; clear hq)
      go_loopg [6] n (fun gg s6 wr => ∃ (bs : Nat) (L3 : List α), 0 < bs ∧ bs ≤ 2 * n + 20 ∧ n - bs ≤ gg ∧ s6 = .int .i64 bs ∧ Aside (StW pr st w0 base blk cap n L3 wr) ∧ Aside (∃ q, n - bs ≤ q ∧ stO (ltI cf) n (q + 1) bs L3 = stR (ltI cf) L))
      case atStart => exact ⟨20, L2, by omega, by omega, by omega, rfl, HQ6.out, (show Aside _ from ⟨n, by omega, HR.out.symm⟩)⟩
      case round =>
        obtain ⟨wp, rfl⟩ : ∃ wp : World, wp = wr := ⟨_, rfl⟩
        obtain ⟨bs, L3, hbs0, hbs1, hgb, rfl, HE3, HB3⟩ := hrel
        obtain ⟨q3, hq3, hst⟩ := HB3.out
        by_cases hbn : bs < n
        · have hbnz : (bs : Int) < (n : Int) := by omega
          obtain ⟨q3, rfl⟩ : ∃ q', q3 = q' + 1 := ⟨q3 - 1, by omega⟩
          rw [stO_go hbn] at hst
          have HST := Lib.hid hst
          have hw2 : IntKind.i64.wrap (2 * (bs : Int)) = ((2 * bs : Nat) : Int) := by rw [show 2 * (bs : Int) = ((2 * bs : Nat) : Int) by omega]; exact IntWalk.i64_in _ (by omega)
          have hw3 : IntKind.i64.wrap ((bs : Int) * 2) = ((2 * bs : Nat) : Int) := by rw [show (bs : Int) * 2 = ((2 * bs : Nat) : Int) by omega]; exact IntWalk.i64_in _ (by omega)
          obtain ⟨b2, hb2⟩ : ∃ b2, b2 = 2 * bs := ⟨_, rfl⟩
          rw [← hb2] at hw2 hw3 HST
          have HB2 := Lib.hid hb2
          clear hst HB3 hb2 HQ6 HH HC HR
          go_wp2
          go_loopg [7, 8] n (fun g2 s7 s8 wr => ∃ (a : Nat) (L4 : List α), a ≤ n ∧ n - a ≤ g2 ∧ s7 = .int .i64 a ∧ s8 = .int .i64 ((a + b2 : Nat) : Int) ∧ Aside (StW pr st w0 base blk cap n L4 wr) ∧ Aside (∃ q, n - a ≤ q ∧ mgO (ltI cf) bs n (q + 1) a L4 = mgO (ltI cf) bs n (n + 1) 0 L3))
          case atStart => exact ⟨0, L3, by omega, by omega, rfl, by rw [Nat.zero_add], HE3.out, (show Aside _ from ⟨n, by omega, rfl⟩)⟩
          case round =>
            obtain ⟨wt, rfl⟩ : ∃ wt : World, wt = wr := ⟨_, rfl⟩
            obtain ⟨a, L4, han, hg2, rfl, rfl, HE4, HB4⟩ := hrel
            obtain ⟨q4, hq4, hmg⟩ := HB4.out
            have hwm := wrapAdd a bs (by omega)
            by_cases hle2 : a + b2 ≤ n
            · have hlez2 : ((a + b2 : Nat) : Int) ≤ (n : Int) := by omega
              obtain ⟨q4, rfl⟩ : ∃ q', q4 = q' + 1 := ⟨q4 - 1, by have := HB2.out; omega⟩
              rw [mgO_go (by have := HB2.out; omega), ← HB2.out] at hmg
              have HMG := Lib.hid hmg
              have HC4 := Lib.hid (HSYM.out b2 _ _ a (a + bs) (a + b2) HE4.out (by omega) (by have := HB2.out; omega) hle2 (by omega))
              obtain ⟨b, hb⟩ : ∃ b, b = a + b2 := ⟨_, rfl⟩
              obtain ⟨m, hm⟩ : ∃ m, m = a + bs := ⟨_, rfl⟩
              rw [← hb] at hlez2 HC4 HMG ⊢
              rw [← hm] at hwm HC4 HMG
              have hw4 := wrapAdd b b2 (by have := HB2.out; omega)
              have HBB := Lib.hid (And.intro hb hm)
              clear hmg HB4 hb hm
              go_wp2_with (go_at_call 66; refine (HC4.out).mono ?_; rintro e' w7 ⟨rfl, hq⟩; have HQ7 := Lib.hid hq; clear hq)
              go_roundg (n - b)
              case measure => have := HBB.out; have := HB2.out; omega
              case rel => exact ⟨b, symR (ltI cf) b2 a m b L4, by have := HBB.out; omega, by omega, rfl, by first | rfl | go_num, HQ7.out, (show Aside _ from ⟨q4, by have := HBB.out; have := HB2.out; omega, HMG.out⟩)⟩
            · have hlez2 : ¬ ((a + b2 : Nat) : Int) ≤ (n : Int) := by omega
              by_cases h2 : a + bs < n
              · rw [mgO_two (by have := HB2.out; omega) h2] at hmg
                have HMG := Lib.hid hmg
                have HC4 := Lib.hid (HSYM.out (n - a) _ _ a (a + bs) n HE4.out (by omega) (by omega) (Nat.le_refl _) (by omega))
                obtain ⟨m, hm⟩ : ∃ m, m = a + bs := ⟨_, rfl⟩
                have hmz : (m : Int) < (n : Int) := by omega
                rw [← hm] at hwm HC4 HMG
                rw [HMG.out] at HC4
                clear hmg HB4 hm h2
                go_wp2_with (go_at_call 66; refine (HC4.out).mono ?_; rintro e' w7 ⟨rfl, hq⟩; have HQ7 := Lib.hid hq; clear hq)
                go_roundg (n - b2)
                case measure => have := HB2.out; omega
                case rel => exact ⟨b2, _, by have := HB2.out; omega, by have := HB2.out; omega, by omega, by first | rfl | go_num, HQ7.out, (show Aside _ from ⟨q3, by have := HB2.out; omega, HST.out⟩)⟩
              · rw [mgO_one (by have := HB2.out; omega) h2] at hmg
                have HMG := Lib.hid hmg
                have HE5 := Lib.hid HE4.out
                rw [HMG.out] at HE5
                obtain ⟨m, hm⟩ : ∃ m, m = a + bs := ⟨_, rfl⟩
                have hmz : ¬ (m : Int) < (n : Int) := by omega
                rw [← hm] at hwm
                clear hmg HB4 hm h2 HE4
                go_wp2
                go_roundg (n - b2)
                case measure => have := HB2.out; omega
                case rel => exact ⟨b2, _, by have := HB2.out; omega, by have := HB2.out; omega, by omega, by first | rfl | go_num, HE5.out, (show Aside _ from ⟨q3, by have := HB2.out; omega, HST.out⟩)⟩
        · have hbnz : ¬ (bs : Int) < (n : Int) := by omega
          rw [stO_end hbn] at hst
          have HST := Lib.hid hst
          clear hst HB3
          go_wp2
          go_end0
          exact ⟨rfl, by rw [← HST.out]; exact HE3.out⟩
theorem sortStable_st (h : StW pr st w0 base blk cap n L W) (hc : CmpW g lb pr st cf w0 blk) (eg : ∀ args w, (callFunc g args).run Tryd.prog w = .ok (.enter g args) w) (hsz : n ≤ 1000000) :
    Calls Tryd.prog 34 #[.slice (some ⟨blk, 0, none⟩) n cap, .func (.func g) #[] lb] W (StP pr st w0 base blk cap n (stR (ltI cf) L)) := by
  have H := Lib.hid (stable_st h hc eg hsz)
  clear h hc eg
  go_enter Tryd.func34, Tryd.ntmps34
  go_wp2_with (go_at_call 51; refine (H.out).mono ?_; rintro e' w7 ⟨rfl, hq⟩; have HQ7 := Lib.hid hq; clear hq)
  go_end0
  exact ⟨rfl, HQ7.out⟩
end
end Go.Proofs.YteepbfpcdhdgfaaDoor

/- pick: the walk. -/
namespace Go.Proofs.YteepbfpcdhdgfaaDoor
open Go.RowKit

abbrev encN (s : ByteArray) : List Value := [.string s]
theorem encN_len (s : ByteArray) : (encN s).length = 1 := rfl
theorem flatN (L : List ByteArray) : L.flatMap encN = L.map Value.string := by
  induction L with
  | nil => rfl
  | cons x r ih => rw [List.flatMap_cons, ih]; rfl
def ClnP (w : World) (K : List ByteArray) : Ending → World → Prop := fun e w' => ∃ v', e = .returned v' ∧ Own w' w.heap.size 9 1 encN v' K ∧ Below w.heap.size w w'
theorem ClnP.mk {w w' : World} {K : List ByteArray} {v' : Value} (h1 : w'.ownsRow w.heap.size 9 1 v' K.length (K.map Value.string)) (h2 : Below w.heap.size w w') : ClnP w K (.returned v') w' := ⟨v', rfl, by unfold Own; rw [flatN]; exact h1, h2⟩
theorem cloneS_any (w : World) (K : List ByteArray) (v : Value) (hl : Sl w 1 encN v K) (hn : K.length * 16 ≤ 140737488355328) :
    Calls Tryd.prog 10 #[v] w (ClnP w K) := by
  obtain ⟨ao, cap, rfl, hcap, hmax, hnil, hel⟩ := hl
  cases ao with
  | none =>
    have h0 : K = [] := List.eq_nil_of_length_eq_zero (by have := hnil rfl; omega)
    subst h0
    refine (Any.slices_Clone_string_nil Tryd.laysClnS 0 cap w).mono ?_
    rintro e w' ⟨rfl, rfl⟩
    exact ClnP.mk ⟨rfl, Or.inl ⟨rfl, rfl⟩⟩ (Below.refl _ _)
  | some a =>
    by_cases h0 : K = []
    · subst h0
      refine (Any.slices_Clone_string_zero Tryd.laysClnS a cap w).mono ?_
      rintro e w' ⟨v', rfl, h1, _, h2⟩
      exact ClnP.mk h1 h2
    · have hp : 0 < K.length := List.length_pos_iff.2 h0
      obtain ⟨b, off, hb, _⟩ := hel 0 K[0] (by simp)
      cases hb
      refine (Any.slices_Clone_string Tryd.laysClnS b off K.length cap K w (Nat.le_refl _) (by omega) (fun j hj => ?_)).mono ?_
      · obtain ⟨b', off', e, hc⟩ := hel j K[j] (by simp [hj])
        cases e
        have := hc 0 _ rfl
        rw [List.getD_eq_getElem?_getD, List.getElem?_eq_getElem hj]
        simpa using this
      · rintro e w' ⟨v', rfl, h1, _, h2⟩
        rw [List.take_length] at h1
        exact ClnP.mk h1 h2
theorem insNil_st (w : World) (ao : Option Addr) (cap : Nat) (f : Value) :
    Calls Tryd.prog 65 #[.slice ao 0 cap, .int .i64 0, .int .i64 0, f] w fun e w' => e = .returned (.tuple #[]) ∧ w' = w := by
  go_enter Tryd.func65, Tryd.ntmps65
  go_wp2_with fail
  refine wp_loop_rounds 1 ?_
  rw [rounds_succ]
  go_wp2_with fail
  go_end0
  exact ⟨rfl, rfl⟩
theorem sortNil_any (w : World) (ao : Option Addr) (cap : Nat) (f : Value) :
    Calls Tryd.prog 34 #[.slice ao 0 cap, f] w fun e w' => e = .returned (.tuple #[]) ∧ w' = w := by
  have HC := Lib.hid (insNil_st w ao cap f)
  have H1 : Hid (Calls Tryd.prog 51 #[.slice ao 0 cap, .int .i64 0, f] w fun e w' => e = .returned (.tuple #[]) ∧ w' = w) := Lib.hid (by
    go_enter Tryd.func51, Tryd.ntmps51
    go_wp2_with fail
    refine wp_loop_rounds 1 ?_
    rw [rounds_succ]
    go_wp2_with fail
    refine HC.out.mono ?_
    rintro e w' ⟨rfl, hq⟩
    subst hq
    go_wp2_with fail
    refine wp_loop_rounds 1 ?_
    rw [rounds_succ]
    go_wp2_with fail
    go_end0
    exact ⟨rfl, rfl⟩)
  go_enter Tryd.func34, Tryd.ntmps34
  go_wp2_with fail
  refine H1.out.mono ?_
  rintro e w' ⟨rfl, hq⟩
  subst hq
  go_wp2_with fail
  go_end0
  exact ⟨rfl, rfl⟩
/-- Caches in the order of their weights for a key. -/
def pickL (k : ByteArray) (L : List ByteArray) : List ByteArray := stR (ltI (cmpK k)) L
theorem pickL_nil (k : ByteArray) : pickL k [] = [] := rfl
def PikP (w : World) (L : List ByteArray) : Ending → World → Prop := fun e w' => ∃ v', e = .returned v' ∧ Own w' w.heap.size 9 1 encN v' L ∧ Below w.heap.size w w'
theorem Own.rebaseN {α : Type} {w : World} {base b2 : Nat} {E : TypeId} {k : Nat} {enc : α → List Value} {v : Value} {l : List α} (h : Own w base E k enc v l) (hb : b2 ≤ base) : Own w b2 E k enc v l := by
  obtain ⟨q1, q2⟩ := h
  refine ⟨q1, ?_⟩
  rcases q2 with q2 | ⟨g, cap, cur, e1, e2, r⟩
  · exact Or.inl q2
  · exact Or.inr ⟨g, cap, cur, e1, Nat.le_trans hb e2, r⟩

set_option maxRecDepth 100000 in
set_option maxHeartbeats 4000000 in
theorem pick_any (w : World) (L : List ByteArray) (v : Value) (k : ByteArray) (hl : Sl w 1 encN v L) (hn : L.length ≤ 30) (hL : ∀ a, a ∈ L → a.size ≤ 40) (hk : k.size ≤ 300) :
    Calls Tryd.prog 23 #[v, .string k] w (PikP w (pickL k L)) := by
  obtain ⟨w0, hw0⟩ : ∃ w0, w0 = w.alloc (.cells #[.string k] 9) := ⟨_, rfl⟩
  have HB0 : Hid (Below w.heap.size w w0) := Lib.hid (by rw [hw0]; exact (Below.refl _ w).alloc (Nat.le_refl _) _)
  have HK0 : Hid (w0.heap[w.heap.size]? = some (.cells #[.string k] 9 (0, 0))) := Lib.hid (by rw [hw0]; exact block_new w _)
  have HC := Lib.hid (cloneS_any w0 L v (hl.below HB0.out (Nat.le_refl _)) (by omega))
  have hsz0 : w.heap.size < w0.heap.size := by rw [hw0]; simp
  have HW0 := Lib.hid hw0
  obtain ⟨ao, cap, rfl, -, -, -, -⟩ := hl
  unfold ClnP at HC
  clear hw0
  go_enter Tryd.func23, Tryd.ntmps23
  go_wp2_with fail
  rw [← HW0.out]
  refine HC.out.mono ?_
  rintro e w1 ⟨v1, rfl, ho1, hb1⟩
  have HB1 := Lib.hid (HB0.out.thru hb1)
  by_cases hnil : L = []
  · subst hnil
    obtain ⟨a1, c1, rfl, -, -, -, -⟩ := ho1.sl encN_len
    have HO := Lib.hid ho1
    have HS := Lib.hid (fun f => sortNil_any w1 a1 c1 f)
    clear ho1 hb1
    go_wp2_with (go_at_call 34; refine (HS.out _).mono ?_; rintro e w2 ⟨rfl, hq⟩; subst hq)
    go_ret
    exact ⟨_, rfl, HO.out.rebaseN (Nat.le_of_lt hsz0), HB1.out⟩
  · obtain ⟨g, cap1, rfl, hg1, hg2, -, -, -, -⟩ := Own.getk encN_len ho1 hnil
    have hk1 := (hb1.block _ (Array.getElem?_eq_some_iff.1 HK0.out).1).trans HK0.out
    have hgB : w.heap.size ≠ g := by omega
    have hst : StW (fun a : ByteArray => a.size ≤ 40) id w1 w0.heap.size g cap1 L.length L w1 := ⟨ho1, Onl.refl _ _, rfl, hL⟩
    have hcm : CmpW 39 #[.pointer (some ⟨w.heap.size, 0, none⟩)] (fun a : ByteArray => a.size ≤ 40) id (cmpK k) w1 g := fun W ho x y hx hy => by
      have hc : W.cell? ⟨w.heap.size, 0, none⟩ = some (.string k) := (cell_of_block (ho.block hk1 hgB)).trans rfl
      exact pickCmp_any W w.heap.size k x y hk hx hy hc
    have eg : ∀ args w, (callFunc 39 args).run Tryd.prog w = .ok (.enter 39 args) w := enters_of Tryd.func39 (by kernel_rfl) rfl
    have HS := Lib.hid (sortStable_st hst hcm eg (by omega))
    have hsz := hb1.size
    clear ho1 hb1 hk1 hst hcm eg
    go_wp2_with (go_at_call 34; refine HS.out.mono ?_; rintro e w2 ⟨rfl, hq⟩; have HQ := Lib.hid hq; clear hq)
    go_ret
    refine ⟨_, rfl, ?_, HB1.out.trans (HQ.out.onl.toBelow HB1.out.size (by omega))⟩
    have h1 := HQ.out.own.rebaseN (Nat.le_of_lt hsz0)
    exact h1
end Go.Proofs.YteepbfpcdhdgfaaDoor

/- namesFault of edge and checkNames of the reference. -/
namespace Go.Proofs.YteepbfpcdhdgfaaDoor
open Go.RowKit

def sleN (a b : ByteArray) : Bool := Op.bytesLess a.toList b.toList || a.toList == b.toList
def naV (x p : ByteArray) (i : Nat) : Int := if nameB x = false then 5 else if (decide (0 < i) && sleN x p) = true then 8 else 0
def naA (L : List ByteArray) (i : Nat) : Int := naV (L.getD i ⟨#[]⟩) (L.getD (i - 1) ⟨#[]⟩) i
/-- The fault of names of caches. -/
def naF (L : List ByteArray) : Int := if 30 < L.length then 2 else FF (naA L) L.length
theorem naF_zero {L : List ByteArray} (h : naF L = 0) : L.length ≤ 30 ∧ (∀ x, x ∈ L → nameB x = true) ∧ ∀ i, 0 < i → i < L.length → sleN (L.getD i ⟨#[]⟩) (L.getD (i - 1) ⟨#[]⟩) = false := by
  unfold naF at h
  split at h
  · simp at h
  rename_i h1
  refine ⟨by omega, fun x hx => ?_, fun i h0 hi => ?_⟩
  · obtain ⟨i, hi, rfl⟩ := List.mem_iff_getElem.1 hx
    have h2 := FF_eq_zero h i hi
    unfold naA naV at h2
    rw [List.getD_eq_getElem?_getD, List.getElem?_eq_getElem hi] at h2
    cases e : nameB L[i]
    · rw [Option.getD_some, if_pos e] at h2
      simp at h2
    · rfl
  · have h2 := FF_eq_zero h i hi
    unfold naA naV at h2
    split at h2
    · simp at h2
    split at h2
    · simp at h2
    rename_i h3
    simpa [h0] using h3
set_option maxHeartbeats 1000000 in
theorem namesFault_any (w : World) (L : List ByteArray) (v : Value) (hl : Sl w 1 encS v L) (hw : ∀ x, x ∈ L → x.size ≤ 9223372036854775807) :
    Calls Tryd.prog 16 #[v] w fun e w' => e = .returned (.int .i64 (naF L)) ∧ Below w.heap.size w w' := by
  obtain ⟨ao, cap, rfl, hcap, hmax, _, hel⟩ := hl
  unfold maxLen at hmax
  have HEL := Lib.hid hel
  have HW := Lib.hid hw
  clear hel hw
  by_cases hbig : 30 < L.length
  · have hv : Hid (2 = naF L) := Lib.hid (by unfold naF; rw [if_pos hbig])
    have hz : (30 : Int) < (L.length : Int) := by omega
    go_enter Tryd.func16, Tryd.ntmps16
    go_wp2
    go_ret
    exact ⟨ret_int hv.out, Below.refl _ _⟩
  · have HV : Hid (naF L = FF (naA L) L.length) := Lib.hid (by unfold naF; rw [if_neg hbig])
    have hz : ¬ (30 : Int) < (L.length : Int) := by omega
    go_enter Tryd.func16, Tryd.ntmps16
    go_wp2
    go_loopg [3, 4, 10] L.length (fun gg s3 s4 s10 wr => ∃ i : Nat, i ≤ L.length ∧ L.length - i ≤ gg ∧ s10 = .int .i64 i ∧ Aside (∀ j, j < i → naA L j = 0) ∧ ∃ nn, wr = w.drewN nn)
    case atStart => exact ⟨0, by omega, by omega, rfl, (show Aside _ from fun j hj => absurd hj (Nat.not_lt_zero _)), 0, rfl⟩
    case round =>
      obtain ⟨i, hi, hgi, rfl, A, nn, rfl⟩ := hrel
      by_cases hil : i < L.length
      · have hiz : (i : Int) < (L.length : Int) := by omega
        obtain ⟨x, hx⟩ : ∃ x, L[i]? = some x := ⟨L[i], by simp [hil]⟩
        obtain ⟨p, hp⟩ : ∃ x, L[i - 1]? = some x := ⟨L[i - 1]'(by omega), by simp⟩
        obtain ⟨b, off, rfl, hc⟩ := HEL.out i x hx
        obtain ⟨b', off', hao', hc'⟩ := HEL.out (i - 1) p hp
        simp only [Option.some.injEq, Addr.mk.injEq, and_true] at hao'
        obtain ⟨rfl, rfl⟩ := hao'
        have c0 : w.cell? ⟨b, off + i, none⟩ = some (.string x) := by have h := hc 0 _ rfl; simpa using h
        have p0 : w.cell? ⟨b, off + (i - 1), none⟩ = some (.string p) := by have h := hc' 0 _ rfl; simpa using h
        have hxs := HW.out x (List.mem_of_getElem? hx)
        have HAT : Hid (naA L i = naV x p i) := Lib.hid (by unfold naA; rw [List.getD_eq_getElem?_getD, List.getD_eq_getElem?_getD, hx, hp]; rfl)
        clear hx hc hp hc'
        cases e1 : nameB x
        case false =>
          have hv : Hid (5 = naF L) := Lib.hid (by
            have hz : naA L i = 5 := by rw [HAT.out]; unfold naV; rw [if_pos e1]
            rw [HV.out, FF_hit hil A.out (by rw [hz]; decide), hz])
          go_wp2_with (go_at_call 28; refine (isName_any x _ hxs).mono ?_; rintro e w' ⟨rfl, rfl⟩; rw [e1])
          go_ret
          exact ⟨ret_int hv.out, below_drewN (Below.refl _ _) _⟩
        by_cases hk0 : i = 0
        · have hz0 : ¬ (0 : Int) < (i : Int) := by omega
          have HZ : Hid (naA L i = 0) := Lib.hid (by rw [HAT.out]; unfold naV; rw [if_neg (by simp [e1])]; simp [hk0])
          clear hk0
          go_wp2_with (go_at_call 28; refine (isName_any x _ hxs).mono ?_; rintro e w' ⟨rfl, rfl⟩; rw [e1])
          go_roundg (L.length - (i + 1))
          case measure => omega
          case rel =>
            refine ⟨i + 1, by omega, by omega, by go_num, (show Aside _ from fun j hj => ?_), _, rfl⟩
            by_cases e : j = i
            · rw [e]; exact HZ.out
            · exact A.out j (by omega)
        · have hz0 : (0 : Int) < (i : Int) := by omega
          have hi0 : 0 < i := by omega
          have ez2 : ((i : Int) - 1).toNat = i - 1 := by omega
          have hm1 : (i : Int) - 1 < (L.length : Int) := by omega
          have hm2 : (0 : Int) ≤ (i : Int) - 1 := by omega
          have hm3 : (1 : Int) ≤ (i : Int) := by omega
          have hwk : IntKind.i64.wrap ((i : Int) - 1) = (i : Int) - 1 := IntWalk.i64_in _ (by omega)
          have HVV : Hid (naV x p i = if sleN x p = true then 8 else 0) := Lib.hid (by unfold naV; rw [if_neg (by simp [e1])]; simp [hi0])
          clear hk0
          cases e2 : sleN x p
          all_goals
            have e3 : (Op.bytesLess x.toList p.toList || x.toList == p.toList) = _ := e2
          case true =>
            have hv : Hid (8 = naF L) := Lib.hid (by
              have hz : naA L i = 8 := by rw [HAT.out, HVV.out, if_pos e2]
              rw [HV.out, FF_hit hil A.out (by rw [hz]; decide), hz])
            clear e2
            go_wp2_with (go_at_call 28; refine (isName_any x _ hxs).mono ?_; rintro e w' ⟨rfl, rfl⟩; rw [e1])
            go_ret
            exact ⟨ret_int hv.out, below_drewN (Below.refl _ _) _⟩
          case false =>
            have HZ : Hid (naA L i = 0) := Lib.hid (by rw [HAT.out, HVV.out, if_neg (by simp [e2])])
            clear e2
            go_wp2_with (go_at_call 28; refine (isName_any x _ hxs).mono ?_; rintro e w' ⟨rfl, rfl⟩; rw [e1])
            go_roundg (L.length - (i + 1))
            case measure => omega
            case rel =>
              refine ⟨i + 1, by omega, by omega, by go_num, (show Aside _ from fun j hj => ?_), _, rfl⟩
              by_cases e : j = i
              · rw [e]; exact HZ.out
              · exact A.out j (by omega)
      · obtain rfl : i = L.length := by omega
        have hv : Hid (0 = naF L) := Lib.hid (by rw [HV.out, FF_zero A.out])
        go_wp2
        go_ret
        exact ⟨ret_int hv.out, below_drewN (Below.refl _ _) _⟩
set_option maxHeartbeats 1000000 in
theorem checkNames_any (w : World) (L : List ByteArray) (v : Value) (hl : Sl w 1 encS v L) (hw : ∀ x, x ∈ L → x.size ≤ 9223372036854775807) :
    Calls Tryd.prog 24 #[v] w fun e w' => e = .returned (.int .i64 (naF L)) ∧ Below w.heap.size w w' := by
  obtain ⟨ao, cap, rfl, hcap, hmax, _, hel⟩ := hl
  unfold maxLen at hmax
  have HEL := Lib.hid hel
  have HW := Lib.hid hw
  clear hel hw
  by_cases hbig : 30 < L.length
  · have hv : Hid (2 = naF L) := Lib.hid (by unfold naF; rw [if_pos hbig])
    have hz : (30 : Int) < (L.length : Int) := by omega
    go_enter Tryd.func24, Tryd.ntmps24
    go_wp2
    go_ret
    exact ⟨ret_int hv.out, Below.refl _ _⟩
  · have HV : Hid (naF L = FF (naA L) L.length) := Lib.hid (by unfold naF; rw [if_neg hbig])
    have hz : ¬ (30 : Int) < (L.length : Int) := by omega
    go_enter Tryd.func24, Tryd.ntmps24
    go_wp2
    go_loopg [3, 4, 10] L.length (fun gg s3 s4 s10 wr => ∃ i : Nat, i ≤ L.length ∧ L.length - i ≤ gg ∧ s10 = .int .i64 i ∧ Aside (∀ j, j < i → naA L j = 0) ∧ ∃ nn, wr = w.drewN nn)
    case atStart => exact ⟨0, by omega, by omega, rfl, (show Aside _ from fun j hj => absurd hj (Nat.not_lt_zero _)), 0, rfl⟩
    case round =>
      obtain ⟨i, hi, hgi, rfl, A, nn, rfl⟩ := hrel
      by_cases hil : i < L.length
      · have hiz : (i : Int) < (L.length : Int) := by omega
        obtain ⟨x, hx⟩ : ∃ x, L[i]? = some x := ⟨L[i], by simp [hil]⟩
        obtain ⟨p, hp⟩ : ∃ x, L[i - 1]? = some x := ⟨L[i - 1]'(by omega), by simp⟩
        obtain ⟨b, off, rfl, hc⟩ := HEL.out i x hx
        obtain ⟨b', off', hao', hc'⟩ := HEL.out (i - 1) p hp
        simp only [Option.some.injEq, Addr.mk.injEq, and_true] at hao'
        obtain ⟨rfl, rfl⟩ := hao'
        have c0 : w.cell? ⟨b, off + i, none⟩ = some (.string x) := by have h := hc 0 _ rfl; simpa using h
        have p0 : w.cell? ⟨b, off + (i - 1), none⟩ = some (.string p) := by have h := hc' 0 _ rfl; simpa using h
        have hxs := HW.out x (List.mem_of_getElem? hx)
        have HAT : Hid (naA L i = naV x p i) := Lib.hid (by unfold naA; rw [List.getD_eq_getElem?_getD, List.getD_eq_getElem?_getD, hx, hp]; rfl)
        clear hx hc hp hc'
        cases e1 : nameB x
        case false =>
          have hv : Hid (5 = naF L) := Lib.hid (by
            have hz : naA L i = 5 := by rw [HAT.out]; unfold naV; rw [if_pos e1]
            rw [HV.out, FF_hit hil A.out (by rw [hz]; decide), hz])
          go_wp2_with (go_at_call 41; refine (isName5_any x _ hxs).mono ?_; rintro e w' ⟨rfl, rfl⟩; rw [e1])
          go_ret
          exact ⟨ret_int hv.out, below_drewN (Below.refl _ _) _⟩
        by_cases hk0 : i = 0
        · have hz0 : ¬ (0 : Int) < (i : Int) := by omega
          have HZ : Hid (naA L i = 0) := Lib.hid (by rw [HAT.out]; unfold naV; rw [if_neg (by simp [e1])]; simp [hk0])
          clear hk0
          go_wp2_with (go_at_call 41; refine (isName5_any x _ hxs).mono ?_; rintro e w' ⟨rfl, rfl⟩; rw [e1])
          go_roundg (L.length - (i + 1))
          case measure => omega
          case rel =>
            refine ⟨i + 1, by omega, by omega, by go_num, (show Aside _ from fun j hj => ?_), _, rfl⟩
            by_cases e : j = i
            · rw [e]; exact HZ.out
            · exact A.out j (by omega)
        · have hz0 : (0 : Int) < (i : Int) := by omega
          have hi0 : 0 < i := by omega
          have ez2 : ((i : Int) - 1).toNat = i - 1 := by omega
          have hm1 : (i : Int) - 1 < (L.length : Int) := by omega
          have hm2 : (0 : Int) ≤ (i : Int) - 1 := by omega
          have hm3 : (1 : Int) ≤ (i : Int) := by omega
          have hwk : IntKind.i64.wrap ((i : Int) - 1) = (i : Int) - 1 := IntWalk.i64_in _ (by omega)
          have HVV : Hid (naV x p i = if sleN x p = true then 8 else 0) := Lib.hid (by unfold naV; rw [if_neg (by simp [e1])]; simp [hi0])
          clear hk0
          cases e2 : sleN x p
          all_goals
            have e3 : (Op.bytesLess x.toList p.toList || x.toList == p.toList) = _ := e2
          case true =>
            have hv : Hid (8 = naF L) := Lib.hid (by
              have hz : naA L i = 8 := by rw [HAT.out, HVV.out, if_pos e2]
              rw [HV.out, FF_hit hil A.out (by rw [hz]; decide), hz])
            clear e2
            go_wp2_with (go_at_call 41; refine (isName5_any x _ hxs).mono ?_; rintro e w' ⟨rfl, rfl⟩; rw [e1])
            go_ret
            exact ⟨ret_int hv.out, below_drewN (Below.refl _ _) _⟩
          case false =>
            have HZ : Hid (naA L i = 0) := Lib.hid (by rw [HAT.out, HVV.out, if_neg (by simp [e2])])
            clear e2
            go_wp2_with (go_at_call 41; refine (isName5_any x _ hxs).mono ?_; rintro e w' ⟨rfl, rfl⟩; rw [e1])
            go_roundg (L.length - (i + 1))
            case measure => omega
            case rel =>
              refine ⟨i + 1, by omega, by omega, by go_num, (show Aside _ from fun j hj => ?_), _, rfl⟩
              by_cases e : j = i
              · rw [e]; exact HZ.out
              · exact A.out j (by omega)
      · obtain rfl : i = L.length := by omega
        have hv : Hid (0 = naF L) := Lib.hid (by rw [HV.out, FF_zero A.out])
        go_wp2
        go_ret
        exact ⟨ret_int hv.out, below_drewN (Below.refl _ _) _⟩
end Go.Proofs.YteepbfpcdhdgfaaDoor

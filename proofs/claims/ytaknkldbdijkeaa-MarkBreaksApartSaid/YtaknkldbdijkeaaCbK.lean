/- CheckBreaks of the program and of the reference: what they return. -/
import Derived.Test.YtaknkldbdijkeaaLib
namespace Go.Proofs.Ytaknkldbdijkeaa
open Go.RowKit

structure Brk where
  ev : Int
  be : Int
  en : Int
deriving Inhabited, DecidableEq

def encB (x : Brk) : List Value := [.int .i64 x.ev, .int .i64 x.be, .int .i64 x.en]
theorem encB_len (x : Brk) : (encB x).length = 3 := rfl

/-- slices.IndexFunc at a break, of whatever predicate that leaves what was there as it was. -/
theorem idxB (g : Nat) (lb : Array Value) (p : Brk → Bool) (w : World) (l : List Brk) (v : Value) (hl : Sl w 3 encB v l)
    (eg : ∀ args w, (callFunc g args).run Try.prog w = .ok (.enter g args) w)
    (hp : ∀ W x, Below w.heap.size w W → Calls Try.prog g (#[.agg #[.int .i64 x.ev, .int .i64 x.be, .int .i64 x.en]] ++ lb) W fun e w' => e = .returned (.bool (p x)) ∧ Below W.heap.size W w') :
    Calls Try.prog 32 #[v, .func (.func g) #[] lb] w fun e w' => (∃ i : Int, e = .returned (.int .i64 i) ∧ decide (0 ≤ i) = l.any p) ∧ Below w.heap.size w w' := by
  obtain ⟨ao, cap, rfl, hcap, hmax, hnil, hel⟩ := hl
  unfold maxLen at hmax
  go_enter Try.func32, Try.ntmps32
  go_wp2
  go_loopg [5, 8] l.length (fun gg _ s8 wr => ∃ kk : Nat, kk ≤ l.length ∧ l.length - kk ≤ gg ∧ s8 = .int .i64 kk ∧ Aside (Below w.heap.size w wr) ∧ Aside (∀ j x, l[j]? = some x → j < kk → p x = false))
  case atStart => exact ⟨0, Nat.zero_le _, by omega, rfl, Below.refl _ w, fun j x _ hj => absurd hj (Nat.not_lt_zero _)⟩
  case round =>
    obtain ⟨kk, hkk, hg, rfl, BW, A⟩ := hrel
    by_cases hlt : kk < l.length
    · have hltz : (kk : Int) < (l.length : Int) := by omega
      obtain ⟨x, hx⟩ : ∃ x, l[kk]? = some x := ⟨l[kk], by simp [hlt]⟩
      obtain ⟨b, off, rfl, hc⟩ := hel kk x hx
      have hlt0 := World.block_lt_of_cell? w _ (hc 0 _ rfl)
      have c0 := (BW.out.cell (p := ⟨b, off + kk * 3, none⟩) hlt0).trans (hc 0 _ rfl)
      have c1 := (BW.out.cell (p := ⟨b, off + kk * 3 + 1, none⟩) hlt0).trans (hc 1 _ rfl)
      have c2 := (BW.out.cell (p := ⟨b, off + kk * 3 + 2, none⟩) hlt0).trans (hc 2 _ rfl)
      have hcall := hp wr x BW.out
      have HX : Hid (l[kk]? = some x) := hx
      clear hx hc hel hp
      cases hq : p x with
      | true =>
        rw [hq] at hcall
        go_wp2_with (go_at_fn g; refine hcall.mono ?_; rintro e w' ⟨rfl, hb'⟩)
        go_ret
        refine ⟨⟨kk, rfl, ?_⟩, BW.out.thru hb'⟩
        have : l.any p = true := List.any_eq_true.2 ⟨x, List.mem_of_getElem? HX.out, hq⟩
        simp [this]
      | false =>
        rw [hq] at hcall
        go_wp2_with (go_at_fn g; refine hcall.mono ?_; rintro e w' ⟨rfl, hb'⟩)
        go_roundg (l.length - (kk + 1))
        case measure => omega
        case rel =>
          refine ⟨kk + 1, by omega, by omega, by go_num, BW.out.thru hb', (show Aside _ from fun j y hy hj => ?_)⟩
          by_cases e : j = kk
          · subst e
            have := HX.out.symm.trans hy
            simp at this; subst this; exact hq
          · exact A.out j y hy (by omega)
    · have hltz : ¬ (kk : Int) < (l.length : Int) := by omega
      clear hel
      go_wp2
      go_ret
      refine ⟨⟨-1, rfl, ?_⟩, BW.out⟩
      have : l.any p = false := by
        rw [List.any_eq_false]
        intro x hx
        obtain ⟨j, hj, rfl⟩ := List.mem_iff_getElem.1 hx
        simp [A.out j l[j] (by simp [hj]) (by omega)]
      simp [this]

theorem anyB (g : Nat) (lb : Array Value) (p : Brk → Bool) (w : World) (l : List Brk) (v : Value) (hl : Sl w 3 encB v l)
    (eg : ∀ args w, (callFunc g args).run Try.prog w = .ok (.enter g args) w)
    (hp : ∀ W x, Below w.heap.size w W → Calls Try.prog g (#[.agg #[.int .i64 x.ev, .int .i64 x.be, .int .i64 x.en]] ++ lb) W fun e w' => e = .returned (.bool (p x)) ∧ Below W.heap.size W w') :
    Calls Try.prog 20 #[v, .func (.func g) #[] lb] w fun e w' => e = .returned (.bool (l.any p)) ∧ Below w.heap.size w w' := by
  have hc := idxB g lb p w l v hl eg hp
  clear hp hl
  go_enter Try.func20, Try.ntmps20
  go_wp2_with (go_at_call 32; refine hc.mono ?_; rintro e w' ⟨⟨i, rfl, hi⟩, hb'⟩)
  go_ret
  exact ⟨rfl, hb'⟩

def cbOf (x p : Brk) (i : Nat) (tw : Bool) : Int :=
  if outB x.ev 0 4294967295 || outB x.be 0 1000000000000000 || outB x.en (-1) 1000000000000000 then 1
  else if x.en ≠ -1 ∧ x.en ≤ x.be then 8
  else if 0 < i ∧ p.en = -1 then 11
  else if 0 < i ∧ x.be < p.en then 8
  else if tw then 7 else 0

def cbAt (l : List Brk) (i : Nat) : Int := cbOf (l.getD i default) (l.getD (i - 1) default) i ((l.take i).any fun o => o.ev == (l.getD i default).ev)

/-- The fault of breaks. -/
def checkB (l : List Brk) : Int := if 200 < l.length then 2 else FF (cbAt l) l.length

theorem sameEv (x : Brk) (ev : Int) (B : Nat) (W : World) (hc : W.cell? ⟨B, 0, none⟩ = some (.int .i64 ev)) :
    Calls Try.prog 21 #[.agg #[.int .i64 x.ev, .int .i64 x.be, .int .i64 x.en], .pointer (some ⟨B, 0, none⟩)] W fun e w' => e = .returned (.bool (x.ev == ev)) ∧ Below W.heap.size W w' := by
  have hlt := World.block_lt_of_cell? W _ hc
  go_enter Try.func21, Try.ntmps21
  go_wp2
  go_ret
  exact ⟨rfl, (Below.refl _ _).alloc (Nat.le_refl _) _⟩

set_option maxHeartbeats 2000000 in
theorem checkBreaks_any (w : World) (l : List Brk) (v : Value) (hl : Sl w 3 encB v l) :
    Calls Try.prog 8 #[v] w fun e w' => e = .returned (.int .i64 (checkB l)) ∧ Below w.heap.size w w' := by
  have hl0 := Lib.hid hl
  obtain ⟨ao, cap, rfl, hcap, hmax, hnil, hel⟩ := hl
  unfold maxLen at hmax
  by_cases hbig : 200 < l.length
  · have hv : Hid (2 = checkB l) := Lib.hid (by simp [checkB, hbig])
    clear hel hl0
    go_enter Try.func8, Try.ntmps8
    go_wp2
    go_ret
    exact ⟨ret_int hv.out, Below.refl _ _⟩
  · have hF : checkB l = FF (cbAt l) l.length := by simp [checkB, hbig]
    have HF := Lib.hid hF
    clear hF
    go_enter Try.func8, Try.ntmps8
    go_wp2
    go_loopg [10] l.length (fun gg s10 wr => ∃ kk : Nat, kk ≤ l.length ∧ l.length - kk ≤ gg ∧ s10 = .int .i64 kk ∧ Aside (Below w.heap.size w wr) ∧ Aside (∀ j, j < kk → cbAt l j = 0))
    case atStart => exact ⟨0, Nat.zero_le _, by omega, rfl, Below.refl _ w, fun j hj => absurd hj (Nat.not_lt_zero _)⟩
    case round =>
      obtain ⟨kk, hkk, hg, rfl, BW, A⟩ := hrel
      by_cases hlt : kk < l.length
      · have hltz : (kk : Int) < (l.length : Int) := by omega
        obtain ⟨x, hx⟩ : ∃ x, l[kk]? = some x := ⟨l[kk], by simp [hlt]⟩
        obtain ⟨b, off, rfl, hc⟩ := hel kk x hx
        have hlt0 := World.block_lt_of_cell? w _ (hc 0 _ rfl)
        have c0 := (BW.out.cell (p := ⟨b, off + kk * 3, none⟩) hlt0).trans (hc 0 _ rfl)
        have c1 := (BW.out.cell (p := ⟨b, off + kk * 3 + 1, none⟩) hlt0).trans (hc 1 _ rfl)
        have c2 := (BW.out.cell (p := ⟨b, off + kk * 3 + 2, none⟩) hlt0).trans (hc 2 _ rfl)
        obtain ⟨p, hp⟩ : ∃ x, l[kk - 1]? = some x := ⟨l[kk - 1]'(by omega), by simp⟩
        obtain ⟨b', off', hb', hc'⟩ := hel (kk - 1) p hp
        obtain ⟨rfl, rfl⟩ : b = b' ∧ off = off' := by simpa using hb'
        have cm : wr.cell? ⟨b, off + (kk - 1) * 3 + 2, none⟩ = some (.int .i64 p.en) := (BW.out.cell (p := ⟨b, off + (kk - 1) * 3 + 2, none⟩) hlt0).trans (hc' 2 _ rfl)
        have hbw : b < wr.heap.size := Nat.lt_of_lt_of_le hlt0 BW.out.size
        have hsl := (hl0.out.take rfl kk hkk).below BW.out (Nat.le_refl _)
        obtain ⟨tw, htw⟩ : ∃ tw, tw = (l.take kk).any fun o => o.ev == x.ev := ⟨_, rfl⟩
        have HTW := Lib.hid htw
        have hat : Hid (cbAt l kk = cbOf x p kk tw) := Lib.hid (by simp [cbAt, List.getD_eq_getElem?_getD, hx, hp, htw])
        have HFk := fun (h : cbOf x p kk tw ≠ 0) => (FF_hit (f := cbAt l) (n := l.length) (k := kk) hlt A.out (by rw [hat.out]; exact h)).trans hat.out
        have hszw := BW.out.size
        have hany : ∀ W, Below (wr.heap.size + 1) (wr.alloc (.cells #[.int .i64 x.ev, .int .i64 x.be, .int .i64 x.en] 29)) W → Calls Try.prog 20 #[.slice (some ⟨b, off, none⟩) kk cap, .func (.func 21) #[] #[.pointer (some ⟨wr.heap.size, 0, none⟩)]] W fun e w' => e = .returned (.bool tw) ∧ Below W.heap.size W w' := by
          intro W hW
          have hsz : wr.heap.size + 1 ≤ W.heap.size := by have := hW.size; simpa using this
          rw [htw]
          refine anyB 21 _ (fun o => o.ev == x.ev) W (l.take kk) _ (hsl.below (B := wr.heap.size) (((Below.refl _ _).alloc (Nat.le_refl _) _).trans (hW.mono (by omega))) (Nat.le_refl _)) (enters_of Try.func21 (by kernel_rfl) rfl) (fun W' y hb => ?_)
          refine sameEv y x.ev wr.heap.size W' ?_
          rw [hb.cell (p := ⟨wr.heap.size, 0, none⟩) (by show wr.heap.size < _; omega), hW.cell (p := ⟨wr.heap.size, 0, none⟩) (by show wr.heap.size < _; omega)]
          simp [go_sem]
        have HFK := Lib.hid HFk
        clear hx hp hb' hc hc' hel HFk htw
        have B1 := fun (h : cbOf x p kk tw ≠ 0) => HF.out.trans (HFK.out h)
        have HB1 := Lib.hid B1
        clear B1 HF HFK
        have hk0 : kk = 0 ∨ 0 < kk := by omega
        cases o1 : outB x.ev 0 4294967295
        case true =>
          have hv : Hid (cbOf x p kk tw = 1) := Lib.hid (by simp [cbOf, o1])
          go_wp2_with (first | (go_at_call 18; refine (out_any _ _ _ _).mono ?_; rintro e w' ⟨rfl, rfl⟩))
          go_ret
          exact ⟨ret_int (by rw [HB1.out (by rw [hv.out]; decide), hv.out]), BW.out.alloc hszw _⟩
        cases o2 : outB x.be 0 1000000000000000
        case true =>
          have hv : Hid (cbOf x p kk tw = 1) := Lib.hid (by simp [cbOf, o1, o2])
          go_wp2_with (first | (go_at_call 18; refine (out_any _ _ _ _).mono ?_; rintro e w' ⟨rfl, rfl⟩))
          go_ret
          exact ⟨ret_int (by rw [HB1.out (by rw [hv.out]; decide), hv.out]), BW.out.alloc hszw _⟩
        cases o3 : outB x.en (-1) 1000000000000000
        case true =>
          have hv : Hid (cbOf x p kk tw = 1) := Lib.hid (by simp [cbOf, o1, o2, o3])
          go_wp2_with (first | (go_at_call 18; refine (out_any _ _ _ _).mono ?_; rintro e w' ⟨rfl, rfl⟩))
          go_ret
          exact ⟨ret_int (by rw [HB1.out (by rw [hv.out]; decide), hv.out]), BW.out.alloc hszw _⟩
        have hC : Hid (cbOf x p kk tw = if x.en ≠ -1 ∧ x.en ≤ x.be then 8 else if 0 < kk ∧ p.en = -1 then 11 else if 0 < kk ∧ x.be < p.en then 8 else if tw then 7 else 0) := Lib.hid (by simp [cbOf, o1, o2, o3])
        by_cases q : x.en ≠ -1 ∧ x.en ≤ x.be
        · obtain ⟨q1, q2⟩ := q
          have e1 : (x.en != -1) = true := by simpa using q1
          have hv : Hid (cbOf x p kk tw = 8) := Lib.hid (by rw [hC.out, if_pos ⟨q1, q2⟩])
          clear q1
          go_wp2_with (first | (go_at_call 18; refine (out_any _ _ _ _).mono ?_; rintro e w' ⟨rfl, rfl⟩))
          go_ret
          exact ⟨ret_int (by rw [HB1.out (by rw [hv.out]; decide), hv.out]), BW.out.alloc hszw _⟩
        have hC1 : Hid (cbOf x p kk tw = if 0 < kk ∧ p.en = -1 then 11 else if 0 < kk ∧ x.be < p.en then 8 else if tw then 7 else 0) := Lib.hid (by rw [hC.out, if_neg q])
        clear hC
        have hq : (x.en != -1) = false ∨ ((x.en != -1) = true ∧ x.be < x.en) := by
          cases e : (x.en != -1) with
          | false => exact .inl rfl
          | true => exact .inr ⟨rfl, by have : x.en ≠ -1 := by simpa using e
                                        omega⟩
        clear q
        rcases hk0 with z | z
        · have hd : decide ((0 : Int) < (kk : Int)) = false := by simp; omega
          have hd' : ¬ (0 : Int) < (kk : Int) := by omega
          have hC2 : Hid (cbOf x p kk tw = if tw then 7 else 0) := Lib.hid (by rw [hC1.out, if_neg (by omega), if_neg (by omega)])
          have z' := Lib.hid z
          clear z hC1
          rcases hq with e1 | ⟨e1, q2⟩
          all_goals
            cases tw
            case true =>
              have hv : Hid (cbOf x p kk true = 7) := Lib.hid (by rw [hC2.out]; rfl)
              all_goals
                go_wp2_with (first | (go_at_call 18; refine (out_any _ _ _ _).mono ?_; rintro e w' ⟨rfl, rfl⟩))
                go_quiet (fail)
                go_wp2_with (go_at_call 20; refine (hany _ (below_drewN (Below.refl _ _) _)).mono ?_; rintro e w' ⟨rfl, hb'⟩)
                go_ret
                exact ⟨ret_int (by rw [HB1.out (by rw [hv.out]; decide), hv.out]), (below_drewN (BW.out.alloc hszw _) _).thru hb'⟩
            case false =>
              have hv : Hid (cbOf x p kk false = 0) := Lib.hid (by rw [hC2.out]; rfl)
              all_goals
                go_wp2_with (first | (go_at_call 18; refine (out_any _ _ _ _).mono ?_; rintro e w' ⟨rfl, rfl⟩))
                go_quiet (fail)
                go_wp2_with (go_at_call 20; refine (hany _ (below_drewN (Below.refl _ _) _)).mono ?_; rintro e w' ⟨rfl, hb'⟩)
                go_roundg (l.length - (kk + 1))
                case measure => omega
                case rel =>
                  refine ⟨kk + 1, by omega, by omega, by go_num, (below_drewN (BW.out.alloc hszw _) _).thru hb', (show Aside _ from fun j hj => ?_)⟩
                  by_cases e : j = kk
                  · rw [e, hat.out, hv.out]
                  · exact A.out j (by omega)
        · have hd : decide ((0 : Int) < (kk : Int)) = true := by simp; omega
          have hd' : (0 : Int) < (kk : Int) := by omega
          cases e2 : (p.en == -1)
          case true =>
            have hv : Hid (cbOf x p kk tw = 11) := Lib.hid (by rw [hC1.out, if_pos ⟨z, by simpa using e2⟩])
            rcases hq with e1 | ⟨e1, q2⟩
            all_goals
              go_wp2_with (first | (go_at_call 18; refine (out_any _ _ _ _).mono ?_; rintro e w' ⟨rfl, rfl⟩))
              go_ret
              exact ⟨ret_int (by rw [HB1.out (by rw [hv.out]; decide), hv.out]), BW.out.alloc hszw _⟩
          have n2 : p.en ≠ -1 := by simpa using e2
          by_cases q3 : x.be < p.en
          · have hv : Hid (cbOf x p kk tw = 8) := Lib.hid (by rw [hC1.out, if_neg (by simp [n2]), if_pos ⟨z, q3⟩])
            clear n2
            rcases hq with e1 | ⟨e1, q2⟩
            all_goals
              go_wp2_with (first | (go_at_call 18; refine (out_any _ _ _ _).mono ?_; rintro e w' ⟨rfl, rfl⟩))
              go_quiet (fail)
              go_wp2
              go_ret
              exact ⟨ret_int (by rw [HB1.out (by rw [hv.out]; decide), hv.out]), below_drewN (BW.out.alloc hszw _) _⟩
          · have hC2 : Hid (cbOf x p kk tw = if tw then 7 else 0) := Lib.hid (by rw [hC1.out, if_neg (by simp [n2]), if_neg (by omega)])
            clear n2 hC1
            rcases hq with e1 | ⟨e1, q2⟩
            all_goals
              cases tw
              case true =>
                have hv : Hid (cbOf x p kk true = 7) := Lib.hid (by rw [hC2.out]; rfl)
                all_goals
                  go_wp2_with (first | (go_at_call 18; refine (out_any _ _ _ _).mono ?_; rintro e w' ⟨rfl, rfl⟩))
                  go_quiet (fail)
                  go_wp2_with (go_at_call 20; refine (hany _ (below_drewN (Below.refl _ _) _)).mono ?_; rintro e w' ⟨rfl, hb'⟩)
                  go_ret
                  exact ⟨ret_int (by rw [HB1.out (by rw [hv.out]; decide), hv.out]), (below_drewN (BW.out.alloc hszw _) _).thru hb'⟩
              case false =>
                have hv : Hid (cbOf x p kk false = 0) := Lib.hid (by rw [hC2.out]; rfl)
                all_goals
                  go_wp2_with (first | (go_at_call 18; refine (out_any _ _ _ _).mono ?_; rintro e w' ⟨rfl, rfl⟩))
                  go_quiet (fail)
                  go_wp2_with (go_at_call 20; refine (hany _ (below_drewN (Below.refl _ _) _)).mono ?_; rintro e w' ⟨rfl, hb'⟩)
                  go_roundg (l.length - (kk + 1))
                  case measure => omega
                  case rel =>
                    refine ⟨kk + 1, by omega, by omega, by go_num, (below_drewN (BW.out.alloc hszw _) _).thru hb', (show Aside _ from fun j hj => ?_)⟩
                    by_cases e : j = kk
                    · rw [e, hat.out, hv.out]
                    · exact A.out j (by omega)
      · have hltz : ¬ (kk : Int) < (l.length : Int) := by omega
        clear hel
        have hz : Hid (checkB l = 0) := Lib.hid (by rw [HF.out, FF_zero (fun j hj => A.out j (by omega))])
        go_wp2
        go_ret
        exact ⟨ret_int hz.out.symm, BW.out⟩
end Go.Proofs.Ytaknkldbdijkeaa

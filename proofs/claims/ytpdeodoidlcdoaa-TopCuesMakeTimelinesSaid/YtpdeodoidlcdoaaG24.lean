/- known and free, of the reference. -/
import Derived.Test.YtpdeodoidlcdoaaG06
import Derived.Test.YtpdeodoidlcdoaaG07
import Derived.Test.YtpdeodoidlcdoaaG22
import Derived.Deep.RegionLaw
import Derived.StillTailTactics
import Derived.Test.YtpdeodoidlcdoaaG23
import Derived.Test.YtpdeodoidlcdoaaG08
namespace Go.Proofs.Ytpdeodoidlcdoaa
open Go.RowKit

/-- The time of the end, as the reference has it. -/
def enV (e : Evn) : Int := if e.op = true then -4611686018427387904 else e.en
abbrev encV (e : Evn) : List Value := [.int .i64 e.id, .int .i64 e.be, .int .i64 (enV e), .bool e.ca]
theorem encV_len (e : Evn) : (encV e).length = 4 := rfl
/-- Times of an event: none is the reference's 'open'. -/
def bndE (e : Evn) : Prop := -4000000000000000 ≤ e.en ∧ e.en ≤ 4000000000000000
def frB (tm : Int) (e : Evn) : Bool := !e.ca && (decide (tm < e.be) || e.op || decide (tm < e.en))
end Go.Proofs.Ytpdeodoidlcdoaa

/- A cue is heard: the reference. -/
namespace Go.Proofs.Ytpdeodoidlcdoaa
open Go.RowKit
theorem hearR_out {l : List Evn} {h : Hrd} (hk : h.cu.ki = 1) : hear1 l h = if (l.any (isId h.cu.ev) || !freeE l (wholeZ h.at_ h.cu.ti h.cu.no)) = true then (l, false) else (l ++ [⟨h.cu.ev, wholeZ h.at_ h.cu.ti h.cu.no, wholeZ h.at_ h.cu.ti h.cu.no + h.cu.le, !h.cu.au, false⟩], true) := by
  unfold hear1 hearE
  rw [if_pos hk]
theorem hearR_in_none {l : List Evn} {h : Hrd} (hk : h.cu.ki = 2) (hf : findE l h.cu.ev = none) : hear1 l h = (l, false) := by
  unfold hear1 hearE
  rw [if_neg (by omega), if_pos hk, hf]
theorem hearR_in {l : List Evn} {h : Hrd} (hd : idsE l) (hk : h.cu.ki = 2) {g : Evn} {j : Nat} (hf : findE l h.cu.ev = some g) (hj : l[j]? = some g) (hid : g.id = h.cu.ev) :
    hear1 l h = if (g.ca || (!g.op && decide (g.en ≤ wholeZ h.at_ h.cu.ti h.cu.no))) = true then (l, false) else (l.set j { g with en := wholeZ h.at_ h.cu.ti h.cu.no, op := false, ca := decide (wholeZ h.at_ h.cu.ti h.cu.no ≤ g.be) }, true) := by
  unfold hear1 hearE
  rw [if_neg (by omega), if_pos hk, hf]
  simp only
  rw [← hid, ← set_mapId (f := fun e => { e with en := wholeZ h.at_ h.cu.ti h.cu.no, op := false, ca := decide (wholeZ h.at_ h.cu.ti h.cu.no ≤ e.be) }) hd hj]
theorem hearR_can_none {l : List Evn} {h : Hrd} (hk : h.cu.ki = 3) (hf : findE l h.cu.ev = none) : hear1 l h = (l ++ [⟨h.cu.ev, 0, 0, false, true⟩], true) := by
  unfold hear1 hearE
  rw [if_neg (by omega), if_neg (by omega), if_pos hk, hf]
theorem hearR_can {l : List Evn} {h : Hrd} (hd : idsE l) (hk : h.cu.ki = 3) {g : Evn} {j : Nat} (hf : findE l h.cu.ev = some g) (hj : l[j]? = some g) (hid : g.id = h.cu.ev) :
    hear1 l h = if (g.ca || decide (g.be ≤ h.at_)) = true then (l, false) else (l.set j { g with ca := true }, true) := by
  unfold hear1 hearE
  rw [if_neg (by omega), if_neg (by omega), if_pos hk, hf]
  simp only
  rw [← hid, ← set_mapId (f := fun e => { e with ca := true }) hd hj]
theorem any_id {l : List Evn} {ev : Int} : l.any (isId ev) = (findE l ev).isSome := by
  unfold findE
  rw [Bool.eq_iff_iff, List.find?_isSome, List.any_eq_true]

theorem Own.freshSet {α : Type} {w : World} {base : Nat} {E : TypeId} {k : Nat} {enc : α → List Value} {v : Value} {l : List α} (h : Own w base E k enc v l) (o : Obj) (i : Nat) (u : Value) : Own ((w.alloc o).setCell ⟨w.heap.size, i, none⟩ u) base E k enc v l := by
  have hlt := World.ownsRow.lt h
  have ha := h.al o
  obtain ⟨h1, h2⟩ := ha
  refine ⟨h1, ?_⟩
  rcases h2 with h2 | ⟨g, cap, cur, rfl, hg, hh, r⟩
  · exact Or.inl h2
  · exact Or.inr ⟨g, cap, cur, rfl, hg, by rw [Below.heap_setCell _ _ _ g (by have := (hlt g rfl).2; show g ≠ w.heap.size; omega)]; exact hh, r⟩
theorem keepT_fresh {E : TypeId} {w : World} (c : Array Value) (i : Nat) (u : Value) : KeepT E w ((w.alloc (.cells c E)).setCell ⟨w.heap.size, i, none⟩ u) := ((KeepT.refl E w).alloc _).setG (block_new w _) u
end Go.Proofs.Ytpdeodoidlcdoaa

/- Breaks of the program. -/
namespace Go.Proofs.Ytpdeodoidlcdoaa
open Go.RowKit

theorem Own.keepF {w w' : World} {base P : Nat} {v : Value} {l : List Int} (h : Own w base 3 1 encI v l) (hk : KeepF P w w') (hP : P < base) : Own w' base 3 1 encI v l := by
  obtain ⟨h1, h2⟩ := h
  refine ⟨h1, ?_⟩
  rcases h2 with h2 | ⟨g, cap, cur, rfl, hg, hh, r⟩
  · exact Or.inl h2
  · exact Or.inr ⟨g, cap, cur, rfl, hg, hk g cur _ _ hh (by decide) (by omega), r⟩
theorem Own.keepT {α : Type} {w w' : World} {base k : Nat} {E T : TypeId} {enc : α → List Value} {v : Value} {l : List α} (h : Own w base E k enc v l) (hk : KeepT T w w') (hE : E ≠ T) : Own w' base E k enc v l := by
  obtain ⟨h1, h2⟩ := h
  refine ⟨h1, ?_⟩
  rcases h2 with h2 | ⟨g, cap, cur, rfl, hg, hh, r⟩
  · exact Or.inl h2
  · exact Or.inr ⟨g, cap, cur, rfl, hg, hk g cur _ _ hh hE, r⟩
theorem Fol.bsz {w : World} {B P M base n : Nat} {G : List Evn} {can : Int → Bool} (h : Fol w B P M base n G can) : base ≤ w.heap.size := h.2.2.2.2.1
theorem Fol.keepI {w w' : World} {B P M base n : Nat} {G : List Evn} {can : Int → Bool} (h : Fol w B P M base n G can) (hb : Below base w w') (hk : KeepT 3 w w') : Fol w' B P M base n G can := by
  obtain ⟨h1, h2, h3, h4, h5, v, h6, h7, h8⟩ := h
  exact ⟨h1, h2, h3, h4, Nat.le_trans h5 hb.size, v, (hb.block P h3).trans h6, h7.keepT hk (by decide), h8.same (hb.block M h4)⟩
theorem Fol.start (W : World) {B : Nat} (hB : B ≤ W.heap.size) : Fol ((W.alloc (.map #[] 0)).alloc (.cells #[.slice none 0 0, .map (some W.heap.size)] 75)) B (W.heap.size + 1) W.heap.size (W.heap.size + 2) 0 (gapsE (stE [] 0)) (canE (stE [] 0)) := by
  refine ⟨by omega, hB, by omega, by omega, by simp, .slice none 0 0, ?_, Own.nil, ?_⟩
  · have := block_new (W.alloc (.map #[] 0)) (.cells #[.slice none 0 0, .map (some W.heap.size)] 75)
    simpa using this
  · exact ((MapR.made W).same (Below.heap_alloc _ _ _ (by simp))).congr (fun x => rfl)

set_option maxRecDepth 100000 in
set_option maxHeartbeats 8000000 in
theorem breaks_any (w : World) (l : List Hrd) (v : Value) (hl : Sl w 7 encH v l) :
    Calls Try.prog 7 #[v] w (BrkPost w (brkL l) (brkI l) (brkF l)) := by
  obtain ⟨ao, cap, rfl, hcap, hmax, hnil, hel⟩ := hl
  unfold maxLen at hmax
  by_cases h500 : 500 < l.length
  · have hz : (500 : Int) < (l.length : Int) := by omega
    have HE := Lib.hid (brk_large h500)
    clear hel h500
    go_enter Try.func7, Try.ntmps7
    go_wp2
    go_ret3
    exact BrkPost.none HE.out (Below.refl _ _)
  have hz5 : ¬ (500 : Int) < (l.length : Int) := by omega
  have HEL := Lib.hid hel
  have H500 := Lib.hid h500
  clear hel
  go_enter Try.func7, Try.ntmps7
  go_wp2
  go_loopg [20] l.length (fun gg s20 wr => ∃ kk : Nat, kk ≤ l.length ∧ l.length - kk ≤ gg ∧ s20 = .int .i64 kk ∧ Aside (Below w.heap.size w wr) ∧ Aside (∀ j, j < kk → errH l j = 0))
  case atStart => exact ⟨0, Nat.zero_le _, by omega, rfl, Below.refl _ w, fun j hj => absurd hj (Nat.not_lt_zero _)⟩
  case round =>
    obtain ⟨kk, hkk, hg, rfl, BW, A⟩ := hrel
    have BW := Lib.hid BW.out
    have A := Lib.hid A.out
    by_cases hlt : kk < l.length
    · have hltz : (kk : Int) < (l.length : Int) := by omega
      obtain ⟨x, hx⟩ : ∃ x, l[kk]? = some x := ⟨l[kk], by simp [hlt]⟩
      obtain ⟨b, off, rfl, hcc⟩ := HEL.out kk x hx
      have hlt0 : b < w.heap.size := World.block_lt_of_cell? w _ (hcc 0 _ rfl)
      have toW : ∀ o u, w.cell? ⟨b, o, none⟩ = some u → wr.cell? ⟨b, o, none⟩ = some u := fun o u hu => (BW.out.cell (p := ⟨b, o, none⟩) hlt0).trans hu
      have c0 : wr.cell? ⟨b, off + kk * 7, none⟩ = some (.int .i64 x.at_) := toW _ _ (by have h := hcc 0 _ rfl; simpa using h)
      have c1 : wr.cell? ⟨b, off + kk * 7 + 1, none⟩ = some (.int .i64 x.cu.ki) := toW _ _ (hcc 1 _ rfl)
      have c2 : wr.cell? ⟨b, off + kk * 7 + 2, none⟩ = some (.int .i64 x.cu.ev) := toW _ _ (hcc 2 _ rfl)
      have c3 : wr.cell? ⟨b, off + kk * 7 + 3, none⟩ = some (.bool x.cu.no) := toW _ _ (hcc 3 _ rfl)
      have c4 : wr.cell? ⟨b, off + kk * 7 + 4, none⟩ = some (.int .i64 x.cu.ti) := toW _ _ (hcc 4 _ rfl)
      have c5 : wr.cell? ⟨b, off + kk * 7 + 5, none⟩ = some (.int .i64 x.cu.le) := toW _ _ (hcc 5 _ rfl)
      have c6 : wr.cell? ⟨b, off + kk * 7 + 6, none⟩ = some (.bool x.cu.au) := toW _ _ (hcc 6 _ rfl)
      have HX : Hid (l[kk]? = some x) := Lib.hid hx
      have HER : Hid (errH l kk = if outB x.at_ (-1000000000000000) 1000000000000000 = true then 1 else if ordH l kk x = true then 8 else checkC x.cu) := Lib.hid (errH_at hx)
      obtain ⟨wx, hwx⟩ : ∃ wx, wx = wr.alloc (boxH x.at_ x.cu) := ⟨_, rfl⟩
      have HBX : Hid (wx.heap[wr.heap.size]? = some (boxH x.at_ x.cu)) := Lib.hid (by rw [hwx]; exact block_new wr _)
      have HWX := Lib.hid hwx
      have HBWx : Hid (Below w.heap.size w wx) := Lib.hid (by rw [hwx]; exact BW.out.alloc BW.out.size _)
      have HPV : Hid (∀ p, l[kk - 1]? = some p → wx.cell? ⟨b, off + (kk - 1) * 7, none⟩ = some (.int .i64 p.at_)) := Lib.hid (fun p hp => by
        obtain ⟨b', off', he, hc'⟩ := HEL.out (kk - 1) p hp
        simp only [Option.some.injEq, Addr.mk.injEq, and_true] at he
        obtain ⟨rfl, rfl⟩ := he
        exact (HBWx.out.cell (p := ⟨b, off + (kk - 1) * 7, none⟩) hlt0).trans (by have h := hc' 0 _ rfl; simpa using h))
      have hbl := lt_of_blk HBX.out
      clear hx hcc toW hwx
      cases hq : outB x.at_ (-1000000000000000) 1000000000000000
      case true =>
        have HE : Hid (brkF l = 1 ∧ brkL l = [] ∧ brkI l = []) := Lib.hid (brk_err H500.out hlt A.out (by rw [HER.out, if_pos hq]) (by decide))
        have HNT := Lib.hid (noTime_any x.at_ wx)
        rw [hq] at HNT
        clear hq
        go_upto_region 6 with (fail)
        rw [← HWX.out]
        have d0 : wx.cell? ⟨wr.heap.size, 0, none⟩ = some (.int .i64 x.at_) := (cell_of_block HBX.out).trans rfl
        go_wp2_with (go_at_call 19; refine HNT.out.mono ?_; rintro e w' ⟨rfl, rfl⟩)
        go_ret3
        exact BrkPost.none HE.out HBWx.out
      have HNT := Lib.hid (noTime_any x.at_ wx)
      rw [hq] at HNT
      have HER2 : Hid (errH l kk = if ordH l kk x = true then 8 else checkC x.cu) := Lib.hid (by rw [HER.out, if_neg (by rw [hq]; decide)])
      have HAT := Lib.hid (outB_no hq)
      clear hq HER
      go_upto_region 6 with (fail)
      rw [← HWX.out]
      have d0 : wx.cell? ⟨wr.heap.size, 0, none⟩ = some (.int .i64 x.at_) := (cell_of_block HBX.out).trans rfl
      go_upto_region 8 with (go_at_call 19; refine HNT.out.mono ?_; rintro e w' ⟨rfl, rfl⟩)
      go_cut [29] (fun s w2 => s = .bool (ordH l kk x) ∧ ∃ k, w2 = wx.drewN k)
      case first =>
        have hund : undef = Value.tuple #[] := rfl
        cases kk with
        | zero =>
          have hv : Hid (ordH l 0 x = false) := Lib.hid rfl
          go_quiet (fail)
          go_wp2
          go_meet
          exact ⟨by rw [hv.out], _, rfl⟩
        | succ q =>
          obtain ⟨p, hp⟩ : ∃ p, l[q]? = some p := ⟨l[q]'(by omega), by simp [show q < l.length by omega]⟩
          have hv : Hid (ordH l (q + 1) x = decide (x.at_ < p.at_)) := Lib.hid (by unfold ordH; rw [show q + 1 - 1 = q from rfl, hp]; simp)
          have p0 : wx.cell? ⟨b, off + q * 7, none⟩ = some (.int .i64 p.at_) := HPV.out p hp
          have hm1 : (((q + 1 : Nat) : Int) - 1) = (q : Int) := by omega
          have hm2 : (0 : Int) < ((q + 1 : Nat) : Int) := by omega
          have hm3 : (q : Int) < (l.length : Int) := by omega
          have hwr : IntKind.i64.wrap (((q + 1 : Nat) : Int) - 1) = (q : Int) := by rw [hm1]; exact IntWalk.i64_in _ (by omega)
          go_quiet (fail)
          go_wp2
          go_meet
          exact ⟨by rw [hv.out], _, rfl⟩
      obtain ⟨rfl, nq, hw3⟩ := hcut
      have hB3 : Below wx.heap.size wx wc := by rw [hw3]; exact below_drewN (Below.refl _ wx) nq
      have hwsz : w.heap.size ≤ wx.heap.size := HBWx.out.size
      have HB3 := Lib.hid (HBWx.out.trans (hB3.mono hwsz))
      have hbx := (hB3.block _ hbl).trans HBX.out
      have hbl3 := lt_of_blk hbx
      have d1 : wc.cell? ⟨wr.heap.size, 1, none⟩ = some (.int .i64 x.cu.ki) := (cell_of_block hbx).trans rfl
      have d2 : wc.cell? ⟨wr.heap.size, 2, none⟩ = some (.int .i64 x.cu.ev) := (cell_of_block hbx).trans rfl
      have d3 : wc.cell? ⟨wr.heap.size, 3, none⟩ = some (.bool x.cu.no) := (cell_of_block hbx).trans rfl
      have d4 : wc.cell? ⟨wr.heap.size, 4, none⟩ = some (.int .i64 x.cu.ti) := (cell_of_block hbx).trans rfl
      have d5 : wc.cell? ⟨wr.heap.size, 5, none⟩ = some (.int .i64 x.cu.le) := (cell_of_block hbx).trans rfl
      have d6 : wc.cell? ⟨wr.heap.size, 6, none⟩ = some (.bool x.cu.au) := (cell_of_block hbx).trans rfl
      clear hw3 hB3 hbx d0 c0 c1 c2 c3 c4 c5 c6 HWX HPV HNT
      cases hord : ordH l kk x
      case true =>
        have HE : Hid (brkF l = 8 ∧ brkL l = [] ∧ brkI l = []) := Lib.hid (brk_err H500.out hlt A.out (by rw [HER2.out, if_pos hord]) (by decide))
        clear hord
        go_wp2
        go_ret3
        exact BrkPost.none HE.out HB3.out
      have HER3 : Hid (errH l kk = checkC x.cu) := Lib.hid (by rw [HER2.out, if_neg (by rw [hord]; decide)])
      clear hord HER2
      have HCC := Lib.hid (checkCue_any x.cu wc)
      obtain ⟨f, hf⟩ : ∃ f, f = checkC x.cu := ⟨_, rfl⟩
      rw [← hf] at HCC HER3
      clear hf
      go_upto_region 11 with (go_at_call 11; refine HCC.out.mono ?_; rintro e w5 ⟨rfl, hb5⟩; have HB5 := Lib.hid (HB3.out.trans (hb5.mono HB3.out.size)); clear hb5)
      by_cases hc0 : f = 0
      · subst hc0
        go_wp2
        go_roundg (l.length - (kk + 1))
        case measure => omega
        case rel =>
          refine ⟨kk + 1, by omega, by omega, by go_num, HB5.out, (show Aside _ from fun j hj => ?_)⟩
          by_cases e : j = kk
          · subst e; exact HER3.out
          · exact A.out j (by omega)
      · have HE : Hid (brkF l = f ∧ brkL l = [] ∧ brkI l = []) := Lib.hid (brk_err H500.out hlt A.out HER3.out hc0)
        go_wp2
        go_ret3
        exact BrkPost.none HE.out HB5.out
    · obtain rfl : kk = l.length := by omega
      have hltz : ¬ (l.length : Int) < (l.length : Int) := by omega
      have HZ : Hid (∀ i, i < l.length → errH l i = 0) := A
      have hmm := @run_makeMap Try.prog
      obtain ⟨m0, hm0⟩ : ∃ m0, m0 = wr.heap.size := ⟨_, rfl⟩
      obtain ⟨w0, hw0⟩ : ∃ w0, w0 = (wr.alloc (.map #[] 0)).alloc (.cells #[.slice none 0 0, .map (some wr.heap.size)] 75) := ⟨_, rfl⟩
      have HF0 : Hid (Fol w0 w.heap.size (m0 + 1) m0 (m0 + 2) 0 (gapsE (stE l 0)) (canE (stE l 0))) := Lib.hid (by rw [hw0, hm0]; exact Fol.start wr BW.out.size)
      have HB0 : Hid (Below w.heap.size w w0) := Lib.hid (by rw [hw0]; exact (BW.out.alloc BW.out.size _).alloc (by have := BW.out.size; simp; omega) _)
      have hms : w.heap.size ≤ m0 := by rw [hm0]; exact BW.out.size
      have HM0 := Lib.hid hm0
      have HW0 := Lib.hid hw0
      clear hw0 hm0
      go_upto_region 16 with (fail)
      rw [← HM0.out] at *
      rw [← HW0.out]
      have hl5 : l.length ≤ 500 := by omega
      clear hmm HW0 HM0 BW A
      go_wp2
      go_loopg [9, 55] l.length (fun gg s9 s55 wq => ∃ kk : Nat, kk ≤ l.length ∧ l.length - kk ≤ gg ∧ s55 = .int .i64 kk ∧ Aside (Below w.heap.size w wq) ∧ Aside (Fol wq w.heap.size (m0 + 1) m0 (m0 + 2) kk (gapsE (stE l kk)) (canE (stE l kk))) ∧ Aside (Own wq (m0 + 2) 3 1 encI s9 (idE l kk)))
      case atStart => exact ⟨0, Nat.zero_le _, by omega, rfl, HB0.out, HF0.out, Own.nil⟩
      case round =>
        clear HB0 HF0
        obtain ⟨kk, hkk, hg, rfl, BW, FW, IW⟩ := hrel
        have BW := Lib.hid BW.out
        have FW := Lib.hid FW.out
        have IW := Lib.hid IW.out
        obtain ⟨ido, idn, idc, rfl⟩ := Own.slv encI_len IW.out
        have hbse : m0 + 2 ≤ wr.heap.size := by obtain ⟨_, _, _, _, h5, _⟩ := FW.out; exact h5
        by_cases hlt : kk < l.length
        · have hltz : (kk : Int) < (l.length : Int) := by omega
          obtain ⟨x, hx⟩ : ∃ x, l[kk]? = some x := ⟨l[kk], by simp [hlt]⟩
          obtain ⟨b, off, rfl, hcc⟩ := HEL.out kk x hx
          have hlt0 : b < w.heap.size := World.block_lt_of_cell? w _ (hcc 0 _ rfl)
          have toW : ∀ o u, w.cell? ⟨b, o, none⟩ = some u → wr.cell? ⟨b, o, none⟩ = some u := fun o u hu => (BW.out.cell (p := ⟨b, o, none⟩) hlt0).trans hu
          have c0 : wr.cell? ⟨b, off + kk * 7, none⟩ = some (.int .i64 x.at_) := toW _ _ (by have h := hcc 0 _ rfl; simpa using h)
          have c1 : wr.cell? ⟨b, off + kk * 7 + 1, none⟩ = some (.int .i64 x.cu.ki) := toW _ _ (hcc 1 _ rfl)
          have c2 : wr.cell? ⟨b, off + kk * 7 + 2, none⟩ = some (.int .i64 x.cu.ev) := toW _ _ (hcc 2 _ rfl)
          have c3 : wr.cell? ⟨b, off + kk * 7 + 3, none⟩ = some (.bool x.cu.no) := toW _ _ (hcc 3 _ rfl)
          have c4 : wr.cell? ⟨b, off + kk * 7 + 4, none⟩ = some (.int .i64 x.cu.ti) := toW _ _ (hcc 4 _ rfl)
          have c5 : wr.cell? ⟨b, off + kk * 7 + 5, none⟩ = some (.int .i64 x.cu.le) := toW _ _ (hcc 5 _ rfl)
          have c6 : wr.cell? ⟨b, off + kk * 7 + 6, none⟩ = some (.bool x.cu.au) := toW _ _ (hcc 6 _ rfl)
          have HOK := Lib.hid (err_ok hx (HZ.out kk hlt)).1
          obtain ⟨did, hdid⟩ : ∃ d, d = (hear1 (stE l kk) x).2 := ⟨_, rfl⟩
          obtain ⟨wx, hwx⟩ : ∃ wx, wx = wr.alloc (boxH x.at_ x.cu) := ⟨_, rfl⟩
          have hBx : Below wr.heap.size wr wx := by rw [hwx]; exact (Below.refl _ wr).alloc (Nat.le_refl _) _
          have HFX : Hid (Fol wx w.heap.size (m0 + 1) m0 (m0 + 2) kk (gapsE (stE l kk)) (canE (stE l kk))) := Lib.hid (FW.out.below hBx)
          have HIX := Lib.hid (IW.out.below hBx (Nat.le_refl _))
          have HBX := Lib.hid (BW.out.trans (hBx.mono BW.out.size))
          have HFO := Lib.hid (follow_any wx w.heap.size (m0 + 1) m0 (m0 + 2) kk (stE l kk) x HFX.out (stE_ids l kk) (by have := stE_len l kk; omega) (stE_ok (fun j hj => HZ.out j (by omega))) HOK.out (by unfold maxLen; omega))
          rw [← stE_at hx, ← hdid] at HFO
          have HID : Hid (idE l (kk + 1) = if did = true then idE l kk else idE l kk ++ [(kk : Int)]) := Lib.hid (by rw [hdid]; exact idE_at hx)
          have HWX := Lib.hid hwx
          have hd0 := (cell_of_block (i := 0) (by rw [hwx]; exact block_new wr (boxH x.at_ x.cu) : wx.heap[wr.heap.size]? = some (boxH x.at_ x.cu))).trans rfl
          have d0 : wx.cell? ⟨wr.heap.size, 0, none⟩ = some (.int .i64 x.at_) := by rw [hwx]; exact (cell_of_block (block_new wr _)).trans rfl
          have d1 : wx.cell? ⟨wr.heap.size, 1, none⟩ = some (.int .i64 x.cu.ki) := by rw [hwx]; exact (cell_of_block (block_new wr _)).trans rfl
          have d2 : wx.cell? ⟨wr.heap.size, 2, none⟩ = some (.int .i64 x.cu.ev) := by rw [hwx]; exact (cell_of_block (block_new wr _)).trans rfl
          have d3 : wx.cell? ⟨wr.heap.size, 3, none⟩ = some (.bool x.cu.no) := by rw [hwx]; exact (cell_of_block (block_new wr _)).trans rfl
          have d4 : wx.cell? ⟨wr.heap.size, 4, none⟩ = some (.int .i64 x.cu.ti) := by rw [hwx]; exact (cell_of_block (block_new wr _)).trans rfl
          have d5 : wx.cell? ⟨wr.heap.size, 5, none⟩ = some (.int .i64 x.cu.le) := by rw [hwx]; exact (cell_of_block (block_new wr _)).trans rfl
          have d6 : wx.cell? ⟨wr.heap.size, 6, none⟩ = some (.bool x.cu.au) := by rw [hwx]; exact (cell_of_block (block_new wr _)).trans rfl
          have hlw : wr.heap.size < wx.heap.size := by rw [hwx]; simp
          clear hd0 hx hcc toW hwx hdid hBx
          go_upto_region 19 with (fail)
          rw [← HWX.out]
          clear HWX c0 c1 c2 c3 c4 c5 c6
          cases did
          · have HID2 : Hid (idE l (kk + 1) = idE l kk ++ [(kk : Int)]) := Lib.hid HID.out
            have hil := idE_len l kk
            have HIL := Lib.hid hil
            clear HID hil
            go_wp2_with (first | (go_at_call 20; refine HFO.out.mono ?_; rintro e w3 ⟨rfl, hf3, hb3, hk3⟩; have HF3 := Lib.hid hf3; have HB3 := Lib.hid hb3; have HI3 := Lib.hid (HIX.out.keepF hk3 (by omega)); have hs3 := hf3.bsz; clear hf3 hb3 hk3) | (at_builtin; go_loud (refine wpList_pushK (W := w3) (v := .slice ido idn idc) rfl _ _ 36 rfl slI rfl rfl (kk : Int) rfl rfl rfl HI3.out rfl (by have := HIL.out; omega) hs3 ?_); intro v5 w5 ho5 hb5 hk5; rw [← HID2.out] at ho5; have HO5 := Lib.hid ho5; have HB5 := Lib.hid hb5; have HF5 := Lib.hid (HF3.out.keepI hb5 hk5); clear ho5 hb5 hk5))
            go_roundg (l.length - (kk + 1))
            case measure => omega
            case rel => exact ⟨kk + 1, by omega, by omega, by go_num, (HBX.out.trans HB3.out).trans (HB5.out.mono (by omega)), HF5.out, HO5.out⟩
          · have HID2 : Hid (idE l (kk + 1) = idE l kk) := Lib.hid HID.out
            clear HID
            go_wp2_with (go_at_call 20; refine HFO.out.mono ?_; rintro e w3 ⟨rfl, hf3, hb3, hk3⟩; have HF3 := Lib.hid hf3; have HB3 := Lib.hid hb3; have HI3 := Lib.hid (HIX.out.keepF hk3 (by omega)); clear hf3 hb3 hk3)
            go_roundg (l.length - (kk + 1))
            case measure => omega
            case rel => exact ⟨kk + 1, by omega, by omega, by go_num, HBX.out.trans HB3.out, HF3.out, by rw [HID2.out]; exact HI3.out⟩
        · obtain rfl : kk = l.length := by omega
          have hltz : ¬ (l.length : Int) < (l.length : Int) := by omega
          obtain ⟨w6, rfl⟩ : ∃ w6, w6 = wr := ⟨wr, rfl⟩
          obtain ⟨Gs, hGs⟩ : ∃ Gs, Gs = gapsE (stE l l.length) := ⟨_, rfl⟩
          rw [← hGs] at FW
          have hgl : Gs.length ≤ 500 := by
            have h1 : (gapsE (stE l l.length)).length ≤ (stE l l.length).length := List.length_filter_le _ _
            have h2 := stE_len l l.length
            rw [← hGs] at h1
            omega
          have HGS := Lib.hid hGs
          obtain ⟨_, _, _, _, _, gv, hb6, ho7, _⟩ := FW.out
          have hsl := ho7.sl encG_len
          obtain ⟨gao, gcap, rfl, hgc, hgm, _, hgel⟩ := hsl
          unfold maxLen at hgm
          have HGEL := Lib.hid hgel
          have p0 : w6.cell? ⟨m0 + 1, 0, none⟩ = some (.slice gao Gs.length gcap) := (cell_of_block hb6).trans rfl
          have HIS := Lib.hid (IW.out.sl encI_len)
          have HB6 := Lib.hid BW.out
          clear hgel hb6 ho7 hGs FW IW BW
          go_wp2
          go_loopg [12, 74] Gs.length (fun gg s12 s74 wq => ∃ kk : Nat, kk ≤ Gs.length ∧ Gs.length - kk ≤ gg ∧ s74 = .int .i64 kk ∧ Aside (Below w6.heap.size w6 wq) ∧ Aside (Own wq w6.heap.size 45 3 encB s12 ((Gs.take kk).map toB)) ∧ Aside (∀ g, g ∈ Gs.take kk → badG g = false))
          case atStart => exact ⟨0, Nat.zero_le _, by omega, rfl, Below.refl _ w6, Own.nil, fun g hg => by simp at hg⟩
          case round =>
            obtain ⟨kk, hkk, hg, rfl, BW, OW, NB⟩ := hrel
            have BW := Lib.hid BW.out
            have OW := Lib.hid OW.out
            have NB := Lib.hid NB.out
            by_cases hlt : kk < Gs.length
            · obtain ⟨oo, on, oc, rfl⟩ := Own.slv encB_len OW.out
              have hltz : (kk : Int) < (Gs.length : Int) := by omega
              obtain ⟨x, hx⟩ : ∃ x, Gs[kk]? = some x := ⟨Gs[kk], by simp [hlt]⟩
              obtain ⟨b, off, rfl, hcc⟩ := HGEL.out kk x hx
              have hlt0 : b < w6.heap.size := World.block_lt_of_cell? w6 _ (hcc 0 _ rfl)
              have toW : ∀ o u, w6.cell? ⟨b, o, none⟩ = some u → wr.cell? ⟨b, o, none⟩ = some u := fun o u hu => (BW.out.cell (p := ⟨b, o, none⟩) hlt0).trans hu
              have c0 : wr.cell? ⟨b, off + kk * 4, none⟩ = some (.int .i64 x.id) := toW _ _ (by have h := hcc 0 _ rfl; simpa using h)
              have c1 : wr.cell? ⟨b, off + kk * 4 + 1, none⟩ = some (.int .i64 x.be) := toW _ _ (hcc 1 _ rfl)
              have c2 : wr.cell? ⟨b, off + kk * 4 + 2, none⟩ = some (.int .i64 x.en) := toW _ _ (hcc 2 _ rfl)
              have c3 : wr.cell? ⟨b, off + kk * 4 + 3, none⟩ = some (.bool x.op) := toW _ _ (hcc 3 _ rfl)
              obtain ⟨wx, hwx⟩ : ∃ wx, wx = wr.alloc (.cells #[.int .i64 x.id, .int .i64 x.be, .int .i64 x.en, .bool x.op] 78) := ⟨_, rfl⟩
              have HXB : Hid (wx.heap[wr.heap.size]? = some (.cells #[.int .i64 x.id, .int .i64 x.be, .int .i64 x.en, .bool x.op] 78 (0, 0))) := Lib.hid (by rw [hwx]; exact block_new wr _)
              have HBX : Hid (Below w6.heap.size w6 wx) := Lib.hid (by rw [hwx]; exact BW.out.alloc BW.out.size _)
              have HOX : Hid (Own wx w6.heap.size 45 3 encB (.slice oo on oc) ((Gs.take kk).map toB)) := Lib.hid (by rw [hwx]; exact OW.out.al _)
              have HOY : Hid (Own (wx.setCell ⟨wr.heap.size, 2, none⟩ (.int .i64 (-1))) w6.heap.size 45 3 encB (.slice oo on oc) ((Gs.take kk).map toB)) := Lib.hid (by rw [hwx]; exact Own.freshSet OW.out _ 2 _)
              have hsw : w6.heap.size ≤ wr.heap.size := BW.out.size
              have hwxs : wx.heap.size = wr.heap.size + 1 := by rw [hwx]; simp
              have htk : Hid ((Gs.take (kk + 1)).map toB = (Gs.take kk).map toB ++ [toB x]) := Lib.hid (by rw [take_next hx, List.map_append]; rfl)
              have HOL : Hid (((Gs.take kk).map toB).length ≤ 500) := Lib.hid (by simp; omega)
              have HTG : Hid (Gs.take (kk + 1) = Gs.take kk ++ [x]) := Lib.hid (take_next hx)
              have HXG : Hid (x ∈ Gs) := Lib.hid (List.mem_of_getElem? hx)
              have HWX := Lib.hid hwx
              have HBQ : Hid (badG x = (outB x.be 0 1000000000000000 || (!x.op && outB x.en 0 1000000000000000))) := Lib.hid rfl
              obtain ⟨bq, hbq⟩ : ∃ bq, bq = badG x := ⟨_, rfl⟩
              have HTB : Hid (toB x = ⟨x.id, x.be, if x.op = true then -1 else x.en⟩) := Lib.hid rfl
              have HQB := Lib.hid hbq
              rw [← hbq] at HBQ
              clear hx hcc toW hwx hbq
              obtain ⟨id, be, en, op, ca⟩ := x
              simp only at c0 c1 c2 c3 HXB HBQ HTB HWX
              go_upto_region 26 with (fail)
              rw [← HWX.out]
              have d0 : wx.cell? ⟨wr.heap.size, 0, none⟩ = some (.int .i64 id) := (cell_of_block HXB.out).trans rfl
              have d1 : wx.cell? ⟨wr.heap.size, 1, none⟩ = some (.int .i64 be) := (cell_of_block HXB.out).trans rfl
              have d2 : wx.cell? ⟨wr.heap.size, 2, none⟩ = some (.int .i64 en) := (cell_of_block HXB.out).trans rfl
              have d3 : wx.cell? ⟨wr.heap.size, 3, none⟩ = some (.bool op) := (cell_of_block HXB.out).trans rfl
              have f2 : wx.frozen? ⟨wr.heap.size, 2, none⟩ = false := free_bl (i := 2) HXB.out
              have hbl := lt_of_blk HXB.out
              have hs6 : w6.heap.size ≤ wx.heap.size := by omega
              clear c0 c1 c2 c3 HWX hwxs
              go_cut [90] (fun s90 w2 => s90 = .bool bq ∧ w2 = wx)
              case first =>
                cases h1 : outB be 0 1000000000000000
                · cases op
                  · have hv : Hid (bq = outB en 0 1000000000000000) := Lib.hid (by rw [HBQ.out, h1]; rfl)
                    clear HBQ
                    go_wp2_with (go_at_call 21; refine (out_any _ _ _ _).mono ?_; rintro e w' ⟨rfl, rfl⟩)
                    go_meet
                    exact ⟨by rw [hv.out], rfl⟩
                  · have hv : Hid (bq = false) := Lib.hid (by rw [HBQ.out, h1]; rfl)
                    clear HBQ
                    go_wp2_with (go_at_call 21; refine (out_any _ _ _ _).mono ?_; rintro e w' ⟨rfl, rfl⟩)
                    go_meet
                    exact ⟨by rw [hv.out], rfl⟩
                · have hv : Hid (bq = true) := Lib.hid (by rw [HBQ.out, h1]; rfl)
                  clear HBQ
                  go_wp2_with (go_at_call 21; refine (out_any _ _ _ _).mono ?_; rintro e w' ⟨rfl, rfl⟩)
                  go_meet
                  exact ⟨by rw [hv.out], rfl⟩
              obtain ⟨rfl, rfl⟩ := hcut
              cases bq
              case true =>
                have HE := Lib.hid (brk_bad H500.out HZ.out (by rw [← HGS.out]; exact HXG.out) HQB.out.symm)
                go_wp2
                go_ret3
                exact BrkPost.none HE.out (HB6.out.trans (HBX.out.mono HB6.out.size))
              have NB2 : Hid (∀ g, g ∈ Gs.take (kk + 1) → badG g = false) := Lib.hid (fun g hg => by
                rw [HTG.out] at hg
                rcases List.mem_append.1 hg with h | h
                · exact NB.out g h
                · simp at h; subst h; exact HQB.out.symm)
              clear HBQ HQB HTG
              cases op
              · have hcx : Hid (encB (toB ⟨id, be, en, false, ca⟩) = [.int .i64 id, .int .i64 be, .int .i64 en]) := Lib.hid (by rw [HTB.out]; rfl)
                go_wp2_with (at_builtin; go_loud (refine wpList_push (W := wc) (v := .slice oo on oc) rfl _ _ 35 rfl slB rfl rfl (toB ⟨id, be, en, false, ca⟩) hcx.out rfl rfl HOX.out rfl (by have := HOL.out; omega) hs6 ?_); intro v5 w5 ho5 hb5; rw [← htk.out] at ho5; have HO5 := Lib.hid ho5; have HB5 := Lib.hid hb5; clear ho5 hb5)
                go_roundg (Gs.length - (kk + 1))
                case measure => omega
                case rel => exact ⟨kk + 1, by omega, by omega, by go_num, HBX.out.trans HB5.out, HO5.out, NB2.out⟩
              · have hcx : Hid (encB (toB ⟨id, be, en, true, ca⟩) = [.int .i64 id, .int .i64 be, .int .i64 (-1)]) := Lib.hid (by rw [HTB.out]; rfl)
                have HBY := Lib.hid (HBX.out.setCell (show w6.heap.size ≤ (⟨wr.heap.size, 2, none⟩ : Addr).block from hsw) (.int .i64 (-1)))
                have hs6 : w6.heap.size ≤ (wc.setCell ⟨wr.heap.size, 2, none⟩ (.int .i64 (-1))).heap.size := by simp; omega
                go_wp2_with (at_builtin; go_loud (refine wpList_push (A := wc.heap.size) (W := wc.setCell ⟨wr.heap.size, 2, none⟩ (.int .i64 (-1))) (v := .slice oo on oc) rfl _ _ 35 rfl slB rfl rfl (toB ⟨id, be, en, true, ca⟩) hcx.out rfl rfl HOY.out (by simp) (by have := HOL.out; omega) hs6 ?_); intro v5 w5 ho5 hb5; rw [← htk.out] at ho5; have HO5 := Lib.hid ho5; have HB5 := Lib.hid hb5; clear ho5 hb5)
                go_roundg (Gs.length - (kk + 1))
                case measure => omega
                case rel => exact ⟨kk + 1, by omega, by omega, by go_num, HBY.out.trans HB5.out, HO5.out, NB2.out⟩
            · obtain rfl : kk = Gs.length := by omega
              have hltz : ¬ (Gs.length : Int) < (Gs.length : Int) := by omega
              have hOG := OW.out
              rw [List.take_length] at hOG
              have hSG := hOG.sl encB_len
              have HSG := Lib.hid hSG
              obtain ⟨oo, oc, rfl, _, _, _, _⟩ := hSG
              have HSH : Hid (Sl wr 3 encB (.slice oo Gs.length oc) (Gs.map toB)) := Lib.hid (by have := HSG.out; rw [List.length_map] at this; exact this)
              have HIS2 := Lib.hid (HIS.out.below BW.out (Nat.le_refl _))
              have HBE := Lib.hid (HB6.out.trans (BW.out.mono HB6.out.size))
              have HNB : Hid (∀ g, g ∈ gapsE (stE l l.length) → badG g = false) := Lib.hid (fun g hg => NB.out g (by rw [List.take_length, HGS.out]; exact hg))
              clear hOG OW NB
              by_cases hm : 200 < Gs.length
              · have hmz : (200 : Int) < (Gs.length : Int) := by omega
                have HE := Lib.hid (brk_many H500.out HZ.out HNB.out (by rw [← HGS.out]; exact hm))
                clear hm
                go_wp2
                go_ret3
                exact BrkPost.none HE.out HBE.out
              · have hmz : ¬ (200 : Int) < (Gs.length : Int) := by omega
                have HE := Lib.hid (brk_ok H500.out HZ.out HNB.out (by rw [← HGS.out]; exact hm))
                clear hm
                go_wp2
                go_ret3
                obtain ⟨e1, e2, e3⟩ := HE.out
                exact BrkPost.mk e1.symm (by rw [e2, ← HGS.out]; exact HSH.out) (by rw [e3]; exact HIS2.out) HBE.out
end Go.Proofs.Ytpdeodoidlcdoaa

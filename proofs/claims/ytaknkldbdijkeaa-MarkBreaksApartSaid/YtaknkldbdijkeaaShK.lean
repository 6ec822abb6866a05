/- Shortened of the program: what it returns. -/
import Derived.Test.YtaknkldbdijkeaaCbK
import Derived.Test.YtaknkldbdijkeaaPost
namespace Go.Proofs.Ytaknkldbdijkeaa
open Go.RowKit

def cutB (e : Int) (b : Brk) : Brk := if (b.en == -1 || decide (e < b.en)) = true then { b with en := e } else b
/-- The fault of Shortened. -/
def shortF (l : List Brk) (e : Int) : Int := if checkB l ≠ 0 then checkB l else if outB e 0 1000000000000000 = true then 1 else 0
def shortL (l : List Brk) (e : Int) : List Brk := if shortF l e = 0 then (l.takeWhile fun b => decide (b.be < e)).map (cutB e) else []

theorem infoB : (Try.prog.info? 29).map (fun i => (i.zero, i.size, i.bytes)) = some (some (.agg #[.int .i64 0, .int .i64 0, .int .i64 0]), 3, 24) := by kernel_rfl
theorem slB : SlT Try.prog 22 29 3 24 := by
  obtain ⟨i0, hi, hz0, hz1, hz2⟩ := info_parts infoB
  exact ⟨i0, _, Try.underlying22, hi, hz0, hz1, hz2, rfl, by decide, by decide⟩

theorem takeWhile_of {p : Brk → Bool} : ∀ {l : List Brk} {k : Nat}, (∀ j x, l[j]? = some x → j < k → p x = true) → (k < l.length → ∃ x, l[k]? = some x ∧ p x = false) → k ≤ l.length → l.takeWhile p = l.take k
  | [], k, _, _, hk => by simp
  | y :: r, 0, _, h2, _ => by
    obtain ⟨x, hx, hp⟩ := h2 (by simp)
    simp at hx; subst hx
    simp [hp]
  | y :: r, k + 1, h1, h2, hk => by
    have hy : p y = true := h1 0 y rfl (by omega)
    rw [List.takeWhile_cons, if_pos hy, List.take_succ_cons]
    rw [takeWhile_of (l := r) (k := k) (fun j x hx hj => h1 (j + 1) x (by simpa using hx) (by omega)) (fun h => by simpa using h2 (by simpa using h)) (by simpa using hk)]

set_option maxRecDepth 100000 in
set_option maxHeartbeats 2000000 in
theorem shortened_any (w : World) (l : List Brk) (v : Value) (t : Int) (hl : Sl w 3 encB v l) :
    Calls Try.prog 6 #[v, .int .i64 t] w (SlPost w 3 encB (shortL l t) (shortF l t)) := by
  have hcb := checkBreaks_any w l v hl
  obtain ⟨ao, cap, rfl, hcap, hmax, hnil, hel⟩ := hl
  unfold maxLen at hmax
  by_cases h1 : checkB l ≠ 0
  · have e1 : (checkB l != 0) = true := by simpa using h1
    have hf : shortF l t = checkB l := by simp [shortF, h1]
    have HF := Lib.hid hf
    have H1 := Lib.hid h1
    clear hf hel h1
    go_enter Try.func6, Try.ntmps6
    go_wp2_with (go_at_call 8; refine hcb.mono ?_; rintro e w' ⟨rfl, hb'⟩)
    go_ret2
    exact SlPost.mk HF.out.symm (by rw [shortL, HF.out, if_neg H1.out]; exact Sl.nil) hb'
  have h0 : checkB l = 0 := by simpa using h1
  have h200 : l.length ≤ 200 := by
    by_cases h : 200 < l.length
    · simp [checkB, h] at h0
    · omega
  rw [h0] at hcb
  cases h2 : outB t 0 1000000000000000
  case true =>
    have hf : Hid (shortF l t = 1) := Lib.hid (by simp [shortF, h0, h2])
    clear hel h1 h0
    go_enter Try.func6, Try.ntmps6
    go_wp2_with (first | (go_at_call 8; refine hcb.mono ?_; rintro e w' ⟨rfl, hb'⟩) | (go_at_call 18; refine (out_any _ _ _ _).mono ?_; rintro e w' ⟨rfl, rfl⟩))
    go_ret2
    exact SlPost.mk hf.out.symm (by rw [shortL, hf.out]; exact Sl.nil) hb'
  have hf : Hid (shortF l t = 0) := Lib.hid (by simp [shortF, h0, h2])
  clear h0 h1
  go_enter Try.func6, Try.ntmps6
  go_wp2_with (first | (go_at_call 8; refine hcb.mono ?_; rintro e w' ⟨rfl, hb'⟩) | (go_at_call 18; refine (out_any _ _ _ _).mono ?_; rintro e w' ⟨rfl, rfl⟩))
  go_loopg [7, 19] l.length (fun gg s7 s19 wr => ∃ kk : Nat, kk ≤ l.length ∧ l.length - kk ≤ gg ∧ s19 = .int .i64 kk ∧ Aside (Below w.heap.size w wr) ∧ Aside (Own wr w.heap.size 29 3 encB s7 ((l.take kk).map (cutB t))) ∧ Aside (∀ j x, l[j]? = some x → j < kk → decide (x.be < t) = true))
  case atStart => exact ⟨0, Nat.zero_le _, by omega, rfl, hb', Own.nil, fun j x _ hj => absurd hj (Nat.not_lt_zero _)⟩
  case round =>
    clear hcb hb'
    obtain ⟨kk, hkk, hg, rfl, BW, OW, A⟩ := hrel
    by_cases hlt : kk < l.length
    · have hltz : (kk : Int) < (l.length : Int) := by omega
      obtain ⟨x, hx⟩ : ∃ x, l[kk]? = some x := ⟨l[kk], by simp [hlt]⟩
      obtain ⟨b, off, rfl, hc⟩ := hel kk x hx
      have hlt0 := World.block_lt_of_cell? w _ (hc 0 _ rfl)
      have c0 := (BW.out.cell (p := ⟨b, off + kk * 3, none⟩) hlt0).trans (hc 0 _ rfl)
      have c1 := (BW.out.cell (p := ⟨b, off + kk * 3 + 1, none⟩) hlt0).trans (hc 1 _ rfl)
      have c2 := (BW.out.cell (p := ⟨b, off + kk * 3 + 2, none⟩) hlt0).trans (hc 2 _ rfl)
      have HX := Lib.hid hx
      have hszw := BW.out.size
      have htk : Hid ((l.take (kk + 1)).map (cutB t) = (l.take kk).map (cutB t) ++ [cutB t x]) := Lib.hid (by
        obtain ⟨hk, rfl⟩ := List.getElem?_eq_some_iff.1 hx
        rw [List.take_succ_eq_append_getElem hk, List.map_append]; simp)
      have hlen : Hid (((l.take kk).map (cutB t)).length = kk) := Lib.hid (by simp; omega)
      clear hx hc hel
      by_cases hbe : x.be < t
      · have hbe' : ¬ t ≤ x.be := by omega
        go_upto_region 11 with (fail)
        go_cut [35] (fun s35 w2 => s35 = .bool (x.en == -1 || decide (t < x.en)) ∧ w2 = wr.alloc (.cells #[.int .i64 x.ev, .int .i64 x.be, .int .i64 x.en] 29))
        case first =>
          cases e1 : (x.en == -1)
          all_goals
            go_wp2
            go_meet
            exact ⟨by simp [e1], rfl⟩
        obtain ⟨rfl, rfl⟩ := hcut
        generalize hO : (x.en == -1 || decide (t < x.en)) = O
        cases O
        case true =>
          have hcx : Hid (encB (cutB t x) = [.int .i64 x.ev, .int .i64 x.be, .int .i64 t]) := Lib.hid (by simp [cutB, hO, encB])
          clear hO
          go_wp2_with (at_builtin; refine wpList_push rfl _ _ 22 rfl slB rfl rfl (cutB t x) hcx.out rfl rfl (OW.out.al _) (by simp) (by rw [hlen.out]; omega) (by simp; omega) ?_; intro v' w1 ho1 hb1; rw [← htk.out] at ho1; have HO := Lib.hid ho1; have HB := Lib.hid hb1; clear ho1 hb1)
          go_roundg (l.length - (kk + 1))
          case measure => omega
          case rel =>
            refine ⟨kk + 1, by omega, by omega, by go_num, (BW.out.alloc hszw _).trans HB.out, HO.out, (show Aside _ from fun j z hz hj => ?_)⟩
            by_cases e : j = kk
            · subst e
              have := HX.out.symm.trans hz
              simp at this; subst this; simpa using hbe
            · exact A.out j z hz (by omega)
        case false =>
          have hcx : Hid (encB (cutB t x) = [.int .i64 x.ev, .int .i64 x.be, .int .i64 x.en]) := Lib.hid (by simp [cutB, hO, encB])
          clear hO
          go_wp2_with (at_builtin; refine wpList_push rfl _ _ 22 rfl slB rfl rfl (cutB t x) hcx.out rfl rfl (OW.out.al _) (by simp) (by rw [hlen.out]; omega) (by simp; omega) ?_; intro v' w1 ho1 hb1; rw [← htk.out] at ho1; have HO := Lib.hid ho1; have HB := Lib.hid hb1; clear ho1 hb1)
          go_roundg (l.length - (kk + 1))
          case measure => omega
          case rel =>
            refine ⟨kk + 1, by omega, by omega, by go_num, (BW.out.alloc hszw _).trans HB.out, HO.out, (show Aside _ from fun j z hz hj => ?_)⟩
            by_cases e : j = kk
            · subst e
              have := HX.out.symm.trans hz
              simp at this; subst this; simpa using hbe
            · exact A.out j z hz (by omega)
      · have hbe' : t ≤ x.be := by omega
        have htw : Hid (shortL l t = (l.take kk).map (cutB t)) := Lib.hid (by
          rw [shortL, if_pos hf.out, takeWhile_of (k := kk) (fun j z hz hj => A.out j z hz hj) (fun _ => ⟨x, HX.out, by simpa using hbe'⟩) hkk])
        go_wp2
        go_ret2
        exact SlPost.mk hf.out.symm (by rw [htw.out]; exact (OW.out.al _).sl encB_len) (BW.out.alloc hszw _)
    · have hltz : ¬ (kk : Int) < (l.length : Int) := by omega
      have htw : Hid (shortL l t = (l.take kk).map (cutB t)) := Lib.hid (by
        rw [shortL, if_pos hf.out, takeWhile_of (k := kk) (fun j z hz hj => A.out j z hz hj) (fun h => by omega) hkk])
      clear hel
      go_wp2
      go_ret2
      exact SlPost.mk hf.out.symm (by rw [htw.out]; exact OW.out.sl encB_len) BW.out
end Go.Proofs.Ytaknkldbdijkeaa

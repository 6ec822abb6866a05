/- Shortened of the reference: what it returns. -/
import Derived.Test.YtaknkldbdijkeaaSh
import Derived.Test.YtaknkldbdijkeaaRcb
namespace Go.Proofs.Ytaknkldbdijkeaa
open Go.RowKit

def shortR (l : List Brk) (e : Int) : List Brk := if shortF l e = 0 then (l.filter fun b => decide (b.be < e)).map (cutB e) else []

set_option maxRecDepth 100000 in
set_option maxHeartbeats 2000000 in
theorem shortenedR_any (w : World) (l : List Brk) (v : Value) (t : Int) (hl : Sl w 3 encB v l) :
    Calls Try.prog 7 #[v, .int .i64 t] w (SlPost w 3 encB (shortR l t) (shortF l t)) := by
  have hcb := checkBreaksR_any w l v hl
  obtain ⟨ao, cap, rfl, hcap, hmax, hnil, hel⟩ := hl
  unfold maxLen at hmax
  by_cases h1 : checkB l ≠ 0
  · have e1 : (checkB l != 0) = true := by simpa using h1
    have hf : shortF l t = checkB l := by simp [shortF, h1]
    have HF := Lib.hid hf
    have H1 := Lib.hid h1
    clear hf hel h1
    go_enter Try.func7, Try.ntmps7
    go_wp2_with (go_at_call 9; refine hcb.mono ?_; rintro e w' ⟨rfl, hb'⟩)
    go_ret2
    exact SlPost.mk HF.out.symm (by rw [shortR, HF.out, if_neg H1.out]; exact Sl.nil) hb'
  have h0 : checkB l = 0 := by simpa using h1
  have h200 : l.length ≤ 200 := by
    by_cases h : 200 < l.length
    · simp [checkB, h] at h0
    · omega
  rw [h0] at hcb
  cases h2 : outB t 0 1000000000000000
  case true =>
    have hf : Hid (shortF l t = 1) := Lib.hid (by simp [shortF, h0, h2])
    clear hel h1 h0
    go_enter Try.func7, Try.ntmps7
    go_wp2_with (first | (go_at_call 9; refine hcb.mono ?_; rintro e w' ⟨rfl, hb'⟩) | (go_at_call 19; refine (within_any _ _ _ _).mono ?_; rintro e w' ⟨rfl, rfl⟩))
    go_ret2
    exact SlPost.mk hf.out.symm (by rw [shortR, hf.out]; exact Sl.nil) hb'
  have hf : Hid (shortF l t = 0) := Lib.hid (by simp [shortF, h0, h2])
  clear h0 h1
  go_enter Try.func7, Try.ntmps7
  go_wp2_with (first | (go_at_call 9; refine hcb.mono ?_; rintro e w' ⟨rfl, hb'⟩) | (go_at_call 19; refine (within_any _ _ _ _).mono ?_; rintro e w' ⟨rfl, rfl⟩))
  go_loopg [7, 8] l.length (fun gg s7 s8 wr => ∃ kk : Nat, kk ≤ l.length ∧ l.length - kk ≤ gg ∧ s8 = .int .i64 kk ∧ Aside (Below w.heap.size w wr) ∧ Aside (Own wr w.heap.size 29 3 encB s7 (((l.take kk).filter fun b => decide (b.be < t)).map (cutB t))))
  case atStart => exact ⟨0, Nat.zero_le _, by omega, rfl, hb', Own.nil⟩
  case round =>
    clear hcb hb'
    obtain ⟨kk, hkk, hg, rfl, BW, OW⟩ := hrel
    by_cases hlt : kk < l.length
    · have hltz : (kk : Int) < (l.length : Int) := by omega
      obtain ⟨x, hx⟩ : ∃ x, l[kk]? = some x := ⟨l[kk], by simp [hlt]⟩
      obtain ⟨b, off, rfl, hc⟩ := hel kk x hx
      have hlt0 := World.block_lt_of_cell? w _ (hc 0 _ rfl)
      have c0 := (BW.out.cell (p := ⟨b, off + kk * 3, none⟩) hlt0).trans (hc 0 _ rfl)
      have c1 := (BW.out.cell (p := ⟨b, off + kk * 3 + 1, none⟩) hlt0).trans (hc 1 _ rfl)
      have c2 := (BW.out.cell (p := ⟨b, off + kk * 3 + 2, none⟩) hlt0).trans (hc 2 _ rfl)
      have HX := Lib.hid hx
      have hszw := BW.out.size
      have htake : l.take (kk + 1) = l.take kk ++ [x] := by
        obtain ⟨hk, rfl⟩ := List.getElem?_eq_some_iff.1 hx
        rw [List.take_succ_eq_append_getElem hk]
      have htk : Hid (((l.take (kk + 1)).filter fun b => decide (b.be < t)).map (cutB t) = ((l.take kk).filter fun b => decide (b.be < t)).map (cutB t) ++ if decide (x.be < t) = true then [cutB t x] else []) := Lib.hid (by
        rw [htake, List.filter_append, List.map_append]
        congr 1
        by_cases h : x.be < t <;> simp [h])
      have hlen : Hid ((((l.take kk).filter fun b => decide (b.be < t)).map (cutB t)).length ≤ kk) := Lib.hid (by
        rw [List.length_map]
        exact Nat.le_trans (List.length_filter_le _ _) (List.length_take_le _ _))
      clear htake
      clear hx hc hel
      by_cases hbe : x.be < t
      · have hbe' : ¬ t ≤ x.be := by omega
        have htk1 := Lib.hid (by rw [htk.out, if_pos (by simpa using hbe)] : ((l.take (kk + 1)).filter fun b => decide (b.be < t)).map (cutB t) = ((l.take kk).filter fun b => decide (b.be < t)).map (cutB t) ++ [cutB t x])
        go_upto_region 12 with (fail)
        go_cut [40] (fun s40 w2 => s40 = .bool (x.en == -1 || decide (t < x.en)) ∧ w2 = wr.alloc (.cells #[.int .i64 x.ev, .int .i64 x.be, .int .i64 x.en] 29))
        case first =>
          cases e1 : (x.en == -1)
          all_goals
            go_wp2
            go_meet
            exact ⟨by simp [e1], rfl⟩
        obtain ⟨rfl, rfl⟩ := hcut
        generalize hO : (x.en == -1 || decide (t < x.en)) = O
        cases O
        case true =>
          have hcx : Hid (encB (cutB t x) = [.int .i64 x.ev, .int .i64 x.be, .int .i64 t]) := Lib.hid (by simp [cutB, hO, encB])
          clear hO
          go_wp2_with (at_builtin; refine wpList_push rfl _ _ 22 rfl slB rfl rfl (cutB t x) hcx.out rfl rfl (OW.out.al _) (by simp) (by have := hlen.out; omega) (by simp; omega) ?_; intro v' w1 ho1 hb1; rw [← htk1.out] at ho1; have HO := Lib.hid ho1; have HB := Lib.hid hb1; clear ho1 hb1)
          go_roundg (l.length - (kk + 1))
          case measure => omega
          case rel =>
            refine ⟨kk + 1, by omega, by omega, by go_num, (BW.out.alloc hszw _).trans HB.out, HO.out⟩
        case false =>
          have hcx : Hid (encB (cutB t x) = [.int .i64 x.ev, .int .i64 x.be, .int .i64 x.en]) := Lib.hid (by simp [cutB, hO, encB])
          clear hO
          go_wp2_with (at_builtin; refine wpList_push rfl _ _ 22 rfl slB rfl rfl (cutB t x) hcx.out rfl rfl (OW.out.al _) (by simp) (by have := hlen.out; omega) (by simp; omega) ?_; intro v' w1 ho1 hb1; rw [← htk1.out] at ho1; have HO := Lib.hid ho1; have HB := Lib.hid hb1; clear ho1 hb1)
          go_roundg (l.length - (kk + 1))
          case measure => omega
          case rel =>
            refine ⟨kk + 1, by omega, by omega, by go_num, (BW.out.alloc hszw _).trans HB.out, HO.out⟩
      · have hbe' : t ≤ x.be := by omega
        have htk1 := Lib.hid (by rw [htk.out, if_neg (by simpa using hbe), List.append_nil] : ((l.take (kk + 1)).filter fun b => decide (b.be < t)).map (cutB t) = ((l.take kk).filter fun b => decide (b.be < t)).map (cutB t))
        go_wp2
        go_roundg (l.length - (kk + 1))
        case measure => omega
        case rel => exact ⟨kk + 1, by omega, by omega, by go_num, BW.out.alloc hszw _, (show Own _ _ _ _ _ _ _ from by rw [htk1.out]; exact OW.out.al _)⟩
    · have hltz : ¬ (kk : Int) < (l.length : Int) := by omega
      obtain rfl : kk = l.length := by omega
      have htw : Hid (shortR l t = ((l.take l.length).filter fun b => decide (b.be < t)).map (cutB t)) := Lib.hid (by
        rw [shortR, if_pos hf.out, List.take_length])
      clear hel
      go_wp2
      go_ret2
      exact SlPost.mk hf.out.symm (by rw [htw.out]; exact OW.out.sl encB_len) BW.out
end Go.Proofs.Ytaknkldbdijkeaa

/- Shortened of the program: what it returns. -/
import Derived.Test.YtpdeodoidlcdoaaG07
import Derived.Test.YtpdeodoidlcdoaaG03
import Derived.Test.YtpdeodoidlcdoaaG02
import Derived.Lib.SmallJoins
namespace Go.Proofs.Ytpdeodoidlcdoaa
open Go.RowKit

def cutB (e : Int) (b : Brk) : Brk := if (b.en == -1 || decide (e < b.en)) = true then { b with en := e } else b
/-- The fault of Shortened. -/
def shortF (l : List Brk) (e : Int) : Int := if checkB l ≠ 0 then checkB l else if outB e 0 1000000000000000 = true then 1 else 0
def shortL (l : List Brk) (e : Int) : List Brk := if shortF l e = 0 then (l.takeWhile fun b => decide (b.be < e)).map (cutB e) else []

theorem infoB : (Try.prog.info? 45).map (fun i => (i.zero, i.size, i.bytes)) = some (some (.agg #[.int .i64 0, .int .i64 0, .int .i64 0]), 3, 24) := by kernel_rfl
theorem slB : SlT Try.prog 35 45 3 24 := by
  obtain ⟨i0, hi, hz0, hz1, hz2⟩ := info_parts infoB
  exact ⟨i0, _, Try.underlying35, hi, hz0, hz1, hz2, rfl, by decide, by decide⟩

theorem takeWhile_of {p : Brk → Bool} : ∀ {l : List Brk} {k : Nat}, (∀ j x, l[j]? = some x → j < k → p x = true) → (k < l.length → ∃ x, l[k]? = some x ∧ p x = false) → k ≤ l.length → l.takeWhile p = l.take k
  | [], k, _, _, hk => by simp
  | y :: r, 0, _, h2, _ => by
    obtain ⟨x, hx, hp⟩ := h2 (by simp)
    simp at hx; subst hx
    simp [hp]
  | y :: r, k + 1, h1, h2, hk => by
    have hy : p y = true := h1 0 y rfl (by omega)
    rw [List.takeWhile_cons, if_pos hy, List.take_succ_cons]
    rw [takeWhile_of (l := r) (k := k) (fun j x hx hj => h1 (j + 1) x (by simpa using hx) (by omega)) (fun h => by simpa using h2 (by simpa using h)) (by simpa using hk)]

set_option maxRecDepth 100000 in
set_option maxHeartbeats 2000000 in
theorem shortened_any (w : World) (l : List Brk) (v : Value) (t : Int) (hl : Sl w 3 encB v l) :
    Calls Try.prog 8 #[v, .int .i64 t] w (SlPost w 3 encB (shortL l t) (shortF l t)) := by
  have hcb := checkBreaks_any w l v hl
  obtain ⟨ao, cap, rfl, hcap, hmax, hnil, hel⟩ := hl
  unfold maxLen at hmax
  by_cases h1 : checkB l ≠ 0
  · have e1 : (checkB l != 0) = true := by simpa using h1
    have hf : shortF l t = checkB l := by simp [shortF, h1]
    have HF := Lib.hid hf
    have H1 := Lib.hid h1
    clear hf hel h1
    go_enter Try.func8, Try.ntmps8
    go_wp2_with (go_at_call 22; refine hcb.mono ?_; rintro e w' ⟨rfl, hb'⟩)
    go_ret2
    exact SlPost.mk HF.out.symm (by rw [shortL, HF.out, if_neg H1.out]; exact Sl.nil) hb'
  have h0 : checkB l = 0 := by simpa using h1
  have h200 : l.length ≤ 200 := by
    by_cases h : 200 < l.length
    · simp [checkB, h] at h0
    · omega
  rw [h0] at hcb
  cases h2 : outB t 0 1000000000000000
  case true =>
    have hf : Hid (shortF l t = 1) := Lib.hid (by simp [shortF, h0, h2])
    clear hel h1 h0
    go_enter Try.func8, Try.ntmps8
    go_wp2_with (first | (go_at_call 22; refine hcb.mono ?_; rintro e w' ⟨rfl, hb'⟩) | (go_at_call 21; refine (out_any _ _ _ _).mono ?_; rintro e w' ⟨rfl, rfl⟩))
    go_ret2
    exact SlPost.mk hf.out.symm (by rw [shortL, hf.out]; exact Sl.nil) hb'
  have hf : Hid (shortF l t = 0) := Lib.hid (by simp [shortF, h0, h2])
  clear h0 h1
  go_enter Try.func8, Try.ntmps8
  go_wp2_with (first | (go_at_call 22; refine hcb.mono ?_; rintro e w' ⟨rfl, hb'⟩) | (go_at_call 21; refine (out_any _ _ _ _).mono ?_; rintro e w' ⟨rfl, rfl⟩))
  go_loopg [7, 19] l.length (fun gg s7 s19 wr => ∃ kk : Nat, kk ≤ l.length ∧ l.length - kk ≤ gg ∧ s19 = .int .i64 kk ∧ Aside (Below w.heap.size w wr) ∧ Aside (Own wr w.heap.size 45 3 encB s7 ((l.take kk).map (cutB t))) ∧ Aside (∀ j x, l[j]? = some x → j < kk → decide (x.be < t) = true))
  case atStart => exact ⟨0, Nat.zero_le _, by omega, rfl, hb', Own.nil, fun j x _ hj => absurd hj (Nat.not_lt_zero _)⟩
  case round =>
    clear hcb hb'
    obtain ⟨kk, hkk, hg, rfl, BW, OW, A⟩ := hrel
    by_cases hlt : kk < l.length
    · have hltz : (kk : Int) < (l.length : Int) := by omega
      obtain ⟨x, hx⟩ : ∃ x, l[kk]? = some x := ⟨l[kk], by simp [hlt]⟩
      obtain ⟨b, off, rfl, hc⟩ := hel kk x hx
      have hlt0 := World.block_lt_of_cell? w _ (hc 0 _ rfl)
      have c0 := (BW.out.cell (p := ⟨b, off + kk * 3, none⟩) hlt0).trans (hc 0 _ rfl)
      have c1 := (BW.out.cell (p := ⟨b, off + kk * 3 + 1, none⟩) hlt0).trans (hc 1 _ rfl)
      have c2 := (BW.out.cell (p := ⟨b, off + kk * 3 + 2, none⟩) hlt0).trans (hc 2 _ rfl)
      have HX := Lib.hid hx
      have hszw := BW.out.size
      have htk : Hid ((l.take (kk + 1)).map (cutB t) = (l.take kk).map (cutB t) ++ [cutB t x]) := Lib.hid (by
        obtain ⟨hk, rfl⟩ := List.getElem?_eq_some_iff.1 hx
        rw [List.take_succ_eq_append_getElem hk, List.map_append]; simp)
      have hlen : Hid (((l.take kk).map (cutB t)).length = kk) := Lib.hid (by simp; omega)
      clear hx hc hel
      by_cases hbe : x.be < t
      · have hbe' : ¬ t ≤ x.be := by omega
        go_upto_region 11 with (fail)
        go_cut [35] (fun s35 w2 => s35 = .bool (x.en == -1 || decide (t < x.en)) ∧ w2 = wr.alloc (.cells #[.int .i64 x.ev, .int .i64 x.be, .int .i64 x.en] 45))
        case first =>
          cases e1 : (x.en == -1)
          all_goals
            go_wp2
            go_meet
            exact ⟨by simp [e1], rfl⟩
        obtain ⟨rfl, rfl⟩ := hcut
        generalize hO : (x.en == -1 || decide (t < x.en)) = O
        cases O
        case true =>
          have hcx : Hid (encB (cutB t x) = [.int .i64 x.ev, .int .i64 x.be, .int .i64 t]) := Lib.hid (by simp [cutB, hO, encB])
          clear hO
          go_wp2_with (at_builtin; refine wpList_push rfl _ _ 35 rfl slB rfl rfl (cutB t x) hcx.out rfl rfl (OW.out.al _) (by simp) (by rw [hlen.out]; omega) (by simp; omega) ?_; intro v' w1 ho1 hb1; rw [← htk.out] at ho1; have HO := Lib.hid ho1; have HB := Lib.hid hb1; clear ho1 hb1)
          go_roundg (l.length - (kk + 1))
          case measure => omega
          case rel =>
            refine ⟨kk + 1, by omega, by omega, by go_num, (BW.out.alloc hszw _).trans HB.out, HO.out, (show Aside _ from fun j z hz hj => ?_)⟩
            by_cases e : j = kk
            · subst e
              have := HX.out.symm.trans hz
              simp at this; subst this; simpa using hbe
            · exact A.out j z hz (by omega)
        case false =>
          have hcx : Hid (encB (cutB t x) = [.int .i64 x.ev, .int .i64 x.be, .int .i64 x.en]) := Lib.hid (by simp [cutB, hO, encB])
          clear hO
          go_wp2_with (at_builtin; refine wpList_push rfl _ _ 35 rfl slB rfl rfl (cutB t x) hcx.out rfl rfl (OW.out.al _) (by simp) (by rw [hlen.out]; omega) (by simp; omega) ?_; intro v' w1 ho1 hb1; rw [← htk.out] at ho1; have HO := Lib.hid ho1; have HB := Lib.hid hb1; clear ho1 hb1)
          go_roundg (l.length - (kk + 1))
          case measure => omega
          case rel =>
            refine ⟨kk + 1, by omega, by omega, by go_num, (BW.out.alloc hszw _).trans HB.out, HO.out, (show Aside _ from fun j z hz hj => ?_)⟩
            by_cases e : j = kk
            · subst e
              have := HX.out.symm.trans hz
              simp at this; subst this; simpa using hbe
            · exact A.out j z hz (by omega)
      · have hbe' : t ≤ x.be := by omega
        have htw : Hid (shortL l t = (l.take kk).map (cutB t)) := Lib.hid (by
          rw [shortL, if_pos hf.out, takeWhile_of (k := kk) (fun j z hz hj => A.out j z hz hj) (fun _ => ⟨x, HX.out, by simpa using hbe'⟩) hkk])
        go_wp2
        go_ret2
        exact SlPost.mk hf.out.symm (by rw [htw.out]; exact (OW.out.al _).sl encB_len) (BW.out.alloc hszw _)
    · have hltz : ¬ (kk : Int) < (l.length : Int) := by omega
      have htw : Hid (shortL l t = (l.take kk).map (cutB t)) := Lib.hid (by
        rw [shortL, if_pos hf.out, takeWhile_of (k := kk) (fun j z hz hj => A.out j z hz hj) (fun h => by omega) hkk])
      clear hel
      go_wp2
      go_ret2
      exact SlPost.mk hf.out.symm (by rw [htw.out]; exact OW.out.sl encB_len) BW.out
end Go.Proofs.Ytpdeodoidlcdoaa

/- All cues, and the breaks that come out: plain. -/
namespace Go.Proofs.Ytpdeodoidlcdoaa
open Go.RowKit

def encH (h : Hrd) : List Value := [.int .i64 h.at_, .int .i64 h.cu.ki, .int .i64 h.cu.ev, .bool h.cu.no, .int .i64 h.cu.ti, .int .i64 h.cu.le, .bool h.cu.au]
theorem encH_len (h : Hrd) : (encH h).length = 7 := rfl
/-- Does a cue come before the one before it? -/
def ordH (l : List Hrd) (j : Nat) (h : Hrd) : Bool := decide (0 < j) && (match l[j - 1]? with | none => false | some p => decide (h.at_ < p.at_))
def errOf (l : List Hrd) (j : Nat) (h : Hrd) : Int := if outB h.at_ (-1000000000000000) 1000000000000000 = true then 1 else if ordH l j h = true then 8 else checkC h.cu
def errH (l : List Hrd) (j : Nat) : Int := match l[j]? with | none => 0 | some h => errOf l j h
theorem errH_at {l : List Hrd} {j : Nat} {h : Hrd} (hj : l[j]? = some h) : errH l j = errOf l j h := by unfold errH; rw [hj]
/-- What became of events, and the idle cues. -/
def stE (l : List Hrd) : Nat → List Evn
  | 0 => []
  | k + 1 => match l[k]? with | none => stE l k | some h => (hear1 (stE l k) h).1
def idE (l : List Hrd) : Nat → List Int
  | 0 => []
  | k + 1 => match l[k]? with | none => idE l k | some h => if (hear1 (stE l k) h).2 = true then idE l k else idE l k ++ [(k : Int)]
theorem stE_at {l : List Hrd} {k : Nat} {h : Hrd} (hk : l[k]? = some h) : stE l (k + 1) = (hear1 (stE l k) h).1 := by rw [stE, hk]
theorem idE_at {l : List Hrd} {k : Nat} {h : Hrd} (hk : l[k]? = some h) : idE l (k + 1) = if (hear1 (stE l k) h).2 = true then idE l k else idE l k ++ [(k : Int)] := by rw [idE, hk]
theorem stE_ids (l : List Hrd) : ∀ k, idsE (stE l k)
  | 0 => List.Pairwise.nil
  | k + 1 => by
    rw [stE]
    split
    · exact stE_ids l k
    · exact hear_ids (stE_ids l k)
theorem stE_len (l : List Hrd) : ∀ k, (stE l k).length ≤ k
  | 0 => Nat.le_refl _
  | k + 1 => by
    have ih := stE_len l k
    rw [stE]
    split
    · omega
    · rename_i h _
      have := hear_len (l := stE l k) (h := h)
      omega
theorem idE_len (l : List Hrd) : ∀ k, (idE l k).length ≤ k
  | 0 => Nat.le_refl _
  | k + 1 => by
    have ih := idE_len l k
    rw [idE]
    split
    · omega
    · split
      · omega
      · simp; omega
theorem err_ok {l : List Hrd} {j : Nat} {h : Hrd} (hj : l[j]? = some h) (he : errH l j = 0) : okH h ∧ ordH l j h = false := by
  rw [errH_at hj] at he
  unfold errOf at he
  by_cases h1 : outB h.at_ (-1000000000000000) 1000000000000000 = true
  · rw [if_pos h1] at he; cases he
  · rw [if_neg h1] at he
    by_cases h2 : ordH l j h = true
    · rw [if_pos h2] at he; cases he
    · rw [if_neg h2] at he
      obtain ⟨h3, _, h4, _⟩ := checkC_zero he
      refine ⟨⟨?_, h3, h4⟩, by simpa using h2⟩
      have h5 : outB h.at_ (-1000000000000000) 1000000000000000 = false := by simpa using h1
      simp [outB] at h5
      omega
theorem stE_ok {l : List Hrd} : ∀ {k : Nat}, (∀ j, j < k → errH l j = 0) → ∀ e, e ∈ stE l k → okE e
  | 0, _, e, he => by simp [stE] at he
  | k + 1, hz, e, he => by
    have ih := stE_ok (l := l) (k := k) (fun j hj => hz j (by omega))
    rw [stE] at he
    cases hk : l[k]? with
    | none => rw [hk] at he; exact ih e he
    | some h =>
      rw [hk] at he
      exact hear_ok ih (err_ok hk (hz k (by omega))).1 e he

def badG (e : Evn) : Bool := outB e.be 0 1000000000000000 || (!e.op && outB e.en 0 1000000000000000)
def toB (e : Evn) : Brk := ⟨e.id, e.be, if e.op = true then -1 else e.en⟩
/-- The fault of Breaks, the breaks, and the idle cues. -/
def brkF (l : List Hrd) : Int := if 500 < l.length then 2 else if FF (errH l) l.length ≠ 0 then FF (errH l) l.length else if (gapsE (stE l l.length)).any badG = true then 1 else if 200 < (gapsE (stE l l.length)).length then 2 else 0
def brkL (l : List Hrd) : List Brk := if brkF l = 0 then (gapsE (stE l l.length)).map toB else []
def brkI (l : List Hrd) : List Int := if brkF l = 0 then idE l l.length else []
theorem brk_large {l : List Hrd} (h : 500 < l.length) : brkF l = 2 ∧ brkL l = [] ∧ brkI l = [] := by
  have e : brkF l = 2 := by unfold brkF; rw [if_pos h]
  exact ⟨e, by unfold brkL; rw [e]; rfl, by unfold brkI; rw [e]; rfl⟩
theorem brk_err {l : List Hrd} (h : ¬ 500 < l.length) {j : Nat} (hj : j < l.length) (hz : ∀ i, i < j → errH l i = 0) {f : Int} (he : errH l j = f) (hf : f ≠ 0) : brkF l = f ∧ brkL l = [] ∧ brkI l = [] := by
  have hh := FF_hit (f := errH l) hj hz (by rw [he]; exact hf)
  rw [he] at hh
  have e : brkF l = f := by unfold brkF; rw [if_neg h, hh, if_pos hf]
  exact ⟨e, by unfold brkL; rw [e, if_neg hf], by unfold brkI; rw [e, if_neg hf]⟩
theorem brk_bad {l : List Hrd} (h : ¬ 500 < l.length) (hz : ∀ i, i < l.length → errH l i = 0) {g : Evn} (hg : g ∈ gapsE (stE l l.length)) (hb : badG g = true) : brkF l = 1 ∧ brkL l = [] ∧ brkI l = [] := by
  have e : brkF l = 1 := by unfold brkF; rw [if_neg h, FF_zero hz, if_neg (by simp), if_pos (List.any_eq_true.2 ⟨g, hg, hb⟩)]
  exact ⟨e, by unfold brkL; rw [e]; rfl, by unfold brkI; rw [e]; rfl⟩
theorem brk_many {l : List Hrd} (h : ¬ 500 < l.length) (hz : ∀ i, i < l.length → errH l i = 0) (hg : ∀ g, g ∈ gapsE (stE l l.length) → badG g = false) (hm : 200 < (gapsE (stE l l.length)).length) : brkF l = 2 ∧ brkL l = [] ∧ brkI l = [] := by
  have ha : (gapsE (stE l l.length)).any badG = false := by rw [List.any_eq_false]; intro g hg'; rw [hg g hg']; simp
  have e : brkF l = 2 := by unfold brkF; rw [if_neg h, FF_zero hz, if_neg (by simp), if_neg (by simp [ha]), if_pos hm]
  exact ⟨e, by unfold brkL; rw [e]; rfl, by unfold brkI; rw [e]; rfl⟩
theorem brk_ok {l : List Hrd} (h : ¬ 500 < l.length) (hz : ∀ i, i < l.length → errH l i = 0) (hg : ∀ g, g ∈ gapsE (stE l l.length) → badG g = false) (hm : ¬ 200 < (gapsE (stE l l.length)).length) : brkF l = 0 ∧ brkL l = (gapsE (stE l l.length)).map toB ∧ brkI l = idE l l.length := by
  have ha : (gapsE (stE l l.length)).any badG = false := by rw [List.any_eq_false]; intro g hg'; rw [hg g hg']; simp
  have e : brkF l = 0 := by unfold brkF; rw [if_neg h, FF_zero hz, if_neg (by simp), if_neg (by simp [ha]), if_neg hm]
  exact ⟨e, by unfold brkL; rw [e]; rfl, by unfold brkI; rw [e]; rfl⟩

/-- Two slices and a fault. -/
def BrkPost (w : World) (l : List Brk) (m : List Int) (f : Int) : Ending → World → Prop := fun e w' => ∃ v1 v2, e = .returned (.tuple #[v1, v2, .int .i64 f]) ∧ Sl w' 3 encB v1 l ∧ Sl w' 1 encI v2 m ∧ Below w.heap.size w w'
theorem BrkPost.mk {w w' : World} {l : List Brk} {m : List Int} {f f' : Int} {v1 v2 : Value} (hf : f' = f) (h1 : Sl w' 3 encB v1 l) (h2 : Sl w' 1 encI v2 m) (hb : Below w.heap.size w w') : BrkPost w l m f (.returned (.tuple #[v1, v2, .int .i64 f'])) w' := ⟨v1, v2, by rw [hf], h1, h2, hb⟩
theorem BrkPost.none {w w' : World} {l : List Brk} {m : List Int} {f f' : Int} (h : f = f' ∧ l = [] ∧ m = []) (hb : Below w.heap.size w w') : BrkPost w l m f (.returned (.tuple #[.slice none 0 0, .slice none 0 0, .int .i64 f'])) w' := by
  obtain ⟨rfl, rfl, rfl⟩ := h
  exact .mk rfl Sl.nil Sl.nil hb
end Go.Proofs.Ytpdeodoidlcdoaa

/- Cues that are heard among the arguments. -/
namespace Go.Proofs.Ytpdeodoidlcdoaa
open Go.RowKit Go.ChangeShapes Go.WideShapes Go.Deep

theorem cellsC : Try.prog.cellsOf 29 = 6 := by kernel_rfl
theorem cellsI : Try.prog.cellsOf 3 = 1 := by kernel_rfl
theorem cellsBo : Try.prog.cellsOf 4 = 1 := by kernel_rfl

/-- A struct of six fields among the arguments. -/
theorem trod_six {H : Type} {enc : TypeId × Value → H} {P : Program} {w : World} {base : Nat} {spare : Nat → Bool} {held : Bool} {t : TypeId} {f0 f1 f2 f3 f4 f5 : Field} {fuel : Nat} {cs : List Value} {x : DataW H × List MemPlace} (ht : P.underlying t = some (.struct #[f0, f1, f2, f3, f4, f5])) (h : DataW.trod enc P w base spare held fuel t cs = some x) :
    ∃ (y0 y1 y2 y3 y4 y5 : DataW H × List MemPlace) (n : Nat), cs.length = P.cellsOf t ∧ DataW.trod enc P w base spare held n f0.type ((cs.drop f0.offset).take (P.cellsOf f0.type)) = some y0 ∧ DataW.trod enc P w base spare held n f1.type ((cs.drop f1.offset).take (P.cellsOf f1.type)) = some y1 ∧ DataW.trod enc P w base spare held n f2.type ((cs.drop f2.offset).take (P.cellsOf f2.type)) = some y2 ∧ DataW.trod enc P w base spare held n f3.type ((cs.drop f3.offset).take (P.cellsOf f3.type)) = some y3 ∧ DataW.trod enc P w base spare held n f4.type ((cs.drop f4.offset).take (P.cellsOf f4.type)) = some y4 ∧ DataW.trod enc P w base spare held n f5.type ((cs.drop f5.offset).take (P.cellsOf f5.type)) = some y5 := by
  obtain ⟨xs, n, _, rfl, hl, hlen, hf⟩ := DataW.trod_struct ht h
  match xs, hlen with
  | [y0, y1, y2, y3, y4, y5], _ => exact ⟨y0, y1, y2, y3, y4, y5, n, hl, by simpa using hf 0 f0 rfl, by simpa using hf 1 f1 rfl, by simpa using hf 2 f2 rfl, by simpa using hf 3 f3 rfl, by simpa using hf 4 f4 rfl, by simpa using hf 5 f5 rfl⟩

set_option maxRecDepth 100000 in
/-- The six cells of a cue. -/
theorem cue_cells {H : Type} {enc : TypeId × Value → H} {b0 : Nat} {spare : Nat → Bool} {held : Bool} {W : World} {n : Nat} {cs : List Value} {x : DataW H × List MemPlace}
    (h : DataW.trod enc Try.prog W b0 spare held n 29 cs = some x) : ∃ y : Cue, cs = [.int .i64 y.ki, .int .i64 y.ev, .bool y.no, .int .i64 y.ti, .int .i64 y.le, .bool y.au] ∧ I64 y.ki ∧ I64 y.ev ∧ I64 y.ti ∧ I64 y.le := by
  obtain ⟨y0, y1, y2, y3, y4, y5, m, hl, h0, h1, h2, h3, h4, h5⟩ := trod_six Try.underlying29 h
  rw [cellsC] at hl
  match cs, hl with
  | [a, b, c, d, e, f], _ =>
    simp only [cellsI, cellsBo] at h0 h1 h2 h3 h4 h5
    obtain ⟨a', e0, _, w0⟩ := DataW.trod_int Try.underlying3 h0
    obtain ⟨b', e1, _, w1⟩ := DataW.trod_int Try.underlying3 h1
    obtain ⟨c', e2, _⟩ := DataW.trod_bool Try.underlying4 h2
    obtain ⟨d', e3, _, w3⟩ := DataW.trod_int Try.underlying3 h3
    obtain ⟨e', e4, _, w4⟩ := DataW.trod_int Try.underlying3 h4
    obtain ⟨f', e5, _⟩ := DataW.trod_bool Try.underlying4 h5
    simp at e0 e1 e2 e3 e4 e5
    subst e0 e1 e2 e3 e4 e5
    exact ⟨⟨a', b', c', d', e', f'⟩, rfl, I64.of w0, I64.of w1, I64.of w3, I64.of w4⟩
theorem cellsH : Try.prog.cellsOf 31 = 7 := by kernel_rfl
theorem bytesH : Try.prog.bytesOf 31 = 56 := by kernel_rfl
/-- A struct of two fields among the arguments. -/
theorem trod_two {H : Type} {enc : TypeId × Value → H} {P : Program} {w : World} {base : Nat} {spare : Nat → Bool} {held : Bool} {t : TypeId} {f0 f1 : Field} {fuel : Nat} {cs : List Value} {x : DataW H × List MemPlace} (ht : P.underlying t = some (.struct #[f0, f1])) (h : DataW.trod enc P w base spare held fuel t cs = some x) :
    ∃ (y0 y1 : DataW H × List MemPlace) (n : Nat), cs.length = P.cellsOf t ∧ DataW.trod enc P w base spare held n f0.type ((cs.drop f0.offset).take (P.cellsOf f0.type)) = some y0 ∧ DataW.trod enc P w base spare held n f1.type ((cs.drop f1.offset).take (P.cellsOf f1.type)) = some y1 := by
  obtain ⟨xs, n, _, rfl, hl, hlen, hf⟩ := DataW.trod_struct ht h
  match xs, hlen with
  | [y0, y1], _ => exact ⟨y0, y1, n, hl, by simpa using hf 0 f0 rfl, by simpa using hf 1 f1 rfl⟩
set_option maxRecDepth 100000 in
theorem decH (w : World) : Dec Try.prog w 31 encH (fun _ => True) := by
  intro H enc n cs x h
  obtain ⟨y0, y1, m, hl, h0, h1⟩ := trod_two Try.underlying31 h
  rw [cellsH] at hl
  match cs, hl with
  | [a, b, c, d, e, f, g], _ =>
    simp only [cellsI, cellsC] at h0 h1
    obtain ⟨a', e0, _, w0⟩ := DataW.trod_int Try.underlying3 h0
    obtain ⟨y, e1, _⟩ := cue_cells h1
    simp at e0 e1
    obtain ⟨rfl, rfl, rfl, rfl, rfl, rfl⟩ := e1
    subst e0
    exact ⟨⟨a', y⟩, rfl, trivial⟩
end Go.Proofs.Ytpdeodoidlcdoaa

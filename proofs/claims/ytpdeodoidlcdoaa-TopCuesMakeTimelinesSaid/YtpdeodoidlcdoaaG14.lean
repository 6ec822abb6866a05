/- Parts of a timeline: the fault of one, of all. -/
import Derived.Test.YtpdeodoidlcdoaaG09
import Derived.Test.YtpdeodoidlcdoaaG13
namespace Go.Proofs.Ytpdeodoidlcdoaa
open Go.RowKit

structure Prt where
  ad : ByteArray
  fr : Int
  ln : Int

instance : Inhabited Prt := ⟨⟨ByteArray.empty, 0, 0⟩⟩

def encP (p : Prt) : List Value := [.string p.ad, .int .i64 p.fr, .int .i64 p.ln]
theorem encP_len (p : Prt) : (encP p).length = 3 := rfl
def WfP (p : Prt) : Prop := p.ad.size ≤ 9223372036854775807 ∧ (-9223372036854775808 ≤ p.fr ∧ p.fr ≤ 9223372036854775807) ∧ (-9223372036854775808 ≤ p.ln ∧ p.ln ≤ 9223372036854775807)

/-- Is it a part of the programme? -/
def noAd (p : Prt) : Bool := p.ad.toList.isEmpty

/-- The fault of a part by itself. -/
def pf (p : Prt) : Int :=
  if (!noAd p && !nameB p.ad) = true then 5
  else if (outB p.ln 1 1000000000000000 || outB p.fr 0 1000000000000000 || decide (1000000000000000 < p.fr + p.ln)) = true then 1
  else if (!noAd p && (p.fr != 0)) = true then 3 else 0

def sumL : List Prt → Int
  | [] => 0
  | p :: r => p.ln + sumL r
def endL (e : Int) : List Prt → Int
  | [] => e
  | p :: r => endL (if noAd p = true then p.fr + p.ln else e) r

theorem sumL_append : ∀ (a b : List Prt), sumL (a ++ b) = sumL a + sumL b
  | [], b => by simp [sumL]
  | p :: r, b => by simp [sumL, sumL_append r b]; omega
theorem endL_append : ∀ (e : Int) (a b : List Prt), endL e (a ++ b) = endL (endL e a) b
  | _, [], _ => rfl
  | e, p :: r, b => by simp [endL, endL_append _ r b]

def cpOf (p : Prt) (e : Int) : Int := if pf p ≠ 0 then pf p else if (noAd p && decide (p.fr < e)) = true then 8 else 0
def cpAt (l : List Prt) (i : Nat) : Int := cpOf (l.getD i default) (endL 0 (l.take i))
/-- The fault of a timeline. -/
def checkP (l : List Prt) : Int :=
  if 1000 < l.length then 2 else if FF (cpAt l) l.length ≠ 0 then FF (cpAt l) l.length else if 1000000000000000 < sumL l then 1 else 0

theorem pf_zero {p : Prt} (h : pf p = 0) : (noAd p = true ∨ nameB p.ad = true) ∧ 1 ≤ p.ln ∧ p.ln ≤ 1000000000000000 ∧ 0 ≤ p.fr ∧ p.fr ≤ 1000000000000000 ∧ p.fr + p.ln ≤ 1000000000000000 ∧ (noAd p = true ∨ p.fr = 0) := by
  unfold pf at h
  split at h
  · simp at h
  rename_i h1
  split at h
  · simp at h
  rename_i h2
  split at h
  · simp at h
  rename_i h3
  simp [outB] at h1 h2 h3
  refine ⟨?_, by omega, by omega, by omega, by omega, by omega, ?_⟩
  · cases hn : noAd p
    · exact .inr (h1 hn)
    · exact .inl rfl
  · cases hn : noAd p
    · exact .inr (h3 hn)
    · exact .inl rfl

set_option maxHeartbeats 1000000 in
theorem partFault_any (p : Prt) (w : World) (hw : WfP p) :
    Calls Try.prog 56 #[.agg #[.string p.ad, .int .i64 p.fr, .int .i64 p.ln]] w fun e w' => e = .returned (.int .i64 (pf p)) ∧ Below w.heap.size w w' := by
  obtain ⟨hs, hf, hl⟩ := hw
  have hin := isName_any p.ad
  have HA : Below w.heap.size w (w.alloc (.cells #[.string p.ad, .int .i64 p.fr, .int .i64 p.ln] 52)) := (Below.refl _ _).alloc (Nat.le_refl _) _
  have hC : Hid (pf p = if (!noAd p && !nameB p.ad) = true then 5 else if (outB p.ln 1 1000000000000000 || outB p.fr 0 1000000000000000 || decide (1000000000000000 < p.fr + p.ln)) = true then 1 else if (!noAd p && (p.fr != 0)) = true then 3 else 0) := Lib.hid rfl
  have hno : Hid (noAd p = p.ad.toList.isEmpty) := Lib.hid rfl
  obtain ⟨na, hna⟩ : ∃ na, na = p.ad.toList.isEmpty := ⟨_, rfl⟩
  have hn1 : noAd p = na := hno.out.trans hna.symm
  rw [hn1] at hC
  clear hn1 hno
  go_enter Try.func56, Try.ntmps56
  go_upto_region 1 with (fail)
  go_cut [3] (fun s3 w2 => s3 = .bool (!na && !nameB p.ad) ∧ w2 = w.alloc (.cells #[.string p.ad, .int .i64 p.fr, .int .i64 p.ln] 52))
  case first =>
    have HNA := Lib.hid hna
    clear hna
    cases na
    · have e1 : p.ad.toList.isEmpty = false := HNA.out.symm
      go_wp2_with (go_at_call 40; refine (hin _ hs).mono ?_; rintro e w' ⟨rfl, rfl⟩)
      go_meet
      simp
    · have e1 : p.ad.toList.isEmpty = true := HNA.out.symm
      go_wp2_with (go_at_call 40; refine (hin _ hs).mono ?_; rintro e w' ⟨rfl, rfl⟩)
      go_meet
      simp
  obtain ⟨rfl, rfl⟩ := hcut
  generalize hO : (!na && !nameB p.ad) = O at hC ⊢
  have HO := Lib.hid hO
  clear hO
  cases O
  case true =>
    have hv : Hid (5 = pf p) := Lib.hid (by rw [hC.out]; rfl)
    go_wp2
    go_ret
    exact ⟨ret_int hv.out, HA⟩
  go_upto_region 3 with (fail)
  go_cut [13] (fun s13 w2 => s13 = .bool (outB p.ln 1 1000000000000000 || outB p.fr 0 1000000000000000 || decide (1000000000000000 < p.fr + p.ln)) ∧ w2 = w.alloc (.cells #[.string p.ad, .int .i64 p.fr, .int .i64 p.ln] 52))
  case first =>
    cases o1 : outB p.ln 1 1000000000000000
    case true =>
      go_wp2_with (go_at_call 21; refine (out_any _ _ _ _).mono ?_; rintro e w' ⟨rfl, rfl⟩)
      go_meet
      exact ⟨by simp [*], rfl⟩
    cases o2 : outB p.fr 0 1000000000000000
    case true =>
      go_wp2_with (go_at_call 21; refine (out_any _ _ _ _).mono ?_; rintro e w' ⟨rfl, rfl⟩)
      go_meet
      exact ⟨by simp [*], rfl⟩
    have b1 : 1 ≤ p.ln ∧ p.ln ≤ 1000000000000000 := by simp [outB] at o1; omega
    have b2 : 0 ≤ p.fr ∧ p.fr ≤ 1000000000000000 := by simp [outB] at o2; omega
    obtain ⟨b11, b12⟩ := b1
    obtain ⟨b21, b22⟩ := b2
    go_wp2_with (go_at_call 21; refine (out_any _ _ _ _).mono ?_; rintro e w' ⟨rfl, rfl⟩)
    go_meet
    exact ⟨by simp [*], rfl⟩
  obtain ⟨rfl, rfl⟩ := hcut
  generalize hO2 : (outB p.ln 1 1000000000000000 || outB p.fr 0 1000000000000000 || decide (1000000000000000 < p.fr + p.ln)) = O at hC ⊢
  have HO2 := Lib.hid hO2
  clear hO2
  cases O
  case true =>
    have hv : Hid (1 = pf p) := Lib.hid (by rw [hC.out]; rfl)
    go_wp2
    go_ret
    exact ⟨ret_int hv.out, HA⟩
  have HNA := Lib.hid hna
  clear hna
  cases na
  case true =>
    have e1 : p.ad.toList.isEmpty = true := HNA.out.symm
    have hv : Hid (0 = pf p) := Lib.hid (by rw [hC.out]; rfl)
    go_wp2
    go_ret
    exact ⟨ret_int hv.out, HA⟩
  case false =>
    have e1 : p.ad.toList.isEmpty = false := HNA.out.symm
    cases e2 : (p.fr != 0)
    · have hv : Hid (0 = pf p) := Lib.hid (by rw [hC.out, e2]; rfl)
      go_wp2
      go_ret
      exact ⟨ret_int hv.out, HA⟩
    · have hv : Hid (3 = pf p) := Lib.hid (by rw [hC.out, e2]; rfl)
      go_wp2
      go_ret
      exact ⟨ret_int hv.out, HA⟩
end Go.Proofs.Ytpdeodoidlcdoaa

/- CheckParts of the program: what it returns. -/
namespace Go.Proofs.Ytpdeodoidlcdoaa
open Go.RowKit

theorem sumL_take {l : List Prt} {k : Nat} {p : Prt} (hx : l[k]? = some p) : sumL (l.take (k + 1)) = sumL (l.take k) + p.ln := by
  rw [take_next hx, sumL_append]; simp [sumL]
theorem endL_take {l : List Prt} {k : Nat} {p : Prt} (e : Int) (hx : l[k]? = some p) : endL e (l.take (k + 1)) = if noAd p = true then p.fr + p.ln else endL e (l.take k) := by
  rw [take_next hx, endL_append]; rfl

/-- What a round of CheckParts knows of what went before. -/
def CpAt (l : List Prt) (k : Nat) (e s : Int) : Prop := e = endL 0 (l.take k) ∧ s = sumL (l.take k) ∧ ∀ j, j < k → cpAt l j = 0

theorem CpAt.next {l : List Prt} {k : Nat} {e s : Int} {p : Prt} (h : CpAt l k e s) (hx : l[k]? = some p) (hz : cpOf p e = 0) {e' s' : Int} (he : e' = if noAd p = true then p.fr + p.ln else e) (hs : s' = s + p.ln) : CpAt l (k + 1) e' s' := by
  obtain ⟨h1, h2, h3⟩ := h
  refine ⟨by rw [endL_take 0 hx, he, h1], by rw [sumL_take hx, hs, h2], fun j hj => ?_⟩
  by_cases e0 : j = k
  · subst e0
    rw [cpAt, List.getD_eq_getElem?_getD, hx, Option.getD_some, ← h1]
    exact hz
  · exact h3 j (by omega)

theorem CpAt.fault {l : List Prt} {k : Nat} {e s : Int} {p : Prt} (h : CpAt l k e s) (hk : l.length ≤ 1000) (hx : l[k]? = some p) (hz : cpOf p e ≠ 0) : cpOf p e = checkP l := by
  obtain ⟨h1, h2, h3⟩ := h
  have hlt : k < l.length := (List.getElem?_eq_some_iff.1 hx).1
  have hat : cpAt l k = cpOf p e := by rw [cpAt, List.getD_eq_getElem?_getD, hx, Option.getD_some, ← h1]
  have hF := FF_hit (f := cpAt l) hlt h3 (by rw [hat]; exact hz)
  rw [checkP, if_neg (by omega), hF, hat, if_pos hz]

theorem CpAt.done {l : List Prt} {e s : Int} (h : CpAt l l.length e s) (hk : l.length ≤ 1000) : (if 1000000000000000 < s then 1 else 0) = checkP l := by
  obtain ⟨h1, h2, h3⟩ := h
  rw [List.take_length] at h2
  have hn : ¬ 1000 < l.length := by omega
  rw [checkP, if_neg hn, FF_zero h3, h2]
  simp

set_option maxRecDepth 100000 in
set_option maxHeartbeats 1000000 in
theorem checkParts_any (w : World) (l : List Prt) (v : Value) (hl : Sl w 3 encP v l) (hw : ∀ p, p ∈ l → WfP p) :
    Calls Try.prog 47 #[v] w fun e w' => e = .returned (.int .i64 (checkP l)) ∧ Below w.heap.size w w' := by
  obtain ⟨ao, cap, rfl, hcap, hmax, hnil, hel⟩ := hl
  unfold maxLen at hmax
  by_cases hbig : 1000 < l.length
  · have hv : Hid (2 = checkP l) := Lib.hid (by simp [checkP, hbig])
    clear hel
    go_enter Try.func47, Try.ntmps47
    go_wp2
    go_ret
    exact ⟨ret_int hv.out, Below.refl _ _⟩
  have HFa := Lib.hid (fun k e s p (h : CpAt l k e s) hx hz => CpAt.fault h (by omega) (p := p) hx hz)
  have HDo := Lib.hid (fun e s (h : CpAt l l.length e s) => CpAt.done h (by omega))
  go_enter Try.func47, Try.ntmps47
  go_wp2
  go_loopg [3, 4, 13] l.length (fun gg s3 s4 s13 wr => ∃ (kk : Nat) (e s : Int), kk ≤ l.length ∧ l.length - kk ≤ gg ∧ s13 = .int .i64 kk ∧ s3 = .int .i64 e ∧ s4 = .int .i64 s ∧ 0 ≤ e ∧ e ≤ 1000000000000000 ∧ 0 ≤ s ∧ s ≤ kk * 1000000000000000 ∧ Aside (Below w.heap.size w wr) ∧ Aside (CpAt l kk e s))
  case atStart => exact ⟨0, 0, 0, Nat.zero_le _, by omega, rfl, rfl, rfl, by omega, by omega, by omega, by omega, Below.refl _ w, ⟨rfl, rfl, fun j hj => absurd hj (Nat.not_lt_zero _)⟩⟩
  case round =>
    obtain ⟨kk, e, s, hkk, hg, rfl, rfl, rfl, he0, he1, hs0, hs1, BW, A⟩ := hrel
    by_cases hlt : kk < l.length
    · have hltz : (kk : Int) < (l.length : Int) := by omega
      have hks : (kk : Int) ≤ 1000 := by omega
      have hs2 : s ≤ 1000000000000000000 := by omega
      obtain ⟨p, hx⟩ : ∃ x, l[kk]? = some x := ⟨l[kk], by simp [hlt]⟩
      obtain ⟨b, off, rfl, hc⟩ := hel kk p hx
      have hwp := hw p (List.mem_of_getElem? hx)
      have hlt0 := World.block_lt_of_cell? w _ (hc 0 _ rfl)
      have c0 := (BW.out.cell (p := ⟨b, off + kk * 3, none⟩) hlt0).trans (hc 0 _ rfl)
      have c1 := (BW.out.cell (p := ⟨b, off + kk * 3 + 1, none⟩) hlt0).trans (hc 1 _ rfl)
      have c2 := (BW.out.cell (p := ⟨b, off + kk * 3 + 2, none⟩) hlt0).trans (hc 2 _ rfl)
      have HX := Lib.hid hx
      have hszw := BW.out.size
      have hpf := fun w => partFault_any p w hwp
      have HPF := Lib.hid hpf
      clear hx hc hel hpf
      obtain ⟨f, hf⟩ : ∃ f, f = pf p := ⟨_, rfl⟩
      have HFe := Lib.hid hf
      clear hf
      have hpf := HPF.out
      rw [← HFe.out] at hpf
      clear HPF
      cases e1 : (f != 0)
      case true =>
        have hv : Hid (f = checkP l) := Lib.hid (by
          have hz : f ≠ 0 := by simpa using e1
          have h1 : cpOf p e = f := by rw [cpOf, ← HFe.out, if_pos hz]
          rw [← HFa.out kk e s p A.out HX.out (by rw [h1]; exact hz), h1])
        go_wp2_with (go_at_call 56; refine (hpf _).mono ?_; rintro e w2 ⟨rfl, hb2⟩; have d0 := hb2.cell (p := ⟨wr.heap.size, 0, none⟩) (by simp); have d1 := hb2.cell (p := ⟨wr.heap.size, 1, none⟩) (by simp); have d2 := hb2.cell (p := ⟨wr.heap.size, 2, none⟩) (by simp))
        go_ret
        exact ⟨ret_int hv.out, (BW.out.alloc hszw _).thru hb2⟩
      have hz : f = 0 := by simpa using e1
      have hpz := pf_zero (HFe.out.symm.trans hz)
      obtain ⟨_, hl0, hl1, hf0, hf1, hfl, _⟩ := hpz
      have h1 : Hid (cpOf p e = if (noAd p && decide (p.fr < e)) = true then 8 else 0) := Lib.hid (by rw [cpOf, ← HFe.out, hz]; simp)
      subst hz
      clear e1
      have hno : Hid (noAd p = p.ad.toList.isEmpty) := Lib.hid rfl
      cases e2 : p.ad.toList.isEmpty
      case false =>
        have h2 : Hid (noAd p = false) := Lib.hid (hno.out.trans e2)
        have h3 : Hid (cpOf p e = 0) := Lib.hid (by rw [h1.out, h2.out]; rfl)
        go_wp2_with (go_at_call 56; refine (hpf _).mono ?_; rintro e w2 ⟨rfl, hb2⟩; have d0 := hb2.cell (p := ⟨wr.heap.size, 0, none⟩) (by simp); have d1 := hb2.cell (p := ⟨wr.heap.size, 1, none⟩) (by simp); have d2 := hb2.cell (p := ⟨wr.heap.size, 2, none⟩) (by simp))
        go_roundg (l.length - (kk + 1))
        case measure => omega
        case rel => exact ⟨kk + 1, e, s + p.ln, by omega, by omega, by go_num, rfl, rfl, by omega, by omega, by omega, by omega, (BW.out.alloc hszw _).thru hb2, A.out.next HX.out h3.out (by rw [h2.out]; rfl) rfl⟩
      case true =>
        have h2 : Hid (noAd p = true) := Lib.hid (hno.out.trans e2)
        by_cases hlt2 : p.fr < e
        · have h3 : Hid (cpOf p e = 8) := Lib.hid (by rw [h1.out, h2.out]; simp [hlt2])
          have hv : Hid (8 = checkP l) := Lib.hid (by rw [← HFa.out kk e s p A.out HX.out (by rw [h3.out]; decide), h3.out])
          go_wp2_with (go_at_call 56; refine (hpf _).mono ?_; rintro e w2 ⟨rfl, hb2⟩; have d0 := hb2.cell (p := ⟨wr.heap.size, 0, none⟩) (by simp); have d1 := hb2.cell (p := ⟨wr.heap.size, 1, none⟩) (by simp); have d2 := hb2.cell (p := ⟨wr.heap.size, 2, none⟩) (by simp))
          go_ret
          exact ⟨ret_int hv.out, (BW.out.alloc hszw _).thru hb2⟩
        · have h3 : Hid (cpOf p e = 0) := Lib.hid (by rw [h1.out, h2.out]; simp [hlt2])
          go_wp2_with (go_at_call 56; refine (hpf _).mono ?_; rintro e w2 ⟨rfl, hb2⟩; have d0 := hb2.cell (p := ⟨wr.heap.size, 0, none⟩) (by simp); have d1 := hb2.cell (p := ⟨wr.heap.size, 1, none⟩) (by simp); have d2 := hb2.cell (p := ⟨wr.heap.size, 2, none⟩) (by simp))
          go_roundg (l.length - (kk + 1))
          case measure => omega
          case rel => exact ⟨kk + 1, p.fr + p.ln, s + p.ln, by omega, by omega, by go_num, rfl, rfl, by omega, by omega, by omega, by omega, (BW.out.alloc hszw _).thru hb2, A.out.next HX.out h3.out (by rw [h2.out]; rfl) rfl⟩
    · obtain rfl : kk = l.length := by omega
      have hv := Lib.hid (HDo.out e s A.out)
      clear hel
      by_cases hs3 : 1000000000000000 < s
      · have hv1 : Hid (1 = checkP l) := Lib.hid (by rw [← hv.out, if_pos hs3])
        go_wp2
        go_ret
        exact ⟨ret_int hv1.out, BW.out⟩
      · have hv1 : Hid (0 = checkP l) := Lib.hid (by rw [← hv.out, if_neg hs3])
        go_wp2
        go_ret
        exact ⟨ret_int hv1.out, BW.out⟩
end Go.Proofs.Ytpdeodoidlcdoaa

/- CheckParts of the reference: what it returns. -/
namespace Go.Proofs.Ytpdeodoidlcdoaa
open Go.RowKit
end Go.Proofs.Ytpdeodoidlcdoaa

/- Parts of a timeline: the fault of one, of all. -/
import Derived.Test.YthpjgongplffnaaName
import Derived.Test.YthpjgongplffnaaOutK
namespace Go.Proofs.Ythpjgongplffnaa
open Go.RowKit

structure Prt where
  ad : ByteArray
  fr : Int
  ln : Int

instance : Inhabited Prt := ⟨⟨ByteArray.empty, 0, 0⟩⟩

def encP (p : Prt) : List Value := [.string p.ad, .int .i64 p.fr, .int .i64 p.ln]
theorem encP_len (p : Prt) : (encP p).length = 3 := rfl
def WfP (p : Prt) : Prop := p.ad.size ≤ 9223372036854775807 ∧ (-9223372036854775808 ≤ p.fr ∧ p.fr ≤ 9223372036854775807) ∧ (-9223372036854775808 ≤ p.ln ∧ p.ln ≤ 9223372036854775807)

/-- Is it a part of the programme? -/
def noAd (p : Prt) : Bool := p.ad.toList.isEmpty

/-- The fault of a part by itself. -/
def pf (p : Prt) : Int :=
  if (!noAd p && !nameB p.ad) = true then 5
  else if (outB p.ln 1 1000000000000000 || outB p.fr 0 1000000000000000 || decide (1000000000000000 < p.fr + p.ln)) = true then 1
  else if (!noAd p && (p.fr != 0)) = true then 3 else 0

def sumL : List Prt → Int
  | [] => 0
  | p :: r => p.ln + sumL r
def endL (e : Int) : List Prt → Int
  | [] => e
  | p :: r => endL (if noAd p = true then p.fr + p.ln else e) r

theorem sumL_append : ∀ (a b : List Prt), sumL (a ++ b) = sumL a + sumL b
  | [], b => by simp [sumL]
  | p :: r, b => by simp [sumL, sumL_append r b]; omega
theorem endL_append : ∀ (e : Int) (a b : List Prt), endL e (a ++ b) = endL (endL e a) b
  | _, [], _ => rfl
  | e, p :: r, b => by simp [endL, endL_append _ r b]

def cpOf (p : Prt) (e : Int) : Int := if pf p ≠ 0 then pf p else if (noAd p && decide (p.fr < e)) = true then 8 else 0
def cpAt (l : List Prt) (i : Nat) : Int := cpOf (l.getD i default) (endL 0 (l.take i))
/-- The fault of a timeline. -/
def checkP (l : List Prt) : Int :=
  if 1000 < l.length then 2 else if FF (cpAt l) l.length ≠ 0 then FF (cpAt l) l.length else if 1000000000000000 < sumL l then 1 else 0

theorem pf_zero {p : Prt} (h : pf p = 0) : (noAd p = true ∨ nameB p.ad = true) ∧ 1 ≤ p.ln ∧ p.ln ≤ 1000000000000000 ∧ 0 ≤ p.fr ∧ p.fr ≤ 1000000000000000 ∧ p.fr + p.ln ≤ 1000000000000000 ∧ (noAd p = true ∨ p.fr = 0) := by
  unfold pf at h
  split at h
  · simp at h
  rename_i h1
  split at h
  · simp at h
  rename_i h2
  split at h
  · simp at h
  rename_i h3
  simp [outB] at h1 h2 h3
  refine ⟨?_, by omega, by omega, by omega, by omega, by omega, ?_⟩
  · cases hn : noAd p
    · exact .inr (h1 hn)
    · exact .inl rfl
  · cases hn : noAd p
    · exact .inr (h3 hn)
    · exact .inl rfl

set_option maxHeartbeats 1000000 in
theorem partFault_any (p : Prt) (w : World) (hw : WfP p) :
    Calls Try.prog 10 #[.agg #[.string p.ad, .int .i64 p.fr, .int .i64 p.ln]] w fun e w' => e = .returned (.int .i64 (pf p)) ∧ Below w.heap.size w w' := by
  obtain ⟨hs, hf, hl⟩ := hw
  have hin := isName_any p.ad
  have HA : Below w.heap.size w (w.alloc (.cells #[.string p.ad, .int .i64 p.fr, .int .i64 p.ln] 28)) := (Below.refl _ _).alloc (Nat.le_refl _) _
  have hC : Hid (pf p = if (!noAd p && !nameB p.ad) = true then 5 else if (outB p.ln 1 1000000000000000 || outB p.fr 0 1000000000000000 || decide (1000000000000000 < p.fr + p.ln)) = true then 1 else if (!noAd p && (p.fr != 0)) = true then 3 else 0) := Lib.hid rfl
  have hno : Hid (noAd p = p.ad.toList.isEmpty) := Lib.hid rfl
  obtain ⟨na, hna⟩ : ∃ na, na = p.ad.toList.isEmpty := ⟨_, rfl⟩
  have hn1 : noAd p = na := hno.out.trans hna.symm
  rw [hn1] at hC
  clear hn1 hno
  go_enter Try.func10, Try.ntmps10
  go_upto_region 1 with (fail)
  go_cut [3] (fun s3 w2 => s3 = .bool (!na && !nameB p.ad) ∧ w2 = w.alloc (.cells #[.string p.ad, .int .i64 p.fr, .int .i64 p.ln] 28))
  case first =>
    have HNA := Lib.hid hna
    clear hna
    cases na
    · have e1 : p.ad.toList.isEmpty = false := HNA.out.symm
      go_wp2_with (go_at_call 18; refine (hin _ hs).mono ?_; rintro e w' ⟨rfl, rfl⟩)
      go_meet
      simp
    · have e1 : p.ad.toList.isEmpty = true := HNA.out.symm
      go_wp2_with (go_at_call 18; refine (hin _ hs).mono ?_; rintro e w' ⟨rfl, rfl⟩)
      go_meet
      simp
  obtain ⟨rfl, rfl⟩ := hcut
  generalize hO : (!na && !nameB p.ad) = O at hC ⊢
  have HO := Lib.hid hO
  clear hO
  cases O
  case true =>
    have hv : Hid (5 = pf p) := Lib.hid (by rw [hC.out]; rfl)
    go_wp2
    go_ret
    exact ⟨ret_int hv.out, HA⟩
  go_upto_region 3 with (fail)
  go_cut [13] (fun s13 w2 => s13 = .bool (outB p.ln 1 1000000000000000 || outB p.fr 0 1000000000000000 || decide (1000000000000000 < p.fr + p.ln)) ∧ w2 = w.alloc (.cells #[.string p.ad, .int .i64 p.fr, .int .i64 p.ln] 28))
  case first =>
    cases o1 : outB p.ln 1 1000000000000000
    case true =>
      go_wp2_with (go_at_call 13; refine (out_any _ _ _ _).mono ?_; rintro e w' ⟨rfl, rfl⟩)
      go_meet
      exact ⟨by simp [*], rfl⟩
    cases o2 : outB p.fr 0 1000000000000000
    case true =>
      go_wp2_with (go_at_call 13; refine (out_any _ _ _ _).mono ?_; rintro e w' ⟨rfl, rfl⟩)
      go_meet
      exact ⟨by simp [*], rfl⟩
    have b1 : 1 ≤ p.ln ∧ p.ln ≤ 1000000000000000 := by simp [outB] at o1; omega
    have b2 : 0 ≤ p.fr ∧ p.fr ≤ 1000000000000000 := by simp [outB] at o2; omega
    obtain ⟨b11, b12⟩ := b1
    obtain ⟨b21, b22⟩ := b2
    go_wp2_with (go_at_call 13; refine (out_any _ _ _ _).mono ?_; rintro e w' ⟨rfl, rfl⟩)
    go_meet
    exact ⟨by simp [*], rfl⟩
  obtain ⟨rfl, rfl⟩ := hcut
  generalize hO2 : (outB p.ln 1 1000000000000000 || outB p.fr 0 1000000000000000 || decide (1000000000000000 < p.fr + p.ln)) = O at hC ⊢
  have HO2 := Lib.hid hO2
  clear hO2
  cases O
  case true =>
    have hv : Hid (1 = pf p) := Lib.hid (by rw [hC.out]; rfl)
    go_wp2
    go_ret
    exact ⟨ret_int hv.out, HA⟩
  have HNA := Lib.hid hna
  clear hna
  cases na
  case true =>
    have e1 : p.ad.toList.isEmpty = true := HNA.out.symm
    have hv : Hid (0 = pf p) := Lib.hid (by rw [hC.out]; rfl)
    go_wp2
    go_ret
    exact ⟨ret_int hv.out, HA⟩
  case false =>
    have e1 : p.ad.toList.isEmpty = false := HNA.out.symm
    cases e2 : (p.fr != 0)
    · have hv : Hid (0 = pf p) := Lib.hid (by rw [hC.out, e2]; rfl)
      go_wp2
      go_ret
      exact ⟨ret_int hv.out, HA⟩
    · have hv : Hid (3 = pf p) := Lib.hid (by rw [hC.out, e2]; rfl)
      go_wp2
      go_ret
      exact ⟨ret_int hv.out, HA⟩
end Go.Proofs.Ythpjgongplffnaa

/- Programme of the program: what it returns. -/
import Derived.Test.YteijcombdlgioaaPlace2
import Derived.Test.YteijcombdlgioaaKeep
namespace Go.Proofs.Yteijcombdlgioaa
open Go.RowKit

/-- Where the first part of the programme begins. -/
def firstP : List Prt → Option Int
  | [] => none
  | p :: r => if noAd p = true then some p.fr else firstP r

def progV (l : List Prt) (t : Int) : Int :=
  if placeF l t = 0 then
    (if noAd (l.getD (placeN l t).1 default) = true then (l.getD (placeN l t).1 default).fr + (placeN l t).2 else (firstP (l.drop (placeN l t).1)).getD (endL 0 l))
  else 0
def progB (l : List Prt) (t : Int) : Bool := decide (placeF l t = 0) && noAd (l.getD (placeN l t).1 default)

/-- The three results of Programme. -/
def Pg3 (w : World) (l : List Prt) (t : Int) : Ending → World → Prop :=
  fun e w' => e = .returned (.tuple #[.int .i64 (progV l t), .bool (progB l t), .int .i64 (placeF l t)]) ∧ Below w.heap.size w w'
theorem Pg3.mk {w w' : World} {l : List Prt} {t a f : Int} {b : Bool} (ha : a = progV l t) (hb : b = progB l t) (hf : f = placeF l t) (hw : Below w.heap.size w w') : Pg3 w l t (.returned (.tuple #[.int .i64 a, .bool b, .int .i64 f])) w' := by
  subst ha hb hf
  exact ⟨rfl, hw⟩
theorem prog_bad {l : List Prt} {t : Int} (h : placeF l t ≠ 0) : progV l t = 0 ∧ progB l t = false := by
  unfold progV progB
  rw [if_neg h]
  simp [h]

theorem firstP_skip : ∀ {l : List Prt} {k : Nat}, (∀ j p, l[j]? = some p → j < k → noAd p = false) → k ≤ l.length → firstP l = firstP (l.drop k)
  | _, 0, _, _ => rfl
  | [], k + 1, _, h => by simp at h
  | p :: r, k + 1, h1, h2 => by
    have hp := h1 0 p rfl (by omega)
    rw [firstP, if_neg (by rw [hp]; simp), List.drop_succ_cons]
    exact firstP_skip (fun j q hq hj => h1 (j + 1) q (by simpa using hq) (by omega)) (by simpa using h2)

theorem endL_bd {l : List Prt} (h : ∀ p, p ∈ l → 0 ≤ p.fr ∧ 1 ≤ p.ln ∧ p.fr + p.ln ≤ 1000000000000000) : ∀ {e : Int}, 0 ≤ e → e ≤ 1000000000000000 → 0 ≤ endL e l ∧ endL e l ≤ 1000000000000000 := by
  induction l with
  | nil => intro e h0 h1; exact ⟨h0, h1⟩
  | cons p r ih =>
    intro e h0 h1
    have hp := h p (by simp)
    rw [endL]
    refine ih (fun q hq => h q (by simp [hq])) ?_ ?_
    · split <;> omega
    · split <;> omega

theorem placeN_bd : ∀ {l : List Prt} {t : Int}, 0 ≤ t → (placeN l t).1 < l.length → 0 ≤ (placeN l t).2 ∧ (placeN l t).2 < (l.getD (placeN l t).1 default).ln
  | [], t, _, h => by simp at h
  | p :: r, t, h0, h => by
    unfold placeN at h ⊢
    split at h
    · rename_i h1
      rw [if_pos h1]
      exact ⟨h0, by simpa using h1⟩
    · rename_i h1
      rw [if_neg h1]
      simp only [List.length_cons] at h
      have := placeN_bd (l := r) (t := t - p.ln) (by omega) (by omega)
      simpa using this

theorem pf_all {l : List Prt} (h : checkP l = 0) : ∀ p, p ∈ l → 0 ≤ p.fr ∧ 1 ≤ p.ln ∧ p.fr + p.ln ≤ 1000000000000000 := fun p hp => by
  have := pf_zero ((checkP_parts h).2.1 p hp)
  omega

set_option maxRecDepth 100000 in
set_option maxHeartbeats 4000000 in
theorem programme_any (w : World) (l : List Prt) (v : Value) (t : Int) (hl : Sl w 3 encP v l) (hw : ∀ p, p ∈ l → WfP p) :
    Calls Try.prog 15 #[v, .int .i64 t] w (Pg3 w l t) := by
  have h1 := timeFault_any w l v t hl hw
  have hT : placeF l t = if timeF l t ≠ 0 then timeF l t else if (placeN l t).1 = l.length then 9 else 0 := rfl
  have hz := @timeF_zero l t
  have HSL := Lib.hid hl
  obtain ⟨ao, cap, rfl, hcap, hmax, hnil, hel⟩ := hl
  unfold maxLen at hmax
  generalize timeF l t = f at h1 hT hz
  have HT := Lib.hid hT
  have HZ := Lib.hid hz
  clear hT hz
  cases e1 : (f != 0)
  case true =>
    have hf : Hid (f = placeF l t) := Lib.hid (by rw [HT.out, if_pos (by simpa using e1)])
    have HB := Lib.hid (prog_bad (l := l) (t := t) (by rw [← hf.out]; simpa using e1))
    clear hel
    go_enter Try.func15, Try.ntmps15
    go_wp2_with (first | (go_at_call 31; refine h1.mono ?_; rintro e w' ⟨rfl, hb'⟩))
    go_ret3
    exact Pg3.mk HB.out.1.symm HB.out.2.symm hf.out hb'
  obtain rfl : f = 0 := by simpa using e1
  clear e1
  have hz := HZ.out rfl
  have h2 := fun (w1 : World) (hb : Below w.heap.size w w1) => place_any w1 l _ t (HSL.out.below hb (Nat.le_refl _)) (checkP_bd hz.1) hz.2.1 hz.2.2
  have hpa := pf_all hz.1
  have hnb := placeN_bd (l := l) hz.2.1
  have hV : progV l t = if placeF l t = 0 then (if noAd (l.getD (placeN l t).1 default) = true then (l.getD (placeN l t).1 default).fr + (placeN l t).2 else (firstP (l.drop (placeN l t).1)).getD (endL 0 l)) else 0 := rfl
  have hBB : progB l t = (decide (placeF l t = 0) && noAd (l.getD (placeN l t).1 default)) := rfl
  have hle := placeN_le l t
  generalize placeN l t = n at h2 hle hnb hV hBB HT
  obtain ⟨i, bef⟩ := n
  simp only at h2 hle hnb hV hBB
  have HV := Lib.hid hV
  have HBB := Lib.hid hBB
  have HPA := Lib.hid hpa
  clear hV hBB hpa hz HZ
  by_cases hlast : i = l.length
  · have hf : Hid (9 = placeF l t) := Lib.hid (by rw [HT.out, if_neg (by simp), if_pos hlast])
    have HB := Lib.hid (prog_bad (l := l) (t := t) (by rw [← hf.out]; decide))
    have e2 : ((i : Int) == (l.length : Int)) = true := by simp [hlast]
    clear hlast hel hnb
    go_enter Try.func15, Try.ntmps15
    go_wp2_with (first | (go_at_call 31; refine h1.mono ?_; rintro e w1 ⟨rfl, hb1⟩) | (go_at_call 39; refine (h2 _ hb1).mono ?_; rintro e w2 ⟨rfl, hb2⟩))
    go_ret3
    exact Pg3.mk HB.out.1.symm HB.out.2.symm hf.out (hb1.thru hb2)
  have hf : Hid (0 = placeF l t) := Lib.hid (by rw [HT.out, if_neg (by simp), if_neg hlast])
  have e2 : ((i : Int) == (l.length : Int)) = false := by simp; omega
  have hi : i < l.length := by omega
  have hiz : (i : Int) < (l.length : Int) := by omega
  obtain ⟨p, hx⟩ : ∃ x, l[i]? = some x := ⟨l[i], by simp [hi]⟩
  have hg : l.getD i default = p := by rw [List.getD_eq_getElem?_getD, hx]; rfl
  rw [hg] at hnb
  have hnb' := hnb hi
  obtain ⟨hb0, hbl⟩ := hnb'
  obtain ⟨hp0, hp1, hp2⟩ := HPA.out p (List.mem_of_getElem? hx)
  have HGi := Lib.hid hg
  have HX := Lib.hid hx
  have HEL := Lib.hid hel
  have hno : Hid (noAd p = p.ad.toList.isEmpty) := Lib.hid rfl
  have hci : ¬ cap = i := by omega
  have hile : (i : Int) ≤ (l.length : Int) := by omega
  have hilc : (l.length : Int) ≤ (cap : Int) := by omega
  obtain ⟨b, off, hao, hc⟩ := hel i p hx
  subst hao
  have hlt0 := World.block_lt_of_cell? w _ (hc 0 _ rfl)
  have HC := Lib.hid hc
  clear hlast hnb hg hx hel hc HT
  cases e3 : p.ad.toList.isEmpty
  case true =>
    have e4 : p.ad.toList = [] := by simpa using e3
    have hA : Hid (p.fr + bef = progV l t) := Lib.hid (by rw [HV.out, if_pos hf.out.symm, HGi.out, if_pos (hno.out.trans e3)])
    have hB : Hid (true = progB l t) := Lib.hid (by rw [HBB.out, HGi.out, hno.out, e3, ← hf.out]; rfl)
    go_enter Try.func15, Try.ntmps15
    go_wp2_with (first | (go_at_call 31; refine h1.mono ?_; rintro e w1 ⟨rfl, hb1⟩) | (go_at_call 39; refine (h2 _ hb1).mono ?_; rintro e w2 ⟨rfl, hb2⟩; have hb2' := hb1.thru hb2; have c0 := (hb2'.cell (p := ⟨b, off + i * 3, none⟩) hlt0).trans (HC.out 0 _ rfl); have c1 := (hb2'.cell (p := ⟨b, off + i * 3 + 1, none⟩) hlt0).trans (HC.out 1 _ rfl)))
    go_ret3
    exact Pg3.mk hA.out hB.out hf.out hb2'
  have e4 : ¬ p.ad.toList = [] := by simpa using e3
  have hA : Hid (progV l t = (firstP (l.drop i)).getD (endL 0 l)) := Lib.hid (by rw [HV.out, if_pos hf.out.symm, HGi.out, if_neg (by rw [hno.out, e3]; simp)])
  have hB : Hid (false = progB l t) := Lib.hid (by rw [HBB.out, HGi.out, hno.out, e3]; simp)
  go_enter Try.func15, Try.ntmps15
  go_wp2_with (first | (go_at_call 31; refine h1.mono ?_; rintro e w1 ⟨rfl, hb1⟩) | (go_at_call 39; refine (h2 _ hb1).mono ?_; rintro e w2 ⟨rfl, hb2⟩; have hb2' := hb1.thru hb2; have c0 := (hb2'.cell (p := ⟨b, off + i * 3, none⟩) hlt0).trans (HC.out 0 _ rfl); have c1 := (hb2'.cell (p := ⟨b, off + i * 3 + 1, none⟩) hlt0).trans (HC.out 1 _ rfl)))
  have HB2 := Lib.hid hb2'
  clear c0 c1 hb1 hb2 hb2' h1 h2
  have hni : (l.length : Int) - (i : Int) = ((l.length - i : Nat) : Int) := by omega
  go_loopg [48] (l.length - i) (fun gg s48 wr => ∃ kk : Nat, kk ≤ l.length - i ∧ l.length - i - kk ≤ gg ∧ s48 = .int .i64 kk ∧ Aside (Below w.heap.size w wr) ∧ Aside (∀ j q, (l.drop i)[j]? = some q → j < kk → noAd q = false))
  case atStart => exact ⟨0, Nat.zero_le _, by omega, rfl, HB2.out, fun j q _ hj => absurd hj (Nat.not_lt_zero _)⟩
  case round =>
    obtain ⟨kk, hkk, hg, rfl, BW, A⟩ := hrel
    by_cases hlt : kk < l.length - i
    · have hltz : (kk : Int) < ((l.length - i : Nat) : Int) := by omega
      obtain ⟨q, hq⟩ : ∃ x, l[i + kk]? = some x := ⟨l[i + kk]'(by omega), by simp⟩
      have hqd : Hid ((l.drop i)[kk]? = some q) := Lib.hid (by rw [List.getElem?_drop]; exact hq)
      obtain ⟨b', off', hao, hd⟩ := HEL.out (i + kk) q hq
      obtain ⟨rfl, rfl⟩ : b = b' ∧ off = off' := by simpa using hao
      have ea : off + i * 3 + kk * 3 = off + (i + kk) * 3 := by omega
      have d0 : wr.cell? ⟨b, off + i * 3 + kk * 3, none⟩ = some (.string q.ad) := by rw [ea]; exact (BW.out.cell (p := ⟨b, off + (i + kk) * 3, none⟩) hlt0).trans (hd 0 _ rfl)
      have d1 : wr.cell? ⟨b, off + i * 3 + kk * 3 + 1, none⟩ = some (.int .i64 q.fr) := by rw [ea]; exact (BW.out.cell (p := ⟨b, off + (i + kk) * 3 + 1, none⟩) hlt0).trans (hd 1 _ rfl)
      have d2 : wr.cell? ⟨b, off + i * 3 + kk * 3 + 2, none⟩ = some (.int .i64 q.ln) := by rw [ea]; exact (BW.out.cell (p := ⟨b, off + (i + kk) * 3 + 2, none⟩) hlt0).trans (hd 2 _ rfl)
      have hszw := BW.out.size
      have hnq : Hid (noAd q = q.ad.toList.isEmpty) := Lib.hid rfl
      clear ea hao hd hq
      cases e5 : q.ad.toList.isEmpty
      case true =>
        have e6 : q.ad.toList = [] := by simpa using e5
        have hA2 : Hid (q.fr = progV l t) := Lib.hid (by
          rw [hA.out, firstP_skip A.out (by simp; omega), drop_next hqd.out, firstP, if_pos (hnq.out.trans e5)]; rfl)
        go_wp2
        go_ret3
        exact Pg3.mk hA2.out hB.out hf.out (BW.out.alloc hszw _)
      case false =>
        have e6 : ¬ q.ad.toList = [] := by simpa using e5
        go_wp2
        go_roundg (l.length - i - (kk + 1))
        case measure => omega
        case rel =>
          refine ⟨kk + 1, by omega, by omega, by go_num, BW.out.alloc hszw _, (show Aside (∀ j q, (l.drop i)[j]? = some q → j < kk + 1 → noAd q = false) from fun j z hz hj => ?_)⟩
          by_cases e : j = kk
          · subst e
            have := hqd.out.symm.trans hz
            simp at this; subst this; rw [hnq.out, e5]
          · exact A.out j z hz (by omega)
    · go_wp2
      have hA2 : Hid (progV l t = endL 0 l) := Lib.hid (by
        have hk : kk = l.length - i := by omega
        rw [hA.out, firstP_skip (l := l.drop i) (k := l.length - i) (fun j q hq hj => A.out j q hq (by omega)) (by simp), List.drop_drop, List.drop_of_length_le (by omega)]; rfl)
      obtain ⟨wo, rfl⟩ : ∃ wo : World, wo = wr := ⟨_, rfl⟩
      go_loopg [12, 60] l.length (fun gg s12 s60 wr => ∃ (m : Nat) (e : Int), m ≤ l.length ∧ l.length - m ≤ gg ∧ s60 = .int .i64 m ∧ s12 = .int .i64 e ∧ 0 ≤ e ∧ e ≤ 1000000000000000 ∧ Aside (Below w.heap.size w wr) ∧ Aside (e = endL 0 (l.take m)))
      case atStart => exact ⟨0, 0, Nat.zero_le _, by omega, rfl, rfl, by omega, by omega, BW.out, (show Aside _ from rfl)⟩
      obtain ⟨m, e, hm, hgm, rfl, rfl, he0, he1, BM, EM⟩ := hrel
      by_cases hlm : m < l.length
      · have hlmz : (m : Int) < (l.length : Int) := by omega
        obtain ⟨q, hq⟩ : ∃ x, l[m]? = some x := ⟨l[m], by simp [hlm]⟩
        obtain ⟨b', off', hao, hd⟩ := HEL.out m q hq
        obtain ⟨rfl, rfl⟩ : b = b' ∧ off = off' := by simpa using hao
        have d0 : wr.cell? ⟨b, off + m * 3, none⟩ = some (.string q.ad) := (BM.out.cell (p := ⟨b, off + m * 3, none⟩) hlt0).trans (hd 0 _ rfl)
        have d1 := (BM.out.cell (p := ⟨b, off + m * 3 + 1, none⟩) hlt0).trans (hd 1 _ rfl)
        have d2 := (BM.out.cell (p := ⟨b, off + m * 3 + 2, none⟩) hlt0).trans (hd 2 _ rfl)
        obtain ⟨hq0, hq1, hq2⟩ := HPA.out q (List.mem_of_getElem? hq)
        have hszm := BM.out.size
        have hnq : Hid (noAd q = q.ad.toList.isEmpty) := Lib.hid rfl
        have hen : Hid (endL 0 (l.take (m + 1)) = if noAd q = true then q.fr + q.ln else e) := Lib.hid (by rw [endL_take 0 hq, ← EM.out])
        clear hao hd hq
        cases e5 : q.ad.toList.isEmpty
        case true =>
          have e6 : q.ad.toList = [] := by simpa using e5
          go_wp2
          go_roundg (l.length - (m + 1))
          case measure => omega
          case rel => exact ⟨m + 1, q.fr + q.ln, by omega, by omega, by go_num, rfl, by omega, by omega, BM.out.alloc hszm _, (show Aside (q.fr + q.ln = endL 0 (l.take (m + 1))) from by show _ = _; rw [hen.out, hnq.out, e5]; rfl)⟩
        case false =>
          have e6 : ¬ q.ad.toList = [] := by simpa using e5
          go_wp2
          go_roundg (l.length - (m + 1))
          case measure => omega
          case rel => exact ⟨m + 1, e, by omega, by omega, by go_num, rfl, by omega, by omega, BM.out.alloc hszm _, (show Aside (e = endL 0 (l.take (m + 1))) from by show _ = _; rw [hen.out, hnq.out, e5]; rfl)⟩
      · obtain rfl : m = l.length := by omega
        have hfin : Hid (e = progV l t) := Lib.hid (by rw [hA2.out, EM.out, List.take_length])
        go_wp2
        go_ret3
        exact Pg3.mk hfin.out hB.out hf.out BM.out
end Go.Proofs.Yteijcombdlgioaa

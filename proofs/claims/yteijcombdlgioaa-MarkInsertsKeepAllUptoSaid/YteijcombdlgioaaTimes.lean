/- MarkTimesAgree: the plain law, and the walk. -/
import Derived.Test.YteijcombdlgioaaRes1
import Derived.Test.YteijcombdlgioaaSum
namespace Go.Proofs.Yteijcombdlgioaa
open Go.RowKit

def adsI (l : List Prt) : Nat → List Int
  | 0 => []
  | k + 1 => adsI l k ++ (if noAd (l.getD k default) = true then [] else [(k : Int)])
theorem adsI_len (l : List Prt) : ∀ k, (adsI l k).length ≤ k
  | 0 => by simp [adsI]
  | k + 1 => by
    have := adsI_len l k
    rw [adsI, List.length_append]
    split <;> simp <;> omega
theorem adsI_mem (l : List Prt) (x : Int) : ∀ k, x ∈ adsI l k ↔ ∃ j : Nat, j < k ∧ x = j ∧ noAd (l.getD j default) = false
  | 0 => by simp [adsI]
  | k + 1 => by
    rw [adsI, List.mem_append, adsI_mem l x k]
    constructor
    · rintro (⟨j, h1, h2, h3⟩ | h)
      · exact ⟨j, by omega, h2, h3⟩
      · split at h
        · simp at h
        · rename_i h1
          simp only [List.mem_singleton] at h
          exact ⟨k, by omega, h, by simpa using h1⟩
    · rintro ⟨j, h1, h2, h3⟩
      by_cases e : j = k
      · subst e
        rw [h3]
        exact .inr (by simp [h2])
      · exact .inl ⟨j, by omega, h2, h3⟩
theorem seenF_ads (l : List Prt) : seenF l (adsI l l.length) = 0 := by
  refine FF_zero fun j hj => ?_
  have hm : (adsI l l.length).getD j 0 ∈ adsI l l.length := by
    rw [List.getD_eq_getElem?_getD, List.getElem?_eq_getElem hj]
    exact List.getElem_mem hj
  obtain ⟨k, h1, h2, h3⟩ := (adsI_mem l _ l.length).1 hm
  rw [h2]
  have ho : outB (k : Int) 0 ((l.length : Int) - 1) = false := by simp [outB]; omega
  unfold seF1
  rw [ho, Int.toNat_natCast, h3]
  rfl
theorem seenF_nil (l : List Prt) : seenF l [] = 0 := rfl
theorem unsee_none {s : List Int} : ∀ {n a : Nat}, (∀ k : Nat, a ≤ k → k < a + n → seenB s k = true) → unsee s a n = none
  | 0, _, _ => rfl
  | n + 1, a, h => by
    rw [unsee, if_pos (h a (Nat.le_refl _) (by omega))]
    exact unsee_none fun k h1 h2 => h k (by omega) (by omega)
theorem fst1_ads (l : List Prt) : ∀ i k, fst1 l i ≤ k → k < i → noAd (l.getD k default) = false
  | 0, k, _, h => by omega
  | i + 1, k, h1, h2 => by
    unfold fst1 at h1
    split at h1
    · omega
    · rename_i h3
      by_cases e : k = i
      · subst e; simpa using h3
      · exact fst1_ads l i k h1 (by omega)

theorem placeN_sum : ∀ {l : List Prt} {t : Int}, (placeN l t).1 < l.length → sumL (l.take (placeN l t).1) + (placeN l t).2 = t
  | [], _, h => by simp at h
  | p :: r, t, h => by
    unfold placeN at h ⊢
    split at h
    · rename_i h1
      rw [if_pos h1]
      simp [sumL]
    · rename_i h1
      rw [if_neg h1]
      simp only [List.length_cons] at h
      have := placeN_sum (l := r) (t := t - p.ln) (by omega)
      simp only [List.take_succ_cons, sumL]
      omega
theorem stF_of {l : List Prt} {t : Int} {i : Nat} {p : Prt} (h : checkP l = 0) (hx : l[i]? = some p) (hp : stHit p t = true) : stF l t = [sumL (l.take i) + (t - p.fr)] := by
  have hi : i < l.length := (List.getElem?_eq_some_iff.1 hx).1
  have hk : ∀ k, k ≤ i → StAt l t k := by
    intro k
    induction k with
    | zero => exact fun _ => StAt.start l t
    | succ k ih =>
      intro hk
      obtain ⟨q, hq⟩ : ∃ x, l[k]? = some x := ⟨l[k]'(by omega), by simp⟩
      refine (ih (by omega)).next hq ?_
      cases e : stHit q t
      · rfl
      · have := hits_one h hq hx (by omega) e
        rw [hp] at this
        cases this
  exact (hk i (Nat.le_refl _)).hit hx hp
theorem cp_from {l : List Prt} (h : checkP l = 0) {i : Nat} {p : Prt} (hx : l[i]? = some p) (hn : noAd p = true) : endL 0 (l.take i) ≤ p.fr := by
  have hi : i < l.length := (List.getElem?_eq_some_iff.1 hx).1
  have hc := (checkP_parts h).2.2.2 i hi
  unfold cpAt cpOf at hc
  rw [List.getD_eq_getElem?_getD, hx, Option.getD_some] at hc
  split at hc
  · rename_i h1; exact absurd hc h1
  split at hc
  · simp at hc
  rename_i h2
  rw [hn] at h2
  simp at h2
  omega
theorem resI_eq {l : List Prt} {t : Int} {i : Nat} {p : Prt} (h : checkP l = 0) (hx : l[i]? = some p) (hn : noAd p = true) (h1 : p.fr ≤ t) (h2 : t < p.fr + p.ln) : resI l t = i := by
  obtain ⟨hi, rfl⟩ := List.getElem?_eq_some_iff.1 hx
  unfold resI
  rw [List.findIdx_eq hi]
  refine ⟨by simp [reHit, hn, h2], fun j hj => ?_⟩
  have hj' : l[j]? = some (l[j]'(by omega)) := List.getElem?_eq_getElem (by omega)
  unfold reHit
  cases e : noAd (l[j]'(by omega))
  · rfl
  · have h3 := ends_le h i (by omega) j _ hj' hj e
    have h4 := cp_from h hx hn
    simp
    omega
theorem sumL_mono {l : List Prt} (h : ∀ p, p ∈ l → 1 ≤ p.ln ∧ p.ln ≤ 1000000000000000) {a b : Nat} (hab : a ≤ b) : sumL (l.take a) ≤ sumL (l.take b) := by
  have e : l.take b = l.take a ++ (l.drop a).take (b - a) := by
    rw [← List.take_add, Nat.add_sub_cancel' hab]
  rw [e, sumL_append]
  have := (sumL_bd (l := (l.drop a).take (b - a)) fun q hq => h q (List.mem_of_mem_drop (List.mem_of_mem_take hq))).1
  omega

/-- What is known of a tick at which the programme is played. -/
theorem agree {l : List Prt} {t : Int} (hF : placeF l t = 0) (hB : progB l t = true) :
    timeF l (progV l t) = 0 ∧ stitL l (progV l t) = [t] ∧ resF l (adsI l l.length) (progV l t) = 0 ∧ resV l (adsI l l.length) (progV l t) = t ∧ resF l [] (progV l t) = 0 ∧ resV l [] (progV l t) ≤ t := by
  have hT : placeF l t = if timeF l t ≠ 0 then timeF l t else if (placeN l t).1 = l.length then 9 else 0 := rfl
  rw [hF] at hT
  obtain ⟨hz0, hi0⟩ : timeF l t = 0 ∧ (placeN l t).1 ≠ l.length := by
    split at hT
    · rename_i h2; exact absurd hT.symm h2
    rename_i h2
    split at hT
    · simp at hT
    rename_i h3
    exact ⟨by simpa using h2, h3⟩
  obtain ⟨hch, ht0, ht1⟩ := timeF_zero hz0
  have hi : (placeN l t).1 < l.length := by have := placeN_le l t; omega
  have hsum := placeN_sum hi
  have hbd := placeN_bd ht0 hi
  have hV : progV l t = if placeF l t = 0 then (if noAd (l.getD (placeN l t).1 default) = true then (l.getD (placeN l t).1 default).fr + (placeN l t).2 else (firstP (l.drop (placeN l t).1)).getD (endL 0 l)) else 0 := rfl
  have hn : noAd (l.getD (placeN l t).1 default) = true := by
    have h := hB
    unfold progB at h
    simp only [Bool.and_eq_true] at h
    exact h.2
  rw [if_pos hF, if_pos hn] at hV
  generalize placeN l t = n at hi hsum hbd hV hn hi0
  obtain ⟨i, bef⟩ := n
  simp only at hi hsum hbd hV hn hi0
  obtain ⟨p, hx⟩ : ∃ x, l[i]? = some x := ⟨l[i], by simp [hi]⟩
  have hg : l.getD i default = p := by rw [List.getD_eq_getElem?_getD, hx]; rfl
  rw [hg] at hbd hV hn
  obtain ⟨hp0, hp1, hp2⟩ := pf_all hch p (List.mem_of_getElem? hx)
  generalize progV l t = N at hV ⊢
  have htf : timeF l N = 0 := by
    unfold timeF
    rw [if_neg (by simp [hch]), if_neg (by simp [outB]; omega)]
  have hst : stHit p N = true := by simp [stHit, hn]; omega
  have hri := resI_eq hch hx hn (t := N) (by omega) (by omega)
  have hb := checkP_bd hch
  have r1 : resF l (adsI l l.length) N = 0 := by rw [resF, if_neg (by simp [htf]), seenF_ads]
  have r2 : resF l [] N = 0 := by rw [resF, if_neg (by simp [htf]), seenF_nil]
  have hmx : max 0 (N - p.fr) = bef := by omega
  refine ⟨htf, ?_, r1, ?_, r2, ?_⟩
  · rw [stitL, if_pos htf, stF_of hch hx hst]
    congr 1
    omega
  · rw [resV, if_neg (by simp [r1]), hri, if_neg hi0, unsee_none, hg]
    · show sumL _ + max 0 (N - p.fr) = t
      rw [hmx]; exact hsum
    · intro k h1 h2
      have hk := fst1_ads l i k h1 (by have := fst1_le l i; omega)
      refine List.any_eq_true.2 ⟨(k : Int), (adsI_mem l _ _).2 ⟨k, by have := fst1_le l i; omega, rfl, hk⟩, by simp⟩
  · rw [resV, if_neg (by simp [r2]), hri, if_neg hi0, hg]
    cases e : unsee [] (fst1 l i) (i - fst1 l i) with
    | none =>
      show sumL _ + max 0 (N - p.fr) ≤ t
      omega
    | some k =>
      show sumL (l.take k) ≤ t
      have h1 := unsee_lt _ _ _ _ e
      have h2 := sumL_mono hb (a := k) (b := i) (by omega)
      omega

theorem Sl.one {w : World} {v : Value} {t : Int} (h : Sl w 1 encI v [t]) : ∃ b off cap, v = .slice (some ⟨b, off, none⟩) 1 cap ∧ 1 ≤ cap ∧ cap ≤ maxLen ∧ w.cell? ⟨b, off, none⟩ = some (.int .i64 t) := by
  obtain ⟨ao, cap, rfl, h2, h3, h4, h5⟩ := h
  obtain ⟨b, off, rfl, hc⟩ := h5 0 t rfl
  exact ⟨b, off, cap, rfl, h2, h3, by simpa using hc 0 _ rfl⟩

set_option maxRecDepth 100000 in
set_option maxHeartbeats 4000000 in
theorem times_any (w : World) (l : List Prt) (v : Value) (t : Int) (hl : Sl w 3 encP v l) (hw : ∀ p, p ∈ l → WfP p) :
    Calls Try.prog 5 #[v, .int .i64 t] w fun e w' => e = .returned (.bool true) ∧ Below w.heap.size w w' := by
  have h1 := programme_any w l v t hl hw
  unfold Pg3 at h1
  have h2 := fun (W : World) (n : Int) (hb : Below w.heap.size w W) => stitched_any W l v n (hl.below hb (Nat.le_refl _)) hw
  have h3 := fun (W : World) (s : List Int) (u : Value) (n : Int) (hb : Below w.heap.size w W) (hs : Sl W 1 encI u s) => resume_any W l v s u n (hl.below hb (Nat.le_refl _)) hs hw
  unfold R2 at h3
  have hbad := @prog_bad l t
  have hag := @agree l t
  have hlen := fun (h : placeF l t = 0) => (checkP_parts (l := l) (by
    have hT : placeF l t = if timeF l t ≠ 0 then timeF l t else if (placeN l t).1 = l.length then 9 else 0 := rfl
    rw [h] at hT
    split at hT
    · rename_i h2; exact absurd hT.symm h2
    rename_i h2
    exact (timeF_zero (l := l) (t := t) (by simpa using h2)).1)).1
  obtain ⟨ao, cap, rfl, hcap, hmax, hnil, hel⟩ := hl
  unfold maxLen at hmax
  generalize placeF l t = F at h1 hbad hag hlen
  generalize progB l t = B at h1 hbad hag
  generalize progV l t = N at h1 hbad hag
  have HBAD := Lib.hid hbad
  have HAG := Lib.hid hag
  have HLEN := Lib.hid hlen
  have H2 := Lib.hid h2
  have H3 := Lib.hid h3
  clear hbad hag hlen h2 h3
  cases e1 : (F != 0)
  case true =>
    obtain ⟨rfl, rfl⟩ := HBAD.out (by simpa using e1)
    have e2 : (F == 0) = false := by simpa using e1
    clear hel
    go_enter Try.func5, Try.ntmps5
    go_wp2_with (first | (go_at_call 15; refine h1.mono ?_; rintro e w1 ⟨rfl, hb1⟩) | (go_at_call 13; refine (awake_any _).mono ?_; rintro e w6 ⟨rfl, hb6⟩))
    go_ret
    exact ⟨rfl, hb1.thru hb6⟩
  obtain rfl : F = 0 := by simpa using e1
  clear e1
  cases B
  case false =>
    clear hel
    go_enter Try.func5, Try.ntmps5
    go_wp2_with (first | (go_at_call 15; refine h1.mono ?_; rintro e w1 ⟨rfl, hb1⟩) | (go_at_call 13; refine (awake_any _).mono ?_; rintro e w6 ⟨rfl, hb6⟩))
    go_ret
    exact ⟨rfl, hb1.thru hb6⟩
  have hl1000 := HLEN.out rfl
  have hag := HAG.out rfl rfl
  obtain ⟨a1, a2, a3, a4, a5, a6⟩ := hag
  have s2 := fun (W : World) (hb : Below w.heap.size w W) => H2.out W N hb
  rw [a1, a2] at s2
  have s3 := fun (W : World) (u : Value) (hb : Below w.heap.size w W) (hs : Sl W 1 encI u (adsI l l.length)) => H3.out W _ u N hb hs
  rw [a3, a4] at s3
  have s4 := fun (W : World) (hb : Below w.heap.size w W) => H3.out W [] _ N hb Sl.nil
  rw [a5] at s4
  obtain ⟨U, hU⟩ : ∃ U, U = resV l [] N := ⟨_, rfl⟩
  rw [← hU] at s4 a6
  have HEL := Lib.hid hel
  have S3 := Lib.hid s3
  have S4 := Lib.hid s4
  clear a1 a2 a3 a4 a5 hU H2 H3 s3 s4 hel
  go_enter Try.func5, Try.ntmps5
  go_wp2_with (first | (go_at_call 15; refine h1.mono ?_; rintro e w1 ⟨rfl, hb1⟩) | (go_at_call 16; refine (s2 _ hb1).mono ?_; rintro e w2 ⟨v2, rfl, hs2, hb2⟩; obtain ⟨b2, o2, k2, rfl, hk2, hk3, hc2⟩ := Sl.one hs2; have HB2 := Lib.hid (hb1.thru hb2); clear hs2 hb1 hb2))
  clear h1 s2 hc2
  have HEL2 := Lib.hid (el_below HEL.out HB2.out (Nat.le_refl _))
  go_loopg [9, 10] l.length (fun gg s9 s10 wr => ∃ kk : Nat, kk ≤ l.length ∧ l.length - kk ≤ gg ∧ s10 = .int .i64 kk ∧ Aside (Below w2.heap.size w2 wr) ∧ Aside (Own wr w2.heap.size 3 1 encI s9 (adsI l kk)))
  case atStart => exact ⟨0, Nat.zero_le _, by omega, rfl, Below.refl _ _, Own.nil⟩
  case round =>
    obtain ⟨kk, hkk, hg, rfl, BW, OW⟩ := hrel
    by_cases hlt : kk < l.length
    · have hltz : (kk : Int) < (l.length : Int) := by omega
      obtain ⟨p, hx⟩ : ∃ x, l[kk]? = some x := ⟨l[kk], by simp [hlt]⟩
      obtain ⟨b, off, hao, hc⟩ := HEL2.out kk p hx
      subst hao
      have hlt0 := World.block_lt_of_cell? w2 _ (hc 0 _ rfl)
      have c0 := (BW.out.cell (p := ⟨b, off + kk * 3, none⟩) hlt0).trans (hc 0 _ rfl)
      have hnx : Hid (adsI l (kk + 1) = adsI l kk ++ (if p.ad.toList.isEmpty = true then [] else [(kk : Int)])) := Lib.hid (by rw [adsI, List.getD_eq_getElem?_getD, hx]; rfl)
      have hszw := BW.out.size
      clear hx hc
      cases e5 : p.ad.toList.isEmpty
      case true =>
        have e6 : p.ad.toList = [] := by simpa using e5
        have hn2 : Hid (adsI l (kk + 1) = adsI l kk) := Lib.hid (by rw [hnx.out, e5]; simp)
        go_wp2
        go_roundg (l.length - (kk + 1))
        case measure => omega
        case rel => exact ⟨kk + 1, by omega, by omega, by go_num, BW.out, (show Own _ _ _ _ _ _ _ from by rw [hn2.out]; exact OW.out)⟩
      case false =>
        have e6 : ¬ p.ad.toList = [] := by simpa using e5
        have hn2 : Hid (adsI l (kk + 1) = adsI l kk ++ [(kk : Int)]) := Lib.hid (by rw [hnx.out, e5]; rfl)
        have hln := Lib.hid (adsI_len l kk)
        clear hnx
        go_wp2_with (at_builtin; go_loud (refine wpList_push rfl _ _ 38 rfl slI rfl rfl (kk : Int) rfl rfl rfl OW.out rfl (by have := hln.out; omega) hszw ?_); intro v5 w5 ho5 hb5; rw [← hn2.out] at ho5; have HO5 := Lib.hid ho5; have HB5 := Lib.hid hb5; clear ho5 hb5)
        go_roundg (l.length - (kk + 1))
        case measure => omega
        case rel => exact ⟨kk + 1, by omega, by omega, by go_num, BW.out.trans HB5.out, HO5.out⟩
    · obtain rfl : kk = l.length := by omega
      have hbw := HB2.out.thru BW.out
      have c3 := S3.out wr _ hbw (OW.out.sl encI_len)
      have HBW := Lib.hid hbw
      clear hbw
      go_wp2_with (go_at_call 17; refine c3.mono ?_; rintro e w7 ⟨rfl, hb7⟩; have hb7' := HBW.out.thru hb7; have c4 := S4.out w7 hb7'; have HB7 := Lib.hid hb7'; clear c3 hb7 hb7')
      go_wp2_with (first | (go_at_call 17; refine c4.mono ?_; rintro e w8 ⟨rfl, hb8⟩; have HB8 := Lib.hid (HB7.out.thru hb8); clear hb8) | (go_at_call 13; refine (awake_any _).mono ?_; rintro e w9 ⟨rfl, hb9⟩))
      go_ret
      exact ⟨rfl, HB8.out.thru hb9⟩
end Go.Proofs.Yteijcombdlgioaa

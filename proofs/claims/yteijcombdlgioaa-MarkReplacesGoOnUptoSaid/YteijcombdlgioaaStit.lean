/- Stitched, of the program and of the reference. -/
import Derived.Test.YteijcombdlgioaaRpgm
import Derived.Test.YteijcombdlgioaaDue
namespace Go.Proofs.Yteijcombdlgioaa
open Go.RowKit

/-- Is a tick of the programme in a part? -/
def stHit (p : Prt) (t : Int) : Bool := noAd p && decide (p.fr ≤ t) && decide (t < p.fr + p.ln)
def stL (t : Int) : Int → List Prt → List Int
  | _, [] => []
  | b, p :: r => if stHit p t = true then [b + (t - p.fr)] else stL t (b + p.ln) r
def stF (l : List Prt) (t : Int) : List Int := stL t 0 l
def stitL (l : List Prt) (t : Int) : List Int := if timeF l t = 0 then stF l t else []
def StAt (l : List Prt) (t : Int) (k : Nat) : Prop := stF l t = stL t (sumL (l.take k)) (l.drop k)
theorem StAt.start (l : List Prt) (t : Int) : StAt l t 0 := rfl
theorem StAt.hit {l : List Prt} {t : Int} {k : Nat} {p : Prt} (h : StAt l t k) (hx : l[k]? = some p) (hu : stHit p t = true) : stF l t = [sumL (l.take k) + (t - p.fr)] := by
  unfold StAt at h
  rw [h, drop_next hx, stL, if_pos hu]
theorem StAt.next {l : List Prt} {t : Int} {k : Nat} {p : Prt} (h : StAt l t k) (hx : l[k]? = some p) (hu : stHit p t = false) : StAt l t (k + 1) := by
  unfold StAt at h ⊢
  rw [h, drop_next hx, stL, if_neg (by rw [hu]; simp), sumL_take hx]
theorem StAt.done {l : List Prt} {t : Int} (h : StAt l t l.length) : stF l t = [] := by
  unfold StAt at h
  rw [h, List.drop_length, stL]

/-- Parts of the programme end before what is behind them begins. -/
theorem ends_le {l : List Prt} (h : checkP l = 0) : ∀ k, k ≤ l.length → ∀ i p, l[i]? = some p → i < k → noAd p = true → p.fr + p.ln ≤ endL 0 (l.take k)
  | 0, _, i, p, _, hi, _ => by omega
  | k + 1, hk, i, p, hx, hi, hn => by
    obtain ⟨q, hq⟩ : ∃ x, l[k]? = some x := ⟨l[k]'(by omega), by simp⟩
    rw [endL_take 0 hq]
    by_cases e : i = k
    · subst e
      have := hq.symm.trans hx
      simp at this; subst this
      rw [if_pos hn]; exact Int.le_refl _
    · have ih := ends_le h k (by omega) i p hx (by omega) hn
      have hc := (checkP_parts h).2.2.2 k (by omega)
      have hpf := pf_all h q (List.mem_of_getElem? hq)
      unfold cpAt cpOf at hc
      rw [List.getD_eq_getElem?_getD, hq, Option.getD_some] at hc
      split
      · rename_i hnq
        split at hc
        · rename_i h1; exact absurd hc h1
        split at hc
        · simp at hc
        rename_i h2
        rw [hnq] at h2
        simp at h2
        omega
      · exact ih
theorem hits_one {l : List Prt} (h : checkP l = 0) {t : Int} {i k : Nat} {p q : Prt} (hx : l[i]? = some p) (hy : l[k]? = some q) (hik : i < k) (hp : stHit p t = true) : stHit q t = false := by
  have hk : k < l.length := (List.getElem?_eq_some_iff.1 hy).1
  unfold stHit at hp ⊢
  simp only [Bool.and_eq_true, decide_eq_true_eq] at hp
  have h1 := ends_le h k (by omega) i p hx hik hp.1.1
  have hc := (checkP_parts h).2.2.2 k hk
  unfold cpAt cpOf at hc
  rw [List.getD_eq_getElem?_getD, hy, Option.getD_some] at hc
  split at hc
  · rename_i h1; exact absurd hc h1
  split at hc
  · simp at hc
  rename_i h2
  cases hq : noAd q
  · simp
  · rw [hq] at h2
    simp at h2
    simp
    omega

def stA (l : List Prt) (t : Int) : Nat → List Int
  | 0 => []
  | k + 1 => stA l t k ++ (if stHit (l.getD k default) t = true then [sumL (l.take k) + (t - (l.getD k default).fr)] else [])
theorem stA_len (l : List Prt) (t : Int) : ∀ k, (stA l t k).length ≤ k
  | 0 => by simp [stA]
  | k + 1 => by
    have := stA_len l t k
    rw [stA, List.length_append]
    split <;> simp <;> omega
theorem stA_inv {l : List Prt} (h : checkP l = 0) (t : Int) : ∀ k, k ≤ l.length → (stA l t k = [] ∧ StAt l t k) ∨ (stA l t k = stF l t ∧ ∃ i p, i < k ∧ l[i]? = some p ∧ stHit p t = true)
  | 0, _ => .inl ⟨rfl, StAt.start l t⟩
  | k + 1, hk => by
    obtain ⟨q, hq⟩ : ∃ x, l[k]? = some x := ⟨l[k]'(by omega), by simp⟩
    have hg : l.getD k default = q := by rw [List.getD_eq_getElem?_getD, hq]; rfl
    rw [stA, hg]
    rcases stA_inv h t k (by omega) with ⟨h1, h2⟩ | ⟨h1, i, p, hi, hx, hp⟩
    · rw [h1]
      cases e : stHit q t
      · exact .inl ⟨rfl, h2.next hq e⟩
      · exact .inr ⟨by rw [h2.hit hq e]; rfl, k, q, by omega, hq, e⟩
    · rw [hits_one h hx hq hi hp]
      exact .inr ⟨by simpa using h1, i, p, by omega, hx, hp⟩
theorem stA_all {l : List Prt} (h : checkP l = 0) (t : Int) : stA l t l.length = stF l t := by
  rcases stA_inv h t l.length (Nat.le_refl _) with ⟨h1, h2⟩ | ⟨h1, _⟩
  · rw [h1, h2.done]
  · exact h1

theorem Sl.one1 {w x : World} {o : Obj} {E : TypeId} {a b : Int} (hw : x = ((w.alloc o).alloc (.cells #[.int .i64 a] E)).drew) (h : a = b) : Sl x 1 encI (.slice (some ⟨w.heap.size + 1, 0, none⟩) 1 1) [b] := by
  subst hw h
  have := Sl.fresh encI_len (w.alloc o) E (0, 0) [a] (by simp [maxLen])
  have e : (w.alloc o).heap.size = w.heap.size + 1 := by simp
  rw [e] at this
  exact this

set_option maxRecDepth 100000 in
set_option maxHeartbeats 4000000 in
theorem stitched_any (w : World) (l : List Prt) (v : Value) (t : Int) (hl : Sl w 3 encP v l) (hw : ∀ p, p ∈ l → WfP p) :
    Calls Try.prog 16 #[v, .int .i64 t] w (SlPost w 1 encI (stitL l t) (timeF l t)) := by
  have h1 := timeFault_any w l v t hl hw
  have h2 := fun (w1 : World) (hb : Below w.heap.size w w1) => starts_any w1 l v (hl.below hb (Nat.le_refl _))
  have hS0 : stitL l t = if timeF l t = 0 then stF l t else [] := rfl
  have hz := @timeF_zero l t
  obtain ⟨ao, cap, rfl, hcap, hmax, hnil, hel⟩ := hl
  unfold maxLen at hmax
  generalize timeF l t = f at h1 hS0 hz ⊢
  have HS0 := Lib.hid hS0
  clear hS0
  cases e1 : (f != 0)
  case true =>
    have hv2 : Hid (stitL l t = []) := Lib.hid (by rw [HS0.out, if_neg (by simpa using e1)])
    clear hel h2 hz
    go_enter Try.func16, Try.ntmps16
    go_wp2_with (first | (go_at_call 31; refine h1.mono ?_; rintro e w' ⟨rfl, hb'⟩))
    go_ret2
    exact SlPost.mk rfl (by rw [hv2.out]; exact Sl.nil) hb'
  obtain rfl : f = 0 := by simpa using e1
  clear e1
  obtain ⟨hch, ht0, ht1⟩ := hz rfl
  have hv2 : Hid (stitL l t = stF l t) := Lib.hid (by rw [HS0.out]; rfl)
  have hlen := (checkP_parts hch).1
  have hbd := checkP_bd hch
  have hpa := pf_all hch
  have hsum : ∀ i p, l[i]? = some p → 0 ≤ sumL (l.take i) ∧ sumL (l.take i) ≤ 1000000000000000000 := fun i p hp => by
    have h := sumL_bd (l := l.take i) (fun q hq => hbd q (List.mem_of_mem_take hq))
    have h' : ((l.take i).length : Int) ≤ 1000 := by simp; omega
    omega
  have HBD := Lib.hid hbd
  have HPA := Lib.hid hpa
  have HSU := Lib.hid hsum
  have H2 := Lib.hid h2
  clear hch hbd hsum h2 hpa HS0
  go_enter Try.func16, Try.ntmps16
  go_wp2_with (first | (go_at_call 31; refine h1.mono ?_; rintro e w1 ⟨rfl, hb1⟩) | (go_at_call 33; refine (H2.out w1 hb1 hlen HBD.out).mono ?_; rintro e w2 ⟨v2, rfl, ho2, hb2⟩))
  clear h1
  obtain ⟨g, cg, rfl, hg1, hg2, hg3, hgc⟩ := Own.get encI_len ho2 (by intro e; have := startsL_len l l.length; rw [e] at this; simp at this)
  have hgl := startsL_len l l.length
  rw [hgl]
  have hb12 := hb1.thru hb2
  have hel2 := el_below hel hb12 (Nat.le_refl _)
  have hat : ∀ i p, l[i]? = some p → w2.cell? ⟨g, i, none⟩ = some (.int .i64 (sumL (l.take i))) := fun i p hp => hgc i _ _ (startsL_get l l.length i (by have := (List.getElem?_eq_some_iff.1 hp).1; omega)) rfl
  have HB12 := Lib.hid hb12
  have HEL := Lib.hid hel2
  have HAT := Lib.hid hat
  clear hel hel2 hat hgc hgl ho2 hb1 hb2 hb12 hg1
  go_loopg [20] l.length (fun gg s20 wr => ∃ kk : Nat, kk ≤ l.length ∧ l.length - kk ≤ gg ∧ s20 = .int .i64 kk ∧ Aside (Below w2.heap.size w2 wr) ∧ Aside (StAt l t kk))
  case atStart => exact ⟨0, Nat.zero_le _, by omega, rfl, Below.refl _ _, StAt.start l t⟩
  case round =>
    obtain ⟨kk, hkk, hg, rfl, BW, A⟩ := hrel
    by_cases hlt : kk < l.length
    · have hltz : (kk : Int) < (l.length : Int) := by omega
      have hltz2 : (kk : Int) < (l.length : Int) + 1 := by omega
      obtain ⟨p, hx⟩ : ∃ x, l[kk]? = some x := ⟨l[kk], by simp [hlt]⟩
      obtain ⟨b, off, hao, hc⟩ := HEL.out kk p hx
      subst hao
      have hlt0 := World.block_lt_of_cell? w2 _ (hc 0 _ rfl)
      have c0 := (BW.out.cell (p := ⟨b, off + kk * 3, none⟩) hlt0).trans (hc 0 _ rfl)
      have c1 := (BW.out.cell (p := ⟨b, off + kk * 3 + 1, none⟩) hlt0).trans (hc 1 _ rfl)
      have c2 := (BW.out.cell (p := ⟨b, off + kk * 3 + 2, none⟩) hlt0).trans (hc 2 _ rfl)
      obtain ⟨hp0, hp1, hp2⟩ := HPA.out p (List.mem_of_getElem? hx)
      obtain ⟨hs0, hs1⟩ := HSU.out kk p hx
      have hgk := HAT.out kk p hx
      have hszw := BW.out.size
      obtain ⟨S, hS⟩ : ∃ S, S = sumL (l.take kk) := ⟨_, rfl⟩
      rw [← hS] at hs0 hs1 hgk
      have HS := Lib.hid hS
      have HX := Lib.hid hx
      have HC := Lib.hid hc
      have hfl : p.fr + p.ln ≤ 1000000000000000 := by omega
      have hH : Hid (stHit p t = (p.ad.toList.isEmpty && decide (p.fr ≤ t) && decide (t < p.fr + p.ln))) := Lib.hid rfl
      clear hS hx hc
      go_upto_region 8 with (fail)
      go_cut [42] (fun s42 w4 => s42 = .bool (stHit p t) ∧ w4 = wr.alloc (.cells #[.string p.ad, .int .i64 p.fr, .int .i64 p.ln] 34))
      case first =>
        cases e5 : p.ad.toList.isEmpty
        · have e6 : ¬ p.ad.toList = [] := by simpa using e5
          go_wp2
          go_meet
          exact ⟨by rw [hH.out]; simp [*], rfl⟩
        · have e6 : p.ad.toList = [] := by simpa using e5
          by_cases h3 : p.fr ≤ t
          · go_wp2
            go_meet
            exact ⟨by rw [hH.out]; simp [*], rfl⟩
          · have h3' : decide (p.fr ≤ t) = false := by simpa using h3
            go_wp2
            go_meet
            exact ⟨by rw [hH.out]; simp [*], rfl⟩
      obtain ⟨rfl, rfl⟩ := hcut
      generalize hO : stHit p t = O at hH
      have HO := Lib.hid hO
      clear hO
      cases O
      case false =>
        go_wp2
        go_roundg (l.length - (kk + 1))
        case measure => omega
        case rel => exact ⟨kk + 1, by omega, by omega, by go_num, BW.out.alloc hszw _, A.out.next HX.out HO.out⟩
      case true =>
        have hv : Hid (stF l t = [S + (t - p.fr)]) := Lib.hid (by rw [A.out.hit HX.out HO.out, ← HS.out])
        have gk : wr.cell? ⟨g, kk, none⟩ = some (.int .i64 S) := (BW.out.cell (p := ⟨g, kk, none⟩) hg2).trans hgk
        have hxx : Hid (noAd p = true ∧ p.fr ≤ t ∧ t < p.fr + p.ln) := Lib.hid (by have h := HO.out; unfold stHit at h; simpa [and_assoc] using h)
        have hgw : g < wr.heap.size := by omega
        clear hgk
        go_wp2
        go_region
        all_goals
          simp only [Exit.then]
          go_wp2
          go_ret2
          exact SlPost.mk rfl (by rw [hv2.out, hv.out]; exact Sl.one1 rfl (by omega)) (HB12.out.thru (((BW.out.alloc hszw _).alloc (by simp; omega) _).drew))
    · obtain rfl : kk = l.length := by omega
      have hv : Hid (stF l t = []) := Lib.hid A.out.done
      go_wp2
      go_ret2
      exact SlPost.mk rfl (by rw [hv2.out, hv.out]; exact Sl.nil) (HB12.out.thru BW.out)

set_option maxRecDepth 100000 in
set_option maxHeartbeats 4000000 in
theorem stitchedR_any (w : World) (l : List Prt) (v : Value) (t : Int) (hl : Sl w 3 encP v l) (hw : ∀ p, p ∈ l → WfP p) :
    Calls Try.prog 23 #[v, .int .i64 t] w (SlPost w 1 encI (stitL l t) (timeF l t)) := by
  have h1 := checkPartsR_any w l v hl hw
  have hS0 : stitL l t = if timeF l t = 0 then stF l t else [] := rfl
  have hT : timeF l t = if checkP l ≠ 0 then checkP l else if outB t 0 1000000000000000 = true then 1 else 0 := rfl
  have HL0 := Lib.hid hl
  obtain ⟨ao, cap, rfl, hcap, hmax, hnil, hel⟩ := hl
  unfold maxLen at hmax
  obtain ⟨f, hf⟩ : ∃ f, f = checkP l := ⟨_, rfl⟩
  rw [← hf] at h1 hT
  have HFt := Lib.hid hf
  have HS0 := Lib.hid hS0
  generalize timeF l t = F at hT HS0 ⊢
  have HT := Lib.hid hT
  clear hS0 hf hT
  cases e1 : (f != 0)
  case true =>
    have hne : f ≠ 0 := by simpa using e1
    have hv : Hid (f = F) := Lib.hid (by rw [HT.out, if_pos hne])
    have hv2 : Hid (stitL l t = []) := Lib.hid (by rw [HS0.out, if_neg (by rw [← hv.out]; exact hne)])
    clear hel hne
    go_enter Try.func23, Try.ntmps23
    go_wp2_with (first | (go_at_call 21; refine h1.mono ?_; rintro e w' ⟨rfl, hb'⟩))
    go_ret2
    exact SlPost.mk hv.out (by rw [hv2.out]; exact Sl.nil) hb'
  obtain rfl : f = 0 := by simpa using e1
  clear e1
  cases o1 : outB t 0 1000000000000000
  case true =>
    have hv : Hid (1 = F) := Lib.hid (by rw [HT.out, o1]; rfl)
    have hv2 : Hid (stitL l t = []) := Lib.hid (by rw [HS0.out, ← hv.out]; rfl)
    clear hel
    go_enter Try.func23, Try.ntmps23
    go_wp2_with (first | (go_at_call 21; refine h1.mono ?_; rintro e w' ⟨rfl, hb'⟩) | (go_at_call 35; refine (within_any _ _ _ _).mono ?_; rintro e w' ⟨rfl, rfl⟩))
    go_ret2
    exact SlPost.mk hv.out (by rw [hv2.out]; exact Sl.nil) hb'
  have hv : Hid (0 = F) := Lib.hid (by rw [HT.out, o1]; rfl)
  have hch : checkP l = 0 := HFt.out.symm
  have hv2 : Hid (stitL l t = stA l t l.length) := Lib.hid (by rw [HS0.out, ← hv.out, stA_all hch]; rfl)
  have ht0 : 0 ≤ t ∧ t ≤ 1000000000000000 := by simp [outB] at o1; omega
  obtain ⟨ht0, ht1⟩ := ht0
  have hlen := (checkP_parts hch).1
  have hbd := checkP_bd hch
  have hpa := pf_all hch
  have hsum : ∀ i p, l[i]? = some p → 0 ≤ sumL (l.take i) ∧ sumL (l.take i) ≤ 1000000000000000000 := fun i p hp => by
    have h := sumL_bd (l := l.take i) (fun q hq => hbd q (List.mem_of_mem_take hq))
    have h' : ((l.take i).length : Int) ≤ 1000 := by simp; omega
    omega
  have HBD := Lib.hid hbd
  have HPA := Lib.hid hpa
  have HSU := Lib.hid hsum
  clear hch hbd hsum hpa HS0 HT
  go_enter Try.func23, Try.ntmps23
  go_wp2_with (first | (go_at_call 21; refine h1.mono ?_; rintro e w2 ⟨rfl, hb1⟩) | (go_at_call 35; refine (within_any _ _ _ _).mono ?_; rintro e w' ⟨rfl, rfl⟩))
  clear h1
  have HEL := Lib.hid (el_below hel hb1 (Nat.le_refl _))
  have HSL := Lib.hid (HL0.out.below hb1 (Nat.le_refl _))
  have HB1 := Lib.hid hb1
  clear hel hb1 HL0
  go_loopg [7, 8] l.length (fun gg s7 s8 wr => ∃ kk : Nat, kk ≤ l.length ∧ l.length - kk ≤ gg ∧ s8 = .int .i64 kk ∧ Aside (Below w2.heap.size w2 wr) ∧ Aside (Own wr w2.heap.size 3 1 encI s7 (stA l t kk)))
  case atStart => exact ⟨0, Nat.zero_le _, by omega, rfl, Below.refl _ _, Own.nil⟩
  case round =>
    obtain ⟨kk, hkk, hg, rfl, BW, OW⟩ := hrel
    by_cases hlt : kk < l.length
    · have hltz : (kk : Int) < (l.length : Int) := by omega
      obtain ⟨p, hx⟩ : ∃ x, l[kk]? = some x := ⟨l[kk], by simp [hlt]⟩
      obtain ⟨b, off, hao, hc⟩ := HEL.out kk p hx
      subst hao
      have hlt0 := World.block_lt_of_cell? w2 _ (hc 0 _ rfl)
      have c0 := (BW.out.cell (p := ⟨b, off + kk * 3, none⟩) hlt0).trans (hc 0 _ rfl)
      have c1 := (BW.out.cell (p := ⟨b, off + kk * 3 + 1, none⟩) hlt0).trans (hc 1 _ rfl)
      have c2 := (BW.out.cell (p := ⟨b, off + kk * 3 + 2, none⟩) hlt0).trans (hc 2 _ rfl)
      obtain ⟨hp0, hp1, hp2⟩ := HPA.out p (List.mem_of_getElem? hx)
      obtain ⟨hs0, hs1⟩ := HSU.out kk p hx
      have hszw := BW.out.size
      have hbg := begins_any wr l _ kk (HSL.out.below BW.out (Nat.le_refl _)) hlen HBD.out hkk
      obtain ⟨S, hS⟩ : ∃ S, S = sumL (l.take kk) := ⟨_, rfl⟩
      rw [← hS] at hs0 hs1 hbg
      have hget : Hid (l.getD kk default = p) := Lib.hid (by rw [List.getD_eq_getElem?_getD, hx]; rfl)
      have hnx : Hid (stA l t (kk + 1) = stA l t kk ++ (if stHit p t = true then [S + (t - p.fr)] else [])) := Lib.hid (by rw [stA, hget.out, hS])
      have hH : Hid (stHit p t = (p.ad.toList.isEmpty && decide (0 ≤ t - p.fr) && decide (t - p.fr < p.ln))) := Lib.hid (by
        unfold stHit noAd
        rw [show decide (p.fr ≤ t) = decide (0 ≤ t - p.fr) by rw [decide_eq_decide]; omega, show decide (t < p.fr + p.ln) = decide (t - p.fr < p.ln) by rw [decide_eq_decide]; omega])
      have hfl : p.fr + p.ln ≤ 1000000000000000 := by omega
      clear hS hx hc
      go_upto_region 11 with (fail)
      go_cut [9, 49] (fun s9 s49 w4 => s9 = .int .i64 (t - p.fr) ∧ s49 = .bool (stHit p t) ∧ w4 = wr)
      case first =>
        cases e5 : p.ad.toList.isEmpty
        · have e6 : ¬ p.ad.toList = [] := by simpa using e5
          go_wp2
          go_meet
          exact ⟨rfl, by rw [hH.out]; simp [*], rfl⟩
        · have e6 : p.ad.toList = [] := by simpa using e5
          by_cases h3 : p.fr ≤ t
          · go_wp2
            go_meet
            exact ⟨rfl, by rw [hH.out]; simp [*], rfl⟩
          · have h3' : decide (p.fr ≤ t) = false := by simpa using h3
            go_wp2
            go_meet
            exact ⟨rfl, by rw [hH.out]; simp [*], rfl⟩
      obtain ⟨rfl, rfl, rfl⟩ := hcut
      generalize hO : stHit p t = O at hH hnx
      have HO := Lib.hid hO
      clear hO
      cases O
      case false =>
        have hn2 : Hid (stA l t (kk + 1) = stA l t kk) := Lib.hid (by rw [hnx.out]; simp)
        go_wp2
        go_roundg (l.length - (kk + 1))
        case measure => omega
        case rel => exact ⟨kk + 1, by omega, by omega, by go_num, BW.out, (show Own _ _ _ _ _ _ _ from by rw [hn2.out]; exact OW.out)⟩
      case true =>
        have hn2 : Hid (stA l t (kk + 1) = stA l t kk ++ [S + (t - p.fr)]) := Lib.hid (by rw [hnx.out]; rfl)
        have hln := Lib.hid (stA_len l t kk)
        clear hnx
        go_wp2_with (first | (go_at_call 36; refine hbg.mono ?_; rintro e w5 ⟨rfl, rfl⟩) | (at_builtin; go_loud (refine wpList_push rfl _ _ 38 rfl slI rfl rfl (S + (t - p.fr)) rfl rfl rfl OW.out rfl (by have := hln.out; omega) hszw ?_); intro v5 w5 ho5 hb5; rw [← hn2.out] at ho5; have HO5 := Lib.hid ho5; have HB5 := Lib.hid hb5; clear ho5 hb5))
        go_roundg (l.length - (kk + 1))
        case measure => omega
        case rel => exact ⟨kk + 1, by omega, by omega, by go_num, BW.out.trans HB5.out, HO5.out⟩
    · obtain rfl : kk = l.length := by omega
      go_wp2
      go_ret2
      exact SlPost.mk hv.out (by rw [hv2.out]; exact OW.out.sl encI_len) (HB1.out.thru BW.out)
end Go.Proofs.Yteijcombdlgioaa

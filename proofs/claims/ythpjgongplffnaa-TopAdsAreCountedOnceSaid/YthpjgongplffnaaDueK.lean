/- Due of the program: what it returns (over Lib). -/
import Derived.Test.YthpjgongplffnaaCntM
import Derived.Test.YthpjgongplffnaaCpK
namespace Go.Proofs.Ythpjgongplffnaa
open Go.RowKit

/-- Where the parts begin, and the end. -/
def startsL (l : List Prt) : Nat → List Int
  | 0 => [0]
  | k + 1 => startsL l k ++ [sumL (l.take (k + 1))]
theorem startsL_len (l : List Prt) : ∀ k, (startsL l k).length = k + 1
  | 0 => rfl
  | k + 1 => by simp [startsL, startsL_len l k]
theorem startsL_get (l : List Prt) : ∀ k i, i ≤ k → (startsL l k)[i]? = some (sumL (l.take i))
  | 0, i, h => by
    obtain rfl : i = 0 := by omega
    simp [startsL, sumL]
  | k + 1, i, h => by
    unfold startsL
    by_cases e : i = k + 1
    · subst e
      rw [List.getElem?_append_right (by rw [startsL_len]; exact Nat.le_refl _), startsL_len]
      simp
    · rw [List.getElem?_append_left (by rw [startsL_len]; omega)]
      exact startsL_get l k i (by omega)

theorem sumL_bd {l : List Prt} (h : ∀ p, p ∈ l → 1 ≤ p.ln ∧ p.ln ≤ 1000000000000000) : (0 ≤ sumL l ∧ sumL l ≤ l.length * 1000000000000000) := by
  induction l with
  | nil => simp [sumL]
  | cons p r ih =>
    have h1 := h p (by simp)
    have h2 := ih (fun q hq => h q (by simp [hq]))
    simp only [sumL, List.length_cons]
    omega

theorem Own.get {α : Type} {w : World} {base : Nat} {E : TypeId} {enc : α → List Value} {v : Value} {l : List α} (hk : ∀ x, (enc x).length = 1) (h : Own w base E 1 enc v l) (hne : l ≠ []) :
    ∃ g cap, v = .slice (some ⟨g, 0, none⟩) l.length cap ∧ base ≤ g ∧ g < w.heap.size ∧ l.length ≤ cap ∧ ∀ i x u, l[i]? = some x → enc x = [u] → w.cell? ⟨g, i, none⟩ = some u := by
  have h0 := h
  obtain ⟨h1, h2⟩ := h
  rcases h2 with ⟨_, h2⟩ | ⟨g, cap, cur, rfl, hg, hh, hn, hm, hs, ht⟩
  · exact absurd (List.length_eq_zero_iff.1 h2) hne
  · refine ⟨g, cap, rfl, hg, (World.ownsRow.lt h0 g rfl).2, hn, fun i x u hx hu => ?_⟩
    have hi : i < l.length := (List.getElem?_eq_some_iff.1 hx).1
    have h3 := World.ownsRow.cellAt h0 i (by omega)
    rw [h3]
    have := flatMap_get hk l i 0 x hx (by omega)
    simp only [Nat.mul_one, Nat.add_zero] at this
    rw [this, hu]
    rfl

set_option maxRecDepth 100000 in
set_option maxHeartbeats 1000000 in
theorem starts_any (w : World) (l : List Prt) (v : Value) (hl : Sl w 3 encP v l) (hlen : l.length ≤ 1000) (hbd : ∀ p, p ∈ l → 1 ≤ p.ln ∧ p.ln ≤ 1000000000000000) :
    Calls Try.prog 14 #[v] w (OwnRet w 3 1 encI (startsL l l.length)) := by
  obtain ⟨ao, cap, rfl, hcap, hmax, hnil, hel⟩ := hl
  unfold maxLen at hmax
  have hst : Own (w.alloc (.cells #[.int .i64 0] 3)) w.heap.size 3 1 encI (.slice (some ⟨w.heap.size, 0, none⟩) 1 1) (startsL l 0) := World.ownsRow_lit w #[.int .i64 0] 1 (Nat.le_refl _) (by simp [maxLen]) rfl
  have HST := Lib.hid hst
  clear hst
  go_enter Try.func14, Try.ntmps14
  go_wp2
  go_loopg [3, 9] l.length (fun gg s3 s9 wr => ∃ kk : Nat, kk ≤ l.length ∧ l.length - kk ≤ gg ∧ s9 = .int .i64 kk ∧ Aside (Below w.heap.size w wr) ∧ Aside (Own wr w.heap.size 3 1 encI s3 (startsL l kk)))
  case atStart => exact ⟨0, Nat.zero_le _, by omega, rfl, (Below.refl _ _).alloc (Nat.le_refl _) _, HST.out⟩
  case round =>
    clear HST
    obtain ⟨kk, hkk, hg, rfl, BW, OW⟩ := hrel
    by_cases hlt : kk < l.length
    · have hltz : (kk : Int) < (l.length : Int) := by omega
      obtain ⟨p, hx⟩ : ∃ x, l[kk]? = some x := ⟨l[kk], by simp [hlt]⟩
      obtain ⟨b, off, rfl, hc⟩ := hel kk p hx
      have hlt0 := World.block_lt_of_cell? w _ (hc 0 _ rfl)
      have c0 := (BW.out.cell (p := ⟨b, off + kk * 3, none⟩) hlt0).trans (hc 0 _ rfl)
      have c1 := (BW.out.cell (p := ⟨b, off + kk * 3 + 1, none⟩) hlt0).trans (hc 1 _ rfl)
      have c2 := (BW.out.cell (p := ⟨b, off + kk * 3 + 2, none⟩) hlt0).trans (hc 2 _ rfl)
      obtain ⟨g, cg, rfl, hg1, hg2, hg3, hgc⟩ := Own.get encI_len OW.out (by intro e; have := startsL_len l kk; rw [e] at this; simp at this)
      have g0 := hgc kk _ _ (startsL_get l kk kk (Nat.le_refl _)) rfl
      have hp := hbd p (List.mem_of_getElem? hx)
      have hs := sumL_bd (l := l.take kk) (fun q hq => hbd q (List.mem_of_mem_take hq))
      have hs' : ((l.take kk).length : Int) ≤ 1000 := by simp; omega
      have hln : Hid (sumL (l.take (kk + 1)) = sumL (l.take kk) + p.ln) := Lib.hid (sumL_take hx)
      obtain ⟨S, hS⟩ : ∃ S, S = sumL (l.take kk) := ⟨_, rfl⟩
      rw [← hS] at g0 hs hln
      have HS := Lib.hid hS
      obtain ⟨hp0, hp1⟩ := hp
      obtain ⟨hs0, hs1⟩ := hs
      have hs2 : S ≤ 1000000000000000000 := by omega
      have hlenk := startsL_len l kk
      have OW2 := OW.out
      rw [hlenk] at OW2 ⊢
      have HOW := Lib.hid OW2
      have HL := Lib.hid hlenk
      clear OW2 OW
      have hki : (kk : Int) < (kk : Int) + 1 := by omega
      have hszw := BW.out.size
      have hne : Hid (startsL l (kk + 1) = startsL l kk ++ [S + p.ln]) := Lib.hid (by rw [startsL, hln.out])
      clear hS hx hc hel hgc hs1 hs' hlenk
      go_upto_region 5 with (fail)
      have hwrap : IntKind.i64.wrap (S + p.ln) = S + p.ln := IntWalk.i64_in _ (by omega)
      go_region_law (refine step_push rfl _ _ 23 rfl slI rfl rfl (S + p.ln) rfl rfl rfl (HOW.out.al _) (by simp) (by rw [HL.out]; omega) (by simp; omega) ?_; intro v1 w1 ho1 hb1; rw [← hne.out] at ho1; have HO := Lib.hid ho1; have HB := Lib.hid ((BW.out.alloc hszw _).trans hb1); clear ho1 hb1)
      all_goals
        clear hwrap
        go_wp2
        go_roundg (l.length - (kk + 1))
        case measure => omega
        case rel => exact ⟨kk + 1, by omega, by omega, by go_num, HB.out, HO.out⟩
    · obtain rfl : kk = l.length := by omega
      clear hel
      go_wp2
      go_ret
      exact OwnRet.mk OW.out BW.out

/-- The fault of a timeline with a time. -/
def timeF (l : List Prt) (t : Int) : Int := if checkP l ≠ 0 then checkP l else if outB t 0 1000000000000000 = true then 1 else 0

theorem timeFault_any (w : World) (l : List Prt) (v : Value) (t : Int) (hl : Sl w 3 encP v l) (hw : ∀ p, p ∈ l → WfP p) :
    Calls Try.prog 12 #[v, .int .i64 t] w fun e w' => e = .returned (.int .i64 (timeF l t)) ∧ Below w.heap.size w w' := by
  have h1 := checkParts_any w l v hl hw
  have hT : Hid (timeF l t = if checkP l ≠ 0 then checkP l else if outB t 0 1000000000000000 = true then 1 else 0) := Lib.hid rfl
  clear hl hw
  generalize checkP l = c at h1 hT
  cases hc : (c != 0)
  · have hz : c = 0 := by simpa using hc
    subst hz
    clear hc
    cases ho : outB t 0 1000000000000000
    · have hv : Hid (0 = timeF l t) := Lib.hid (by rw [hT.out, ho]; rfl)
      go_enter Try.func12, Try.ntmps12
      go_wp2_with (first | (go_at_call 4; refine h1.mono ?_; rintro e w' ⟨rfl, hb'⟩) | (go_at_call 13; refine (out_any _ _ _ _).mono ?_; rintro e w' ⟨rfl, rfl⟩))
      go_ret
      exact ⟨ret_int hv.out, hb'⟩
    · have hv : Hid (1 = timeF l t) := Lib.hid (by rw [hT.out, ho]; rfl)
      go_enter Try.func12, Try.ntmps12
      go_wp2_with (first | (go_at_call 4; refine h1.mono ?_; rintro e w' ⟨rfl, hb'⟩) | (go_at_call 13; refine (out_any _ _ _ _).mono ?_; rintro e w' ⟨rfl, rfl⟩))
      go_ret
      exact ⟨ret_int hv.out, hb'⟩
  · have hv : Hid (c = timeF l t) := Lib.hid (by rw [hT.out, if_pos (by simpa using hc)])
    go_enter Try.func12, Try.ntmps12
    go_wp2_with (first | (go_at_call 4; refine h1.mono ?_; rintro e w' ⟨rfl, hb'⟩) | (go_at_call 13; refine (out_any _ _ _ _).mono ?_; rintro e w' ⟨rfl, rfl⟩))
    go_ret
    exact ⟨ret_int hv.out, hb'⟩

/-- How many ticks a Kind needs, of an advertisement of n ticks. -/
def need (n k : Int) : Int := if k = 1 then 1 else if k = 2 then (n + 3) / 4 else if k = 3 then (n + 1) / 2 else if k = 4 then (3 * n + 3) / 4 else n

theorem ticksOf_any (n : Int) (w : World) (h1 : 1 ≤ n) (h2 : n ≤ 1000000000000000) :
    Calls Try.prog 15 #[.int .i64 n] w fun e w' => e = .returned (.agg #[.int .i64 1, .int .i64 ((n + 3) / 4), .int .i64 ((n + 1) / 2), .int .i64 ((3 * n + 3) / 4), .int .i64 n]) ∧ Below w.heap.size w w' := by
  go_enter Try.func15, Try.ntmps15
  go_wp2
  exact bodyPost_ret (v := .agg #[.int .i64 1, .int .i64 ((n + 3) / 4), .int .i64 ((n + 1) / 2), .int .i64 ((3 * n + 3) / 4), .int .i64 n]) (by simp [results, Try.results15, go_sem]) rfl ⟨rfl, (Below.refl _ _).alloc (Nat.le_refl _) _⟩

/-- The tick at which the event of a Kind comes. -/
def tickOf (l : List Prt) (i : Nat) (k : Int) : Int := sumL (l.take i) + need (l.getD i default).ln k - 1
def evOf (l : List Prt) (a b : Int) (i j : Nat) : List Ev :=
  if noAd (l.getD i default) = false ∧ a ≤ tickOf l i ((j : Int) + 1) ∧ tickOf l i ((j : Int) + 1) < b then [⟨⟨#[]⟩, i, (l.getD i default).ad, (j : Int) + 1⟩] else []
def evRow (l : List Prt) (a b : Int) (i : Nat) : Nat → List Ev
  | 0 => []
  | j + 1 => evRow l a b i j ++ evOf l a b i j
def evAll (l : List Prt) (a b : Int) : Nat → List Ev
  | 0 => []
  | n + 1 => evAll l a b n ++ evRow l a b n 5
def dueF (l : List Prt) (a b : Int) : Int := if checkP l ≠ 0 then checkP l else if (outB a 0 1000000000000000 || outB b a 1000000000000000) = true then 1 else 0
def dueL (l : List Prt) (a b : Int) : List Ev := if dueF l a b = 0 then evAll l a b l.length else []

theorem evOf_len (l : List Prt) (a b : Int) (i j : Nat) : (evOf l a b i j).length ≤ 1 := by unfold evOf; split <;> simp
theorem evRow_len (l : List Prt) (a b : Int) (i : Nat) : ∀ j, (evRow l a b i j).length ≤ j
  | 0 => by simp [evRow]
  | j + 1 => by have := evRow_len l a b i j; have := evOf_len l a b i j; simp only [evRow, List.length_append]; omega
theorem evAll_len (l : List Prt) (a b : Int) : ∀ n, (evAll l a b n).length ≤ 5 * n
  | 0 => by simp [evAll]
  | n + 1 => by have := evAll_len l a b n; have := evRow_len l a b n 5; simp only [evAll, List.length_append]; omega
theorem evRow_none {l : List Prt} {a b : Int} {i : Nat} (h : noAd (l.getD i default) = true) : ∀ j, evRow l a b i j = []
  | 0 => rfl
  | j + 1 => by rw [evRow, evRow_none h j, evOf, if_neg (fun e => by have h1 := e.1; rw [h] at h1; cases h1)]; rfl

theorem checkP_parts {l : List Prt} (h : checkP l = 0) : l.length ≤ 1000 ∧ (∀ p, p ∈ l → pf p = 0) ∧ sumL l ≤ 1000000000000000 ∧ ∀ i, i < l.length → cpAt l i = 0 := by
  unfold checkP at h
  split at h
  · simp at h
  rename_i h1
  split at h
  · rename_i h2; exact absurd h h2
  rename_i h2
  split at h
  · simp at h
  rename_i h3
  have h2' : FF (cpAt l) l.length = 0 := by simpa using h2
  have hz := FF_eq_zero h2'
  refine ⟨by omega, fun p hp => ?_, by omega, hz⟩
  obtain ⟨i, hi, rfl⟩ := List.mem_iff_getElem.1 hp
  have h4 := hz i hi
  rw [cpAt, List.getD_eq_getElem?_getD, List.getElem?_eq_getElem hi, Option.getD_some] at h4
  unfold cpOf at h4
  split at h4
  · rename_i h5; exact absurd h4 h5
  · rename_i h5; simpa using h5

theorem checkP_bd {l : List Prt} (h : checkP l = 0) : ∀ p, p ∈ l → 1 ≤ p.ln ∧ p.ln ≤ 1000000000000000 := fun p hp => by
  have := pf_zero ((checkP_parts h).2.1 p hp)
  omega

theorem need_bd {n k : Int} (h1 : 1 ≤ n) (h2 : n ≤ 1000000000000000) : 1 ≤ need n k ∧ need n k ≤ n := by
  unfold need
  repeat' split
  all_goals omega

theorem ticks_index (n : Int) (j : Nat) (hj : j < 5) (w : World) :
    (Instr.index 39 (.agg #[.int .i64 1, .int .i64 ((n + 3) / 4), .int .i64 ((n + 1) / 2), .int .i64 ((3 * n + 3) / 4), .int .i64 n]) (.int .i64 (j : Int))).run Try.prog w = .ok (.int .i64 (need n ((j : Int) + 1))) w := by
  rcases (by omega : j = 0 ∨ j = 1 ∨ j = 2 ∨ j = 3 ∨ j = 4) with rfl | rfl | rfl | rfl | rfl
  · kernel_rfl
  · kernel_rfl
  · kernel_rfl
  · kernel_rfl
  · kernel_rfl

theorem dueF_time (l : List Prt) (a b : Int) : dueF l a b = if timeF l a ≠ 0 then timeF l a else if outB b a 1000000000000000 = true then 1 else 0 := by
  unfold dueF timeF
  by_cases h : checkP l = 0
  · rw [h]
    cases outB a 0 1000000000000000 <;> cases outB b a 1000000000000000 <;> simp
  · simp [h]

/-- A slice of events that the call has built, and a fault. -/
def DueOwn (w : World) (l : List Ev) (f : Int) : Ending → World → Prop :=
  fun e w' => ∃ v', e = .returned (.tuple #[v', .int .i64 f]) ∧ Own w' w.heap.size 34 4 encE v' l ∧ Below w.heap.size w w'
theorem DueOwn.mk {w w' : World} {l : List Ev} {f f' : Int} {v' : Value} (hf : f' = f) (hs : Own w' w.heap.size 34 4 encE v' l) (hb : Below w.heap.size w w') :
    DueOwn w l f (.returned (.tuple #[v', .int .i64 f'])) w' := ⟨v', by rw [hf], hs, hb⟩
set_option maxRecDepth 100000 in
set_option maxHeartbeats 4000000 in
theorem due_own (w : World) (l : List Prt) (v : Value) (a t : Int) (hl : Sl w 3 encP v l) (hw : ∀ p, p ∈ l → WfP p) :
    Calls Try.prog 7 #[v, .int .i64 a, .int .i64 t] w (DueOwn w (dueL l a t) (dueF l a t)) := by
  have h1 := timeFault_any w l v a hl hw
  have hF := dueF_time l a t
  have h2 := fun (w1 : World) (hb : Below w.heap.size w w1) => starts_any w1 l v (hl.below hb (Nat.le_refl _))
  obtain ⟨ao, cap, rfl, hcap, hmax, hnil, hel⟩ := hl
  unfold maxLen at hmax
  obtain ⟨f, hf⟩ : ∃ f, f = timeF l a := ⟨_, rfl⟩
  rw [← hf] at h1 hF
  have HFt := Lib.hid hf
  have HF := Lib.hid hF
  clear hf hF
  cases e1 : (f != 0)
  case true =>
    have hv : Hid (f = dueF l a t) := Lib.hid (by rw [HF.out, if_pos (by simpa using e1)])
    have hv2 : Hid (dueL l a t = []) := Lib.hid (by
      have : f ≠ 0 := by simpa using e1
      rw [dueL, if_neg (by rw [← hv.out]; exact this)])
    clear hel h2
    go_enter Try.func7, Try.ntmps7
    go_wp2_with (first | (go_at_call 12; refine h1.mono ?_; rintro e w' ⟨rfl, hb'⟩))
    go_ret2
    exact DueOwn.mk hv.out (by rw [hv2.out]; exact Own.nil) hb'
  obtain rfl : f = 0 := by simpa using e1
  clear e1
  cases o1 : outB t a 1000000000000000
  case true =>
    have hv : Hid (1 = dueF l a t) := Lib.hid (by rw [HF.out, o1]; rfl)
    have hv2 : Hid (dueL l a t = []) := Lib.hid (by rw [dueL, ← hv.out]; rfl)
    clear hel h2
    go_enter Try.func7, Try.ntmps7
    go_wp2_with (first | (go_at_call 12; refine h1.mono ?_; rintro e w' ⟨rfl, hb'⟩) | (go_at_call 13; refine (out_any _ _ _ _).mono ?_; rintro e w' ⟨rfl, rfl⟩))
    go_ret2
    exact DueOwn.mk hv.out (by rw [hv2.out]; exact Own.nil) hb'
  have hv : Hid (0 = dueF l a t) := Lib.hid (by rw [HF.out, o1]; rfl)
  have hv2 : Hid (dueL l a t = evAll l a t l.length) := Lib.hid (by rw [dueL, ← hv.out]; rfl)
  have hch : checkP l = 0 := by
    have h := HFt.out
    unfold timeF at h
    split at h
    · rename_i h0; exact absurd h.symm h0
    · rename_i h0; simpa using h0
  have hlen := (checkP_parts hch).1
  have hbd := checkP_bd hch
  have hsum : ∀ i p, l[i]? = some p → 0 ≤ sumL (l.take i) ∧ sumL (l.take i) ≤ 1000000000000000000 := fun i p hp => by
    have h := sumL_bd (l := l.take i) (fun q hq => hbd q (List.mem_of_mem_take hq))
    have h' : ((l.take i).length : Int) ≤ 1000 := by simp; omega
    omega
  have HBD := Lib.hid hbd
  have HSU := Lib.hid hsum
  have H2 := Lib.hid h2
  clear hch hbd hsum h2
  go_enter Try.func7, Try.ntmps7
  go_wp2_with (first | (go_at_call 12; refine h1.mono ?_; rintro e w1 ⟨rfl, hb1⟩) | (go_at_call 13; refine (out_any _ _ _ _).mono ?_; rintro e w' ⟨rfl, rfl⟩) | (go_at_call 14; refine (H2.out w1 hb1 hlen HBD.out).mono ?_; rintro e w2 ⟨v2, rfl, ho2, hb2⟩))
  clear h1
  obtain ⟨g, cg, rfl, hg1, hg2, hg3, hgc⟩ := Own.get encI_len ho2 (by intro e; have := startsL_len l l.length; rw [e] at this; simp at this)
  have hgl := startsL_len l l.length
  rw [hgl]
  have hb12 := hb1.thru hb2
  have hel2 := el_below hel hb12 (Nat.le_refl _)
  have hat : ∀ i p, l[i]? = some p → w2.cell? ⟨g, i, none⟩ = some (.int .i64 (sumL (l.take i))) := fun i p hp => hgc i _ _ (startsL_get l l.length i (by have := (List.getElem?_eq_some_iff.1 hp).1; omega)) rfl
  have HB12 := Lib.hid hb12
  have HEL := Lib.hid hel2
  have HAT := Lib.hid hat
  clear hel hel2 hat hgc hgl ho2 hb1 hb2 hb12 hg1
  go_loopg [10, 29] l.length (fun gg s10 s29 wr => ∃ kk : Nat, kk ≤ l.length ∧ l.length - kk ≤ gg ∧ s29 = .int .i64 kk ∧ Aside (Below w2.heap.size w2 wr) ∧ Aside (Own wr w2.heap.size 34 4 encE s10 (evAll l a t kk)))
  case atStart => exact ⟨0, Nat.zero_le _, by omega, rfl, Below.refl _ _, Own.nil⟩
  case round =>
    obtain ⟨kk, hkk, hg, rfl, BW, OW⟩ := hrel
    by_cases hlt : kk < l.length
    · have hltz : (kk : Int) < (l.length : Int) := by omega
      obtain ⟨p, hx⟩ : ∃ x, l[kk]? = some x := ⟨l[kk], by simp [hlt]⟩
      obtain ⟨b, off, hao, hc⟩ := HEL.out kk p hx
      subst hao
      have hlt0 := World.block_lt_of_cell? w2 _ (hc 0 _ rfl)
      have c0 := (BW.out.cell (p := ⟨b, off + kk * 3, none⟩) hlt0).trans (hc 0 _ rfl)
      have c1 := (BW.out.cell (p := ⟨b, off + kk * 3 + 1, none⟩) hlt0).trans (hc 1 _ rfl)
      have c2 := (BW.out.cell (p := ⟨b, off + kk * 3 + 2, none⟩) hlt0).trans (hc 2 _ rfl)
      have hp := HBD.out p (List.mem_of_getElem? hx)
      have hs := HSU.out kk p hx
      have hgk := HAT.out kk p hx
      have hget : Hid (l.getD kk default = p) := Lib.hid (by rw [List.getD_eq_getElem?_getD, hx]; rfl)
      have hszw := BW.out.size
      obtain ⟨S, hS⟩ : ∃ S, S = sumL (l.take kk) := ⟨_, rfl⟩
      rw [← hS] at hs hgk
      have HS := Lib.hid hS
      obtain ⟨hp0, hp1⟩ := hp
      obtain ⟨hs0, hs1⟩ := hs
      clear hS hx hc
      cases e2 : p.ad.toList.isEmpty
      case true =>
        have hnx : Hid (evAll l a t (kk + 1) = evAll l a t kk) := Lib.hid (by
          rw [evAll, evRow_none (by rw [hget.out]; exact e2), List.append_nil])
        go_wp2
        go_roundg (l.length - (kk + 1))
        case measure => omega
        case rel => exact ⟨kk + 1, by omega, by omega, by go_num, BW.out.alloc hszw _, (show Own _ _ _ _ _ _ _ from by rw [hnx.out]; exact OW.out.al _)⟩
      case false =>
        obtain ⟨wo, rfl⟩ : ∃ wo : World, wo = wr := ⟨_, rfl⟩
        go_wp2_with (go_at_call 15; refine (ticksOf_any p.ln _ hp0 hp1).mono ?_; rintro e w3 ⟨rfl, hb3⟩)
        have hbx := KeepT.of_below (E := 34) hb3 wo.heap.size _ _ _ (block_new wo _) (by decide)
        have ho3 : Own w3 w2.heap.size 34 4 encE _ (evAll l a t kk) := (OW.out.al _).below hb3 (Nat.le_refl _)
        have hbw3 : Below w2.heap.size w2 w3 := (BW.out.alloc hszw _).thru hb3
        have HBX := Lib.hid hbx
        have HO3 := Lib.hid ho3
        have HBW3 := Lib.hid hbw3
        have hno : Hid (noAd (l.getD kk default) = false) := Lib.hid (by rw [hget.out]; exact e2)
        clear hbx ho3 hbw3 hb3 c0 c1 c2 BW OW
        go_loopg [10, 40] 5 (fun gg s10 s40 wr => ∃ j : Nat, j ≤ 5 ∧ 5 - j ≤ gg ∧ s40 = .int .i64 j ∧ Aside (Below w2.heap.size w2 wr) ∧ Aside (Own wr w2.heap.size 34 4 encE s10 (evAll l a t kk ++ evRow l a t kk j)) ∧ Aside (wr.heap[wo.heap.size]? = some (Obj.cells #[.string p.ad, .int .i64 p.fr, .int .i64 p.ln] 28 (0, 0))))
        case atStart => exact ⟨0, by omega, by omega, rfl, HBW3.out, (show Own _ _ _ _ _ _ _ from by rw [evRow, List.append_nil]; exact HO3.out), HBX.out⟩
        obtain ⟨j, hj, hgj, rfl, BI, OI, XI⟩ := hrel
        by_cases hj5 : j < 5
        · have hjz : (j : Int) < 5 := by omega
          have hidx := fun w => ticks_index p.ln j hj5 w
          have hnb := need_bd (k := (j : Int) + 1) hp0 hp1
          have htk : Hid (tickOf l kk ((j : Int) + 1) = S + need p.ln ((j : Int) + 1) - 1) := Lib.hid (by rw [tickOf, hget.out, ← HS.out])
          obtain ⟨N, hN⟩ : ∃ N, N = need p.ln ((j : Int) + 1) := ⟨_, rfl⟩
          rw [← hN] at hnb htk
          have hidx' : ∀ w, (Instr.index 39 (.agg #[.int .i64 1, .int .i64 ((p.ln + 3) / 4), .int .i64 ((p.ln + 1) / 2), .int .i64 ((3 * p.ln + 3) / 4), .int .i64 p.ln]) (.int .i64 (j : Int))).run Try.prog w = .ok (.int .i64 N) w := by rw [hN]; exact hidx
          have d0 : wr.cell? ⟨wo.heap.size, 0, none⟩ = some (.string p.ad) := (cell_of_block XI.out).trans rfl
          have gk : wr.cell? ⟨g, kk, none⟩ = some (.int .i64 S) := (BI.out.cell (p := ⟨g, kk, none⟩) hg2).trans hgk
          have hszi := BI.out.size
          have hlen2 : Hid ((evAll l a t kk ++ evRow l a t kk j).length ≤ 5005) := Lib.hid (by
            have h1 := evAll_len l a t kk
            have h2 := evRow_len l a t kk j
            rw [List.length_append]
            omega)
          obtain ⟨hn1, hn2⟩ := hnb
          have hn3 : N ≤ 1000000000000000 := by omega
          clear hN hidx hgk
          have hki : (kk : Int) < (l.length : Int) + 1 := by omega
          go_upto_region 16 with (fail)
          go_cut [58] (fun s58 w4 => s58 = .bool (decide (a ≤ S + N - 1) && decide (S + N - 1 < t)) ∧ w4 = wr)
          case first =>
            by_cases ha : a ≤ S + N - 1
            · go_wp2
              go_meet
              exact ⟨by simp [*], rfl⟩
            · have ha' : decide (a ≤ S + N - 1) = false := by simp; omega
              go_wp2
              go_meet
              exact ⟨by simp [*], rfl⟩
          obtain ⟨rfl, rfl⟩ := hcut
          generalize hO : (decide (a ≤ S + N - 1) && decide (S + N - 1 < t)) = O
          have HO := Lib.hid hO
          clear hO
          cases O
          case false =>
            have hev : Hid (evRow l a t kk (j + 1) = evRow l a t kk j) := Lib.hid (by
              have h := HO.out
              rw [evRow, evOf, if_neg (by rw [htk.out]; simp at h; intro hh; omega), List.append_nil])
            go_wp2
            go_roundg (5 - (j + 1))
            case measure => omega
            case rel => exact ⟨j + 1, by omega, by omega, by go_num, BI.out, (show Own _ _ _ _ _ _ _ from by rw [hev.out]; exact OI.out), XI.out⟩
          case true =>
            have hev : Hid (evAll l a t kk ++ evRow l a t kk (j + 1) = (evAll l a t kk ++ evRow l a t kk j) ++ [⟨⟨#[]⟩, kk, p.ad, (j : Int) + 1⟩]) := Lib.hid (by
              have h := HO.out
              simp at h
              rw [evRow, evOf, if_pos ⟨hno.out, by rw [htk.out]; omega, by rw [htk.out]; omega⟩, hget.out, List.append_assoc])
            have hC : Hid (encE ⟨⟨#[]⟩, kk, p.ad, (j : Int) + 1⟩ = [.string ⟨#[]⟩, .int .i64 kk, .string p.ad, .int .i64 (1 + (j : Int))]) := Lib.hid (by simp [encE]; omega)
            go_wp2_with (at_builtin; go_loud (refine wpList_pushK rfl _ _ 29 rfl slE rfl rfl ⟨⟨#[]⟩, kk, p.ad, (j : Int) + 1⟩ hC.out rfl rfl OI.out rfl (by have := hlen2.out; omega) hszi ?_); intro v5 w5 ho5 hb5 hk5; rw [← hev.out] at ho5; have HO5 := Lib.hid ho5; have HB5 := Lib.hid hb5; have HK5 := Lib.hid (hk5 _ _ _ _ XI.out (by decide)); clear ho5 hb5 hk5)
            go_roundg (5 - (j + 1))
            case measure => omega
            case rel => exact ⟨j + 1, by omega, by omega, by go_num, BI.out.trans HB5.out, HO5.out, HK5.out⟩
        · obtain rfl : j = 5 := by omega
          go_wp2
          go_roundg (l.length - (kk + 1))
          case measure => omega
          case rel => exact ⟨kk + 1, by omega, by omega, by go_num, BI.out, OI.out⟩
    · obtain rfl : kk = l.length := by omega
      go_wp2
      go_ret2
      exact DueOwn.mk hv.out (by rw [hv2.out]; exact OW.out.rebase HB12.out.size) (HB12.out.thru BW.out)
theorem due_any (w : World) (l : List Prt) (v : Value) (a t : Int) (hl : Sl w 3 encP v l) (hw : ∀ p, p ∈ l → WfP p) :
    Calls Try.prog 7 #[v, .int .i64 a, .int .i64 t] w (SlPost w 4 encE (dueL l a t) (dueF l a t)) :=
  (due_own w l v a t hl hw).mono fun _ _ ⟨v', h1, h2, h3⟩ => ⟨v', h1, h2.sl encE_len, h3⟩
end Go.Proofs.Ythpjgongplffnaa

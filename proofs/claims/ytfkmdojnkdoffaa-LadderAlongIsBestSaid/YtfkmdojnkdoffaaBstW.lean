/- The recursion over choices of the program. -/
import Derived.Test.YtfkmdojnkdoffaaBstN
import Derived.Test.YtfkmdojnkdoffaaCloneI
namespace Go.Proofs.Ytfkmdojnkdoffaa
open Go.RowKit

theorem froz_of_block {w : World} {b i : Nat} {c : Array Value} {T : TypeId} (h : w.heap[b]? = some (.cells c T (0, 0))) : w.frozen? ⟨b, i, none⟩ = false := by simp [World.frozen?, h]
/-- The function that a chooser asks. -/
abbrev fnV (p q : Nat) : Value := .func (.func 22) #[] #[.pointer (some ⟨p, 0, none⟩), .pointer (some ⟨q, 0, none⟩)]
/-- Block P is a chooser whose best choice is B. -/
def ChAt (W : World) (P n m p q : Nat) (f : List Int → Int) (B : List Int) : Prop := ∃ vb, W.heap[P]? = some (.cells #[.int .i64 n, .int .i64 m, fnV p q, vb, .int .i64 (f B)] 72 (0, 0)) ∧ Sl W 1 encI vb B ∧ offB P vb
theorem ChAt.below {W W' : World} {P n m p q B0 : Nat} {f : List Int → Int} {B : List Int} (h : ChAt W P n m p q f B) (hb : Below B0 W W') (hB : W.heap.size ≤ B0) : ChAt W' P n m p q f B := by
  obtain ⟨vb, h1, h2, h3⟩ := h
  exact ⟨vb, (hb.block P (Nat.lt_of_lt_of_le (lt_of_blk h1) hB)).trans h1, h2.below hb hB, h3⟩
def FromW (W : World) (P n m p q : Nat) (f : List Int → Int) (PL : List Int) (i : Int) (B : List Int) : Ending → World → Prop :=
  fun e w' => ∃ B', e = .returned (.tuple #[]) ∧ ChAt w' P n m p q f B' ∧ okW n m B' ∧ upW f B B' ∧ covW f n m PL i B' ∧ Onl P W w'
def Up1W (W : World) (P n m p q : Nat) (f : List Int → Int) (PL B : List Int) (w' : World) : Prop := Onl P W w' ∧ ∃ B1, ChAt w' P n m p q f B1 ∧ okW n m B1 ∧ upW f B B1 ∧ btW f PL B1 = false
def FRW (W : World) (P n m p q : Nat) (f : List Int → Int) (PL B : List Int) (i k : Int) (w' : World) : Prop := Onl P W w' ∧ ∃ B1, ChAt w' P n m p q f B1 ∧ okW n m B1 ∧ upW f B B1 ∧ covTo f n m PL i k B1

theorem ChAt.store {W : World} {P n m p q : Nat} {f : List Int → Int} {B PL : List Int} {v : Value} (h : ChAt W P n m p q f B) (hs : Sl W 1 encI v PL) (hp : offB P v) :
    ChAt ((W.setCell ⟨P, 3, none⟩ v).setCell ⟨P, 4, none⟩ (.int .i64 (f PL))) P n m p q f PL := by
  obtain ⟨vb, h1, _, _⟩ := h
  refine ⟨v, ?_, hs.onl hp ((Onl.set P W 3 _).trans (Onl.set P _ 4 _)), hp⟩
  have h2 := heap_setCell_same W P 3 _ _ v h1
  have h3 := heap_setCell_same _ P 4 _ _ (.int .i64 (f PL)) h2
  exact h3

set_option maxRecDepth 100000 in
set_option maxHeartbeats 4000000 in
theorem fromW_any (w0 : World) (n m p q : Nat) (hn : n ≤ 100) (hm : m ≤ 100) (f : List Int → Int) (P : Nat) (hP0 : w0.heap.size ≤ P)
    (hval : ∀ (W : World) (v : Value) (L : List Int), Below w0.heap.size w0 W → Sl W 1 encI v L → okW n m L → Calls Try.prog 22 #[v, .pointer (some ⟨p, 0, none⟩), .pointer (some ⟨q, 0, none⟩)] W fun e w' => e = .returned (.int .i64 (f L)) ∧ Below W.heap.size W w') :
    ∀ (fu : Nat) (i : Nat) (w : World) (vp : Value) (PL B : List Int), n - i < fu → i ≤ n → Below w0.heap.size w0 w → ChAt w P n m p q f B → Sl w 1 encI vp PL → offB P vp → okW n m PL → (∀ j, j ∈ PL → j < i) → okW n m B →
    Calls Try.prog 41 #[.pointer (some ⟨P, 0, none⟩), .int .i64 i, vp] w (FromW w P n m p q f PL i B) := by
  intro fu
  induction fu with
  | zero => exact fun i w vp PL B hn => absurd hn (Nat.not_lt_zero _)
  | succ fu ih =>
    intro i w vp PL B hfu hi hb0 hch hvp hPp hPL hlt hB
    have HPL := Lib.hid hPL
    have HB := Lib.hid hB
    have HLT := Lib.hid hlt
    have HVP := Lib.hid hvp
    have HPP := Lib.hid hPp
    have HB0 := Lib.hid hb0
    have HCH := Lib.hid hch
    have IH := Lib.hid ih
    have HVAL := Lib.hid hval
    have EG : Hid (∀ args w, (callFunc 22 args).run Try.prog w = .ok (.enter 22 args) w) := Lib.hid (enters_of Try.func22 (by kernel_rfl) rfl)
    have hlenP := hPL.cnt
    have hlenM := hPL.len
    obtain ⟨vb, h1, hvb, hPb⟩ := hch
    have f2 := (cell_of_block (i := 2) h1).trans rfl
    have hlP := lt_of_blk h1
    have hcall := hval w vp PL hb0 hvp hPL
    have HK1 := Lib.hid h1
    have HVB := Lib.hid hvb
    obtain ⟨po, pcap, rfl, hpc, hpm, _, _⟩ := hvp
    obtain ⟨bo, bcap, rfl, hbc, hbm, _, _⟩ := hvb
    unfold maxLen at hpm hbm
    have hlenB := hB.cnt
    clear hPL hB hlt hPp hb0 ih hval hPb h1
    go_enter Try.func41, Try.ntmps41
    have eg := EG.out
    obtain ⟨bb, hbb⟩ : ∃ bb, bb = btW f PL B := ⟨_, rfl⟩
    have HBB := Lib.hid hbb
    have HBI : Hid (bb = (decide (f B < f PL) || ((f PL == f B) && (decide (PL.length < B.length) || ((PL.length == B.length) && decide (PL < B)))))) := Lib.hid hbb
    clear hbb
    go_upto_region 1 with (go_at_fn 22; refine hcall.mono ?_; rintro e w1 ⟨rfl, hb⟩; have HW1 := Lib.hid hb; have hk1 := (hb.block P hlP).trans HK1.out; have k1 := (cell_of_block (i := 1) hk1).trans rfl; have k3 := (cell_of_block (i := 3) hk1).trans rfl; have k4 := (cell_of_block (i := 4) hk1).trans rfl; have hlP1 := lt_of_blk hk1; have HK2 := Lib.hid hk1; clear hb hk1)
    have HVP1 := Lib.hid (HVP.out.below HW1.out (Nat.le_refl _))
    have HVB1 := Lib.hid (HVB.out.below HW1.out (Nat.le_refl _))
    go_cut [55] (fun s55 wc => s55 = .bool bb ∧ w1 = wc)
    case first =>
      by_cases h1 : f B < f PL
      · have hv : Hid (true = bb) := Lib.hid (by rw [HBI.out, decide_eq_true h1]; rfl)
        go_wp2
        go_meet
        exact ⟨by rw [← hv.out], rfl⟩
      by_cases h2 : f PL = f B
      case neg =>
        have hd : (f PL == f B) = false := beq_eq_false_iff_ne.2 h2
        have hv : Hid (false = bb) := Lib.hid (by rw [HBI.out, decide_eq_false h1, hd]; rfl)
        clear h2
        go_wp2
        go_meet
        exact ⟨by rw [← hv.out], rfl⟩
      have hd : (f PL == f B) = true := beq_iff_eq.2 h2
      have HBJ : Hid (bb = (decide (PL.length < B.length) || ((PL.length == B.length) && decide (PL < B)))) := Lib.hid (by rw [HBI.out, decide_eq_false h1, hd]; rfl)
      clear h2
      by_cases h3 : PL.length < B.length
      · have h3z : (PL.length : Int) < (B.length : Int) := by omega
        have hv : Hid (true = bb) := Lib.hid (by rw [HBJ.out, decide_eq_true h3]; rfl)
        go_wp2
        go_meet
        exact ⟨by rw [← hv.out], rfl⟩
      have h3z : ¬ (PL.length : Int) < (B.length : Int) := by omega
      by_cases h4 : PL.length = B.length
      case neg =>
        have h4z : ((PL.length : Int) == (B.length : Int)) = false := by rw [beq_eq_false_iff_ne]; omega
        have hv : Hid (false = bb) := Lib.hid (by rw [HBJ.out, decide_eq_false h3, beq_eq_false_iff_ne.2 h4]; rfl)
        clear h4
        go_wp2
        go_meet
        exact ⟨by rw [← hv.out], rfl⟩
      have h4z : ((PL.length : Int) == (B.length : Int)) = true := by rw [beq_iff_eq]; omega
      have HBH : Hid (bb = decide (PL < B)) := Lib.hid (by rw [HBJ.out, decide_eq_false h3, beq_iff_eq.2 h4]; rfl)
      have HCP := Lib.hid (compare_any w1 PL B _ _ HVP1.out HVB1.out h4)
      clear h4
      go_wp2_with (go_at_call 55; refine HCP.out.mono ?_; rintro e w2 ⟨cc, rfl, hcc, rfl⟩; have HCC := Lib.hid hcc; clear hcc)
      go_meet
      exact ⟨by rw [HBH.out, ← HCC.out], rfl⟩
    obtain ⟨rfl, rfl⟩ := hcut
    have HB1 := Lib.hid (HB0.out.thru HW1.out)
    have HCH1 := Lib.hid (HCH.out.below HW1.out (Nat.le_refl _))
    have hbk : Hid (btW f PL PL = false) := Lib.hid (btW_irr f PL)
    have hlen8 : PL.length * 8 ≤ 140737488355328 := by omega
    have HCL := Lib.hid (fun (W : World) (hb : Below w1.heap.size w1 W) => cloneI_any W PL _ (HVP1.out.below hb (Nat.le_refl _)) hlen8)
    have hPP1 := Lib.hid (lt_of_blk HK2.out)
    have z3 := froz_of_block (i := 3) HK2.out
    have z4 := froz_of_block (i := 4) HK2.out
    go_upto_if 55 with (fail)
    go_cut [55] (fun _ w5 => Aside (Up1W w1 P n m p q f PL B w5))
    case first =>
      cases bb
      case false =>
        go_wp2
        go_meet
        exact ⟨Onl.refl _ _, B, HCH1.out, HB.out, upW.refl f B, HBB.out.symm⟩
      case true =>
        go_wp2_with fail
        refine (HCL.out _ (Below.refl _ _)).mono ?_
        rintro e w2 ⟨v', rfl, ho, hb⟩
        obtain ⟨ao', L', cp', rfl⟩ := Own.slv encI_len ho
        have HO2 := Lib.hid ho
        have HB2 := Lib.hid hb
        have hk2 := (hb.block P hlP1).trans HK2.out
        have HCH2 := Lib.hid (HCH1.out.below hb (Nat.le_refl _))
        have y3 := (cell_of_block (i := 3) hk2).trans rfl
        have y4 := (cell_of_block (i := 4) hk2).trans rfl
        have x3 := froz_of_block (i := 3) hk2
        have x4 := froz_of_block (i := 4) hk2
        have hlP2 := lt_of_blk hk2
        clear ho hb hk2 k1 k3 k4 z3 z4 hlP1
        go_wp2
        go_meet
        exact ⟨((Onl.of_below HB2.out).trans (Onl.set P _ 3 _)).trans (Onl.set P _ 4 _), PL, HCH2.out.store (HO2.out.sl encI_len) (HO2.out.offB hPP1.out), HPL.out, .inr HBB.out.symm, hbk.out⟩
    obtain ⟨wx, hwx⟩ : ∃ wx, wx = wc := ⟨_, rfl⟩
    have hcu := hcut.out
    clear hcut
    rw [← hwx] at hcu ⊢
    clear hwx z3 z4 k1 k3 k4 hlP1 HCL HK2 HCH1 HK1 HCH HVB HVB1 HBB HBI f2 hlP hcall
    obtain ⟨HXO, B1, hch1, hB1, hU1, hN1⟩ := hcu
    have HXO := Lib.hid HXO
    have HCH1 := Lib.hid hch1
    have HB1' := Lib.hid hB1
    have HU1 := Lib.hid hU1
    have HN1 := Lib.hid hN1
    obtain ⟨vb1, hk1, _, _⟩ := hch1
    have k1 := (cell_of_block (i := 1) hk1).trans rfl
    have hlPx := lt_of_blk hk1
    have HWX := Lib.hid ((Onl.of_below HW1.out).trans HXO.out)
    have HBX := Lib.hid (HB1.out.trans (HXO.out.toBelow HB1.out.size hP0))
    have HPX := Lib.hid (HVP1.out.onl HPP.out HXO.out)
    clear hB1 hU1 hN1 hk1
    by_cases hfull : PL.length = m
    · have hd : ((PL.length : Int) == (m : Int)) = true := by rw [beq_iff_eq]; omega
      have HCV := Lib.hid (covW.full (n := n) (i := (i : Int)) HN1.out hfull)
      clear hfull
      go_wp2
      go_end0
      exact ⟨B1, rfl, HCH1.out, HB1'.out, HU1.out, HCV.out, HWX.out⟩
    have hd : ((PL.length : Int) == (m : Int)) = false := by rw [beq_eq_false_iff_ne]; omega
    have hroom : PL.length + 1 ≤ m := by omega
    clear hfull
    go_wp2
    go_loopg [1] n (fun gg s1 wr => ∃ kk : Nat, kk ≤ n ∧ n - kk ≤ gg ∧ i ≤ kk ∧ s1 = .int .i64 kk ∧ Aside (FRW wx P n m p q f PL B i kk wr))
    case atStart => exact ⟨i, hi, by omega, Nat.le_refl _, rfl, (show FRW _ _ _ _ _ _ _ _ _ _ _ _ from ⟨Onl.refl _ _, B1, HCH1.out, HB1'.out, HU1.out, covTo.start HN1.out⟩)⟩
    obtain ⟨kk, hkk, hg, hik, rfl, HR⟩ := hrel
    obtain ⟨HO, B2, hch2, hB2, hU2, hC2⟩ := HR.out
    clear HR k1 hlPx
    have HO := Lib.hid HO
    have HB2 := Lib.hid hB2
    have HU2 := Lib.hid hU2
    have HC2 := Lib.hid hC2
    have HCH2 := Lib.hid hch2
    obtain ⟨vb2, hk2, _, _⟩ := hch2
    have k0 := (cell_of_block (i := 0) hk2).trans rfl
    have hlPr := lt_of_blk hk2
    have HPr := Lib.hid (HPX.out.onl HPP.out HO.out)
    have HBr := Lib.hid (HBX.out.trans (HO.out.toBelow HBX.out.size hP0))
    clear hB2 hU2 hC2 hk2
    by_cases hlt : kk < n
    · have hltz : (kk : Int) < (n : Int) := by omega
      have hok : Hid (okW n m (PL ++ [(kk : Int)])) := Lib.hid (okW_snoc HPL.out (by omega) hltz (fun j hj => by have := HLT.out j hj; omega) hroom)
      go_wp2_with fail
      refine (cloneI_any _ PL _ HPr.out hlen8).mono ?_
      rintro e w3 ⟨v3, rfl, ho, hb⟩
      have HO3 := Lib.hid ho
      have HB3 := Lib.hid hb
      have hz3 := hb.size
      have HPr' := Lib.hid hlPr
      have hnl : (PL.length + 1) * 8 ≤ 140737488355328 := by omega
      clear ho hb k0 hlPr
      go_wp2_with (at_builtin; refine wpList_push rfl _ _ 24 rfl slI rfl rfl (kk : Int) rfl rfl rfl HO3.out rfl hnl hz3 ?_; intro v4 w4 ho4 hb4; have HO4 := Lib.hid ho4; have HB4 := Lib.hid (HB3.out.trans hb4); clear ho4 hb4)
      have HCH4 := Lib.hid (HCH2.out.below HB4.out (Nat.le_refl _))
      have HI := Lib.hid (IH.out (kk + 1) w4 v4 (PL ++ [(kk : Int)]) B2 (by omega) (by omega) (HBr.out.thru HB4.out) HCH4.out (HO4.out.sl encI_len) (HO4.out.offB HPr'.out) hok.out (fun j hj => by
            rcases List.mem_append.1 hj with h | h
            · have := HLT.out j h; omega
            · simp at h; omega) HB2.out)
      have e1 : ((kk + 1 : Nat) : Int) = (kk : Int) + 1 := by omega
      rw [e1] at HI
      refine HI.out.mono ?_
      rintro e w5 ⟨B3, rfl, h1, h2, h3, h4, h5⟩
      have HE : Hid (FRW wx P n m p q f PL B i ((kk : Int) + 1) w5) := Lib.hid ⟨(HO.out.trans (Onl.of_below HB4.out)).trans h5, B3, h1, h2, HU2.out.trans h3, HC2.out.take h3 h4⟩
      clear h1 h2 h3 h4 h5 e1 HI
      go_wp2
      go_roundg (n - (kk + 1))
      case measure => omega
      case rel => exact ⟨kk + 1, by omega, by omega, by omega, by go_num, (show FRW _ _ _ _ _ _ _ _ _ _ _ _ by rw [show ((kk + 1 : Nat) : Int) = (kk : Int) + 1 by omega]; exact HE.out)⟩
    · obtain rfl : kk = n := by omega
      have hltz : ¬ (kk : Int) < (kk : Int) := by omega
      go_wp2
      go_end0
      exact ⟨B2, rfl, HCH2.out, HB2.out, HU2.out, HC2.out.done (Int.le_refl _), HWX.out.trans HO.out⟩
end Go.Proofs.Ytfkmdojnkdoffaa

/- ReadCue of the reference. -/
import Derived.Test.YtkcnnfgdplccoaaRdP
import Derived.Test.YtkcnnfgdplccoaaOnl
import Derived.Test.YtkcnnfgdplccoaaPut
import Derived.Test.YtkcnnfgdplccoaaROpn
import Derived.Test.YtkcnnfgdplccoaaCueR
import Derived.Test.YtkcnnfgdplccoaaRSum
import Derived.StillTailTactics
namespace Go.Proofs.Ytkcnnfgdplccoaa
open Go.RowKit
set_option linter.unusedSimpArgs false
set_option linter.unusedVariables false

theorem numberL (za zm : Int) (a many : Nat) (hza : za = a) (hzm : zm = many) (w : World) (l : List UInt8) (v : Value) (hl : Sl w 1 encT v (openL l)) (hi : a + many ≤ 8 * l.length) (hm : many ≤ 33) (hn : l.length ≤ 300) :
    Calls Try.prog 27 #[v, .int .i64 za, .int .i64 zm] w fun e w' => e = .returned (.int .i64 (numB l a many : Nat)) ∧ w = w' := by
  subst hza hzm
  exact numberR_any w l v a many hl hi hm hn
theorem sizeC_ge (k : Nat) (now : Bool) : 5 ≤ sizeC k now := by
  unfold sizeC
  split
  · omega
  split
  · omega
  split
  · split <;> omega
  · split <;> omega
theorem sizeC_now (k : Nat) (now : Bool) : sizeC k true ≤ sizeC k now := by
  cases now
  · unfold sizeC
    split
    · omega
    split
    · omega
    split
    · simp
    · simp
  · exact Nat.le_refl _
def evC (l : List UInt8) (k : Nat) : Nat := if k = 0 then 0 else numB l 27 32
def tiC (l : List UInt8) (k : Nat) (now : Bool) : Nat := if timedB k && !now then numB l 60 33 else 0
def leC (l : List UInt8) (k : Nat) (now : Bool) : Nat := if k = 1 then numB l (lastC now + 1) 33 else 0
def auC (l : List UInt8) (k : Nat) (now : Bool) : Bool := (k == 1) && bitAt l (lastC now)
def at1 (k : Nat) : Nat := if k = 0 then 27 else 59
def at2 (k : Nat) (now : Bool) : Nat := if timedB k then lastC now else at1 k
theorem cueRd_eq (l : List UInt8) (k : Nat) (now : Bool) (hk : kindC l = k) (hn : nowC l = now) : cueRd l = ⟨k, evC l k, now, tiC l k now, leC l k now, auC l k now⟩ := by
  subst hk hn
  unfold cueRd evC tiC leC auC
  simp only [Cue.mk.injEq, true_and, and_true]
  refine ⟨?_, ?_, ?_⟩ <;> split <;> rfl
theorem at_end (k : Nat) (now : Bool) (hk : k ≤ 3) : endC k now = if k = 1 then at2 k now + 34 else at2 k now := by
  have : k = 0 ∨ k = 1 ∨ k = 2 ∨ k = 3 := by omega
  rcases this with rfl | rfl | rfl | rfl <;> simp [endC, at2, at1, timedB]

/-- The cue in block C, the result in block w.heap.size. -/
def HoldC (w w1 : World) (C : Nat) (c : Cue) (W : World) : Prop := W.heap[C]? = some (boxC c) ∧ W.heap[w.heap.size]? = some (boxC zeroC) ∧ Below w.heap.size w W ∧ Below w1.heap.size w1 W
theorem HoldC.st {w w1 W : World} {C : Nat} {c : Cue} (h : HoldC w w1 C c W) (hCR : C ≠ w.heap.size) (hCw : w.heap.size ≤ C) (hC1 : w1.heap.size ≤ C) (j : Nat) (u : Value) (c' : Cue)
    (he : (#[Value.int .i64 c.ki, .int .i64 c.ev, .bool c.no, .int .i64 c.ti, .int .i64 c.le, .bool c.au]).setIfInBounds j u = #[Value.int .i64 c'.ki, .int .i64 c'.ev, .bool c'.no, .int .i64 c'.ti, .int .i64 c'.le, .bool c'.au]) : HoldC w w1 C c' (W.setCell ⟨C, j, none⟩ u) := by
  obtain ⟨h1, h2, h3, h4⟩ := h
  refine ⟨?_, (Below.heap_setCell W ⟨C, j, none⟩ u w.heap.size (show w.heap.size ≠ C from fun e => hCR e.symm)).trans h2, h3.setCell hCw _, h4.setCell hC1 _⟩
  rw [heap_setCell_same W C j _ _ u h1, he]

theorem HoldC.drew {w w1 W : World} {C : Nat} {c : Cue} (h : HoldC w w1 C c W) : HoldC w w1 C c W.drew := ⟨h.1, h.2.1, h.2.2.1.drew, h.2.2.2.drew⟩

set_option maxRecDepth 100000 in
set_option maxHeartbeats 8000000 in
theorem ReadCueR_any (w : World) (l : List UInt8) (v : Value) (hl : Sl w 1 encU v l) :
    Calls Try.prog 17 #[v] w (RdP w (readC l)) := by
  have HL := Lib.hid hl
  have HB0 := Lib.hid ((Below.refl w.heap.size w).alloc (Nat.le_refl _) (boxC zeroC))
  have HK0 := Lib.hid (block_new w (boxC zeroC))
  have HV : Hid (readC l = if 300 < l.length then ⟨zeroC, 0, 2⟩ else if l.length < 3 then ⟨zeroC, l.length, 10⟩ else if l.getD 0 0 ≠ 252 then ⟨zeroC, 0, 10⟩ else headRd l (numB l 8 12)) := Lib.hid rfl
  obtain ⟨ao, cap, rfl, hcap, hmax, hnil, hel⟩ := hl
  unfold maxLen at hmax
  generalize readC l = A at HV ⊢
  by_cases h1 : 300 < l.length
  · have h1z : (300 : Int) < (l.length : Int) := by omega
    have hv : Hid (A = ⟨zeroC, 0, 2⟩) := Lib.hid (by rw [HV.out, if_pos h1])
    clear hel
    go_enter Try.func17, Try.ntmps17
    go_wp2
    exact bodyPost_ret (v := .tuple #[.agg #[.int .i64 0, .int .i64 0, .bool false, .int .i64 0, .int .i64 0, .bool false], .int .i64 0, .int .i64 2]) (by simp [results, Try.results17, go_sem]) rfl (RdP.mk hv.out rfl HB0.out)
  have h1z : ¬ (300 : Int) < (l.length : Int) := by omega
  have HV1 : Hid (A = if l.length < 3 then ⟨zeroC, l.length, 10⟩ else if l.getD 0 0 ≠ 252 then ⟨zeroC, 0, 10⟩ else headRd l (numB l 8 12)) := Lib.hid (by rw [HV.out, if_neg h1])
  clear HV
  by_cases h2 : l.length < 3
  · have h2z : (l.length : Int) < 3 := by omega
    have hv : Hid (A = ⟨zeroC, l.length, 10⟩) := Lib.hid (by rw [HV1.out, if_pos h2])
    clear hel
    go_enter Try.func17, Try.ntmps17
    go_wp2
    exact bodyPost_ret (v := .tuple #[.agg #[.int .i64 0, .int .i64 0, .bool false, .int .i64 0, .int .i64 0, .bool false], .int .i64 l.length, .int .i64 10]) (by simp [results, Try.results17, go_sem]) rfl (RdP.mk hv.out rfl HB0.out)
  have h2z : ¬ (l.length : Int) < 3 := by omega
  have HV2 : Hid (A = if l.getD 0 0 ≠ 252 then ⟨zeroC, 0, 10⟩ else headRd l (numB l 8 12)) := Lib.hid (by rw [HV1.out, if_neg h2])
  clear HV1
  obtain ⟨b, off, rfl, hc0⟩ := hel 0 l[0] (by simp)
  have q0 : w.cell? ⟨b, off, none⟩ = some (.int .u8 (l[0].toNat : Nat)) := by have := hc0 0 _ rfl; simpa using this
  have hb0 : b < w.heap.size := World.block_lt_of_cell? w _ q0
  have i0 : (0 : Nat) < l.length := by omega
  have e00 : Hid (l.getD 0 0 = l[0]) := Lib.hid (by simp [List.getD_eq_getElem?_getD, i0])
  rw [e00.out] at HV2
  obtain ⟨B0, hB0⟩ : ∃ B0, B0 = l[0].toNat := ⟨_, rfl⟩
  rw [← hB0] at q0
  have hB0l : B0 < 256 := by rw [hB0]; exact l[0].toNat_lt
  by_cases h3 : B0 = 252
  case neg =>
    have h3z : ((B0 : Int) != 252) = true := by simp; omega
    have hv : Hid (A = ⟨zeroC, 0, 10⟩) := Lib.hid (by
      rw [HV2.out, if_pos]
      intro e
      rw [e] at hB0
      exact h3 hB0)
    clear hel hB0
    go_enter Try.func17, Try.ntmps17
    go_wp2
    exact bodyPost_ret (v := .tuple #[.agg #[.int .i64 0, .int .i64 0, .bool false, .int .i64 0, .int .i64 0, .bool false], .int .i64 0, .int .i64 10]) (by simp [results, Try.results17, go_sem]) rfl (RdP.mk hv.out rfl HB0.out)
  have h3z : ((B0 : Int) != 252) = false := by simp; omega
  have HV3 : Hid (A = headRd l (numB l 8 12)) := Lib.hid (by
    rw [HV2.out, if_neg]
    intro e
    exact e (UInt8.toNat_inj.1 (by rw [← hB0, h3]; rfl)))
  clear HV2 hB0 hel hc0 e00
  have h300 : l.length ≤ 300 := by omega
  have HOP := Lib.hid (fun W (hb : Below w.heap.size w W) => openedR_any W l _ (HL.out.below hb (Nat.le_refl _)) h300)
  have hnl : numB l 8 12 < 4096 := numB_lt l 8 12
  have j0 : (0 : Int) < (l.length : Int) := by omega
  go_enter Try.func17, Try.ntmps17
  go_wp2_with fail
  refine (HOP.out _ HB0.out).mono ?_
  rintro e w1 ⟨v5, rfl, ho, hb⟩
  obtain ⟨o5, c5, rfl, hc5, hm5, _, _⟩ := Own.sl ho encT_len
  unfold maxLen at hm5
  have hlen5 := openL_len l
  have HS1 := Lib.hid (ho.sl encT_len)
  have HB1 := Lib.hid (HB0.out.thru hb)
  have HK1 := Lib.hid ((hb.block _ (lt_of_blk HK0.out)).trans HK0.out)
  have HOL := Lib.hid hlen5
  obtain ⟨LN, hLN⟩ : ∃ LN, LN = 8 * l.length := ⟨_, rfl⟩
  rw [hlen5, ← hLN] at hc5 HS1 ⊢
  have HLE := Lib.hid hLN
  clear ho hb hlen5 q0 hLN
  go_wp2_with fail
  refine (numberL 8 12 8 12 rfl rfl _ l _ HS1.out (by omega) (by omega) h300).mono ?_
  rintro e w2 ⟨rfl, rfl⟩
  obtain ⟨n, hn⟩ : ∃ n, n = numB l 8 12 := ⟨_, rfl⟩
  rw [← hn] at hnl ⊢
  have HV4 : Hid (A = headRd l n) := Lib.hid (by rw [HV3.out, hn])
  clear HV3 hn
  have hlR := lt_of_blk HK1.out
  have r0 := (cell_of_block (i := 0) HK1.out).trans rfl
  have g0 := froz_of_block (i := 0) HK1.out
  have r1 := (cell_of_block (i := 1) HK1.out).trans rfl
  have g1 := froz_of_block (i := 1) HK1.out
  have r2 := (cell_of_block (i := 2) HK1.out).trans rfl
  have g2 := froz_of_block (i := 2) HK1.out
  have r3 := (cell_of_block (i := 3) HK1.out).trans rfl
  have g3 := froz_of_block (i := 3) HK1.out
  have r4 := (cell_of_block (i := 4) HK1.out).trans rfl
  have g4 := froz_of_block (i := 4) HK1.out
  have r5 := (cell_of_block (i := 5) HK1.out).trans rfl
  have g5 := froz_of_block (i := 5) HK1.out
  have hlw := HB1.out.size
  by_cases h4 : l.length < 3 + n
  · have h4z : (l.length : Int) < 3 + (n : Int) := by omega
    have hv : Hid (A = ⟨zeroC, l.length, 10⟩) := Lib.hid (by rw [HV4.out]; unfold headRd; rw [if_pos h4])
    go_upto_region 10 with (fail)
    repeat (first | go_values | go_skip | go_guarded | go_step | go_upon)
    exact bodyPost_ret (v := .tuple #[.agg #[.int .i64 0, .int .i64 0, .bool false, .int .i64 0, .int .i64 0, .bool false], .int .i64 (l.length), .int .i64 10]) (by simp [results, Try.results17, go_sem, r0, r1, r2, r3, r4, r5, hlR]) rfl (RdP.mk hv.out rfl ((((((HB1.out.setCell (Nat.le_refl _) _).setCell (Nat.le_refl _) _).setCell (Nat.le_refl _) _).setCell (Nat.le_refl _) _).setCell (Nat.le_refl _) _).setCell (Nat.le_refl _) _))
  have h4z : ¬ (l.length : Int) < 3 + (n : Int) := by omega
  by_cases h5 : 3 + n < l.length
  · have h5z : 3 + (n : Int) < (l.length : Int) := by omega
    have hv : Hid (A = ⟨zeroC, 3 + (n : Int), 10⟩) := Lib.hid (by rw [HV4.out]; unfold headRd; rw [if_neg h4, if_pos h5]; rfl)
    go_upto_region 12 with (fail)
    repeat (first | go_values | go_skip | go_guarded | go_step | go_upon)
    exact bodyPost_ret (v := .tuple #[.agg #[.int .i64 0, .int .i64 0, .bool false, .int .i64 0, .int .i64 0, .bool false], .int .i64 (3 + (n : Int)), .int .i64 10]) (by simp [results, Try.results17, go_sem, r0, r1, r2, r3, r4, r5, hlR]) rfl (RdP.mk hv.out rfl ((((((HB1.out.setCell (Nat.le_refl _) _).setCell (Nat.le_refl _) _).setCell (Nat.le_refl _) _).setCell (Nat.le_refl _) _).setCell (Nat.le_refl _) _).setCell (Nat.le_refl _) _))
  have h5z : ¬ 3 + (n : Int) < (l.length : Int) := by omega
  have hln : l.length = 3 + n := by omega
  have HV5 : Hid (A = bodyRd l n) := Lib.hid (by rw [HV4.out]; unfold headRd; rw [if_neg h4, if_neg h5])
  have HLN := Lib.hid hln
  have hbn : n ≤ 297 := by omega
  have HR1 : Hid (rightC l n = (decide (kindC l ≤ 3) && (n == sizeC (kindC l) (nowC l)))) := Lib.hid rfl
  have HBD : Hid (bodyRd l n = if rightC l n = false then ⟨zeroC, 1, 10⟩ else if numB l 20 4 ≠ 15 then ⟨zeroC, 2, 10⟩ else fillC l (endC (kindC l) (nowC l)) (8 * (n - 1) - endC (kindC l) (nowC l))) := Lib.hid rfl
  clear HV4 hln
  by_cases h55 : n < 5
  · have h55z : (n : Int) < 5 := by omega
    have hv : Hid (A = ⟨zeroC, 1, 10⟩) := Lib.hid (by
      have := sizeC_ge (kindC l) (nowC l)
      rw [HV5.out, HBD.out, HR1.out, if_pos (by rw [Bool.and_eq_false_iff]; right; rw [beq_eq_false_iff_ne]; omega)])
    go_upto_region 14 with (fail)
    repeat (first | go_values | go_skip | go_guarded | go_step | go_upon)
    exact bodyPost_ret (v := .tuple #[.agg #[.int .i64 0, .int .i64 0, .bool false, .int .i64 0, .int .i64 0, .bool false], .int .i64 (1), .int .i64 10]) (by simp [results, Try.results17, go_sem, r0, r1, r2, r3, r4, r5, hlR]) rfl (RdP.mk hv.out rfl ((((((HB1.out.setCell (Nat.le_refl _) _).setCell (Nat.le_refl _) _).setCell (Nat.le_refl _) _).setCell (Nat.le_refl _) _).setCell (Nat.le_refl _) _).setCell (Nat.le_refl _) _))
  have h55z : ¬ (n : Int) < 5 := by omega
  go_wp2_with fail
  refine (numberL 24 3 24 3 rfl rfl _ l _ HS1.out (by have := HLN.out; omega) (by omega) h300).mono ?_
  rintro e w2 ⟨rfl, rfl⟩
  have hk8 : kindC l < 8 := numB_lt l 24 3
  have HKK : Hid (numB l 24 3 = kindC l) := Lib.hid rfl
  rw [HKK.out]
  have HNW : Hid (nowC l = (timedB (kindC l) && bitAt l 59)) := Lib.hid rfl
  have HCU := Lib.hid (cueRd_eq l (kindC l) (nowC l) rfl rfl)
  have HEN := Lib.hid (at_end (kindC l) (nowC l))
  have HTI := Lib.hid (show fillC l (endC (kindC l) (nowC l)) (8 * (n - 1) - endC (kindC l) (nowC l)) = fillO (tailC l (cueRd l)) (badAt l (endC (kindC l) (nowC l)) (8 * (n - 1) - endC (kindC l) (nowC l))) from rfl)
  rw [HCU.out] at HTI
  generalize nowC l = nw at HR1 HBD HNW HCU HEN HTI
  generalize kindC l = k at HR1 HBD HNW HCU HEN HTI hk8 HKK ⊢
  obtain ⟨C, hC⟩ : ∃ C, C = w1.heap.size := ⟨_, rfl⟩
  obtain ⟨w2, hw2⟩ : ∃ w2, w2 = w1.alloc (boxC ⟨k, 0, false, 0, 0, false⟩) := ⟨_, rfl⟩
  have HC2 : Hid (w2.heap[C]? = some (boxC ⟨k, 0, false, 0, 0, false⟩)) := Lib.hid (by rw [hw2, hC]; exact block_new w1 _)
  have HB2 : Hid (Below w.heap.size w w2) := Lib.hid (by rw [hw2]; exact HB1.out.alloc hlw _)
  have HW12 : Hid (Below w1.heap.size w1 w2) := Lib.hid (by rw [hw2]; exact (Below.refl _ _).alloc (Nat.le_refl _) _)
  have HK2 : Hid (w2.heap[w.heap.size]? = some (boxC zeroC)) := Lib.hid ((HW12.out.block _ hlR).trans HK1.out)
  have hCR : C ≠ w.heap.size := by omega
  have hCw : w.heap.size ≤ C := by omega
  have HCE := Lib.hid hC
  have HWE := Lib.hid hw2
  have HSW := Lib.hid (fun W (hb : Below w1.heap.size w1 W) => HS1.out.below hb (Nat.le_refl _))
  clear hC hw2 r0 g0 r1 g1 r2 g2 r3 g3 r4 g4 r5 g5 hlR hlw
  have c0 := (cell_of_block (i := 0) HC2.out).trans rfl
  have hlC := lt_of_blk HC2.out
  have e1z := Lib.hid (fun (h : k = 1) => (by rw [h]; rfl : timedB k = true))
  have HTB : Hid (timedB k = ((k == 1) || (k == 2))) := Lib.hid rfl
  have HT1 : Hid (timedB k = true → 1 ≤ k ∧ k ≤ 2) := Lib.hid (fun h => by unfold timedB at h; simp at h; omega)
  have HT2 : Hid (timedB k = false → k ≠ 1 ∧ k ≠ 2) := Lib.hid (fun h => by unfold timedB at h; simpa using h)
  have HA2 : Hid (at2 k nw = if timedB k then lastC nw else at1 k) := Lib.hid rfl
  have HTIC : Hid (tiC l k nw = if timedB k && !nw then numB l 60 33 else 0) := Lib.hid rfl
  generalize timedB k = tb at HTB HT1 HT2 HA2 HTIC HNW
  clear e1z
  go_upto_region 16 with (fail)
  rw [← HCE.out]
  go_cut [8] (fun s8 wc => s8 = .bool tb ∧ w2 = wc)
  case first =>
    by_cases hk1 : k = 1
    · have hd : ((k : Int) == 1) = true := by rw [beq_iff_eq]; omega
      have hv : Hid (true = tb) := Lib.hid (by rw [HTB.out, hk1]; rfl)
      clear hk1
      rw [← HWE.out]
      go_wp2
      go_meet
      exact ⟨by rw [← hv.out], rfl⟩
    · have hd : ((k : Int) == 1) = false := by rw [beq_eq_false_iff_ne]; omega
      by_cases hk2 : k = 2
      · have hd2 : ((k : Int) == 2) = true := by rw [beq_iff_eq]; omega
        have hv : Hid (true = tb) := Lib.hid (by rw [HTB.out, hk2]; rfl)
        clear hk1 hk2
        rw [← HWE.out]
        go_wp2
        go_meet
        exact ⟨by rw [← hv.out], rfl⟩
      · have hd2 : ((k : Int) == 2) = false := by rw [beq_eq_false_iff_ne]; omega
        have hv : Hid (false = tb) := Lib.hid (by rw [HTB.out, beq_eq_false_iff_ne.2 hk1, beq_eq_false_iff_ne.2 hk2]; rfl)
        clear hk1 hk2
        rw [← HWE.out]
        go_wp2
        go_meet
        exact ⟨by rw [← hv.out], rfl⟩
  obtain ⟨rfl, rfl⟩ := hcut
  have HSN := Lib.hid (sizeC_now k nw)
  have HS0G : Hid (tb = true → 9 ≤ sizeC k true) := Lib.hid (fun h => by
    have h1 := HT1.out h
    have : k = 1 ∨ k = 2 := by omega
    rcases this with rfl | rfl <;> simp [sizeC])
  obtain ⟨Q, hQ⟩ : ∃ Q : Bool, Q = (decide (3 < k) || (tb && decide (n < sizeC k true))) := ⟨_, rfl⟩
  have HQ := Lib.hid hQ
  clear hQ
  have HLG := Lib.hid (fun (h : ¬ 3 < k) W => longR_any k true (by omega) W)
  generalize sizeC k true = S0 at HQ HSN HLG HS0G
  go_upto_region 17 with (fail)
  go_cut [72] (fun s72 wc => s72 = .bool Q ∧ Aside (Below w2.heap.size w2 wc))
  case first =>
    by_cases hk3 : 3 < k
    · have hd : (3 : Int) < (k : Int) := by omega
      have hv : Hid (true = Q) := Lib.hid (by rw [HQ.out, decide_eq_true hk3]; rfl)
      go_wp2
      go_meet
      exact ⟨by rw [← hv.out], Below.refl _ _⟩
    · have hd : ¬ (3 : Int) < (k : Int) := by omega
      have HL3 := Lib.hid (HLG.out hk3)
      have HQ2 : Hid (Q = (tb && decide (n < S0))) := Lib.hid (by rw [HQ.out, decide_eq_false hk3]; rfl)
      cases tb
      · have hv : Hid (false = Q) := Lib.hid HQ2.out.symm
        go_wp2
        go_meet
        exact ⟨by rw [← hv.out], Below.refl _ _⟩
      · by_cases hns : n < S0
        · have hnz : (n : Int) < (S0 : Int) := by omega
          have hnd : decide ((n : Int) < (S0 : Int)) = true := decide_eq_true hnz
          have hv : Hid (true = Q) := Lib.hid (by rw [HQ2.out, decide_eq_true hns]; rfl)
          go_wp2_with fail
          refine (HL3.out _).mono ?_
          rintro e w3 ⟨rfl, hb⟩
          have HB := Lib.hid hb
          clear hb
          go_wp2
          go_meet
          exact ⟨by rw [← hv.out], HB.out⟩
        · have hnz : ¬ (n : Int) < (S0 : Int) := by omega
          have hnd : decide ((n : Int) < (S0 : Int)) = false := decide_eq_false hnz
          have hv : Hid (false = Q) := Lib.hid (by rw [HQ2.out, decide_eq_false hns]; rfl)
          go_wp2_with fail
          refine (HL3.out _).mono ?_
          rintro e w3 ⟨rfl, hb⟩
          have HB := Lib.hid hb
          clear hb
          go_wp2
          go_meet
          exact ⟨by rw [← hv.out], HB.out⟩
  obtain ⟨rfl, HBq⟩ := hcut
  obtain ⟨w3, rfl⟩ : ∃ w3, w3 = wc := ⟨_, rfl⟩
  have HB3 := Lib.hid (HB2.out.thru HBq.out)
  have H13 := Lib.hid (HW12.out.thru HBq.out)
  have HK3 := Lib.hid ((HBq.out.block _ (lt_of_blk HK2.out)).trans HK2.out)
  have HC3 := Lib.hid ((HBq.out.block _ (lt_of_blk HC2.out)).trans HC2.out)
  clear HBq c0 hlC HLG
  have hlR := lt_of_blk HK3.out
  have r0 := (cell_of_block (i := 0) HK3.out).trans rfl
  have g0 := froz_of_block (i := 0) HK3.out
  have r1 := (cell_of_block (i := 1) HK3.out).trans rfl
  have g1 := froz_of_block (i := 1) HK3.out
  have r2 := (cell_of_block (i := 2) HK3.out).trans rfl
  have g2 := froz_of_block (i := 2) HK3.out
  have r3 := (cell_of_block (i := 3) HK3.out).trans rfl
  have g3 := froz_of_block (i := 3) HK3.out
  have r4 := (cell_of_block (i := 4) HK3.out).trans rfl
  have g4 := froz_of_block (i := 4) HK3.out
  have r5 := (cell_of_block (i := 5) HK3.out).trans rfl
  have g5 := froz_of_block (i := 5) HK3.out
  cases Q
  case true =>
    have hv : Hid (A = ⟨zeroC, 1, 10⟩) := Lib.hid (by
      have h1 := HSN.out
      have h2 := HQ.out
      rw [HV5.out, HBD.out, HR1.out, if_pos]
      rw [Bool.and_eq_false_iff]
      by_cases hk3 : 3 < k
      · left
        simp
        omega
      · right
        rw [beq_eq_false_iff_ne]
        rw [decide_eq_false hk3] at h2
        simp at h2
        omega)
    go_upto_region 18 with (fail)
    repeat (first | go_values | go_skip | go_guarded | go_step | go_upon)
    exact bodyPost_ret (v := .tuple #[.agg #[.int .i64 0, .int .i64 0, .bool false, .int .i64 0, .int .i64 0, .bool false], .int .i64 (1), .int .i64 10]) (by simp [results, Try.results17, go_sem, r0, r1, r2, r3, r4, r5, hlR]) rfl (RdP.mk hv.out rfl ((((((HB3.out.setCell (Nat.le_refl _) _).setCell (Nat.le_refl _) _).setCell (Nat.le_refl _) _).setCell (Nat.le_refl _) _).setCell (Nat.le_refl _) _).setCell (Nat.le_refl _) _))
  have hk3 : k ≤ 3 := by
    have h2 := HQ.out
    simp at h2
    omega
  have HNS : Hid (tb = true → S0 ≤ n) := Lib.hid (fun h => by
    have h2 := HQ.out
    rw [h] at h2
    simp at h2
    omega)
  have HS59 : Hid (tb = true → 59 < 8 * l.length) := Lib.hid (fun h => by
    have h1 := HNS.out h
    have h3 := HT1.out h
    have h4 := HLN.out
    have h5 := HS0G.out h
    omega)
  clear HQ HNS
  have HG := Lib.hid (openL_get l)
  have HEL : Hid (∀ W, Below w1.heap.size w1 W → ∀ i, i < 8 * l.length → ∃ b off, o5 = some ⟨b, off, none⟩ ∧ W.cell? ⟨b, off + i, none⟩ = some (.int .i64 (b01 (bitAt l i) : Nat))) := Lib.hid (fun W hb i hi => by
    obtain ⟨ao', cap', e, _, _, _, hel⟩ := HSW.out W hb
    simp only [Value.slice.injEq] at e
    obtain ⟨rfl, _, _⟩ := e
    obtain ⟨b, off, e2, hc⟩ := hel i _ (HG.out i hi)
    exact ⟨b, off, e2, by simpa using hc 0 _ rfl⟩)
  have c2 := (cell_of_block (i := 2) HC3.out).trans rfl
  have f2 := froz_of_block (i := 2) HC3.out
  have hlC := lt_of_blk HC3.out
  clear r0 g0 r1 g1 r2 g2 r3 g3 r4 g4 r5 g5
  go_upto_region 19 with (fail)
  go_cut [80] (fun s80 wc => s80 = .bool nw ∧ Aside (wc.heap[C]? = some (boxC ⟨k, 0, nw, 0, 0, false⟩)) ∧ Aside (wc.heap[w.heap.size]? = some (boxC zeroC)) ∧ Aside (Below w.heap.size w wc) ∧ Aside (Below w1.heap.size w1 wc))
  case first =>
    have HFIN : Hid (∀ t, t = nw → (((w3.setCell ⟨C, 2, none⟩ (.bool t)).heap[C]? = some (boxC ⟨k, 0, nw, 0, 0, false⟩)) ∧ ((w3.setCell ⟨C, 2, none⟩ (.bool t)).heap[w.heap.size]? = some (boxC zeroC)) ∧ (Below w.heap.size w (w3.setCell ⟨C, 2, none⟩ (.bool t))) ∧ (Below w1.heap.size w1 (w3.setCell ⟨C, 2, none⟩ (.bool t))))) := Lib.hid (fun t ht => by
      subst ht
      refine ⟨(heap_setCell_same _ C 2 _ _ _ HC3.out).trans rfl, (Below.heap_setCell _ ⟨C, 2, none⟩ _ w.heap.size (fun e => hCR e.symm)).trans HK3.out, HB3.out.setCell hCw _, H13.out.setCell (by show w1.heap.size ≤ C; rw [HCE.out]; exact Nat.le_refl _) _⟩)
    cases tb
    · have hnw : Hid (false = nw) := Lib.hid (by rw [HNW.out]; rfl)
      go_wp2
      go_meet
      exact ⟨by rw [← hnw.out], HFIN.out _ hnw.out⟩
    · have h59 := HS59.out rfl
      have h59z : (59 : Int) < (LN : Int) := by have := HLE.out; omega
      obtain ⟨b5, off5, rfl, q5⟩ := HEL.out w3 H13.out 59 h59
      obtain ⟨t, ht⟩ : ∃ t, t = bitAt l 59 := ⟨_, rfl⟩
      rw [← ht] at q5
      have hnw : Hid (t = nw) := Lib.hid (by rw [HNW.out, ht]; rfl)
      clear ht
      cases t
      · have hq : ((b01 false : Nat) : Int) = 0 := rfl
        rw [hq] at q5
        clear hq
        go_wp2
        go_meet
        exact ⟨by rw [← hnw.out], HFIN.out _ hnw.out⟩
      · have hq : ((b01 true : Nat) : Int) = 1 := rfl
        rw [hq] at q5
        clear hq
        go_wp2
        go_meet
        exact ⟨by rw [← hnw.out], HFIN.out _ hnw.out⟩
  obtain ⟨rfl, HC4, HK4, HB4, H14⟩ := hcut
  obtain ⟨w4, rfl⟩ : ∃ w4, w4 = wc := ⟨_, rfl⟩
  have HC4 := Lib.hid HC4.out
  have HK4 := Lib.hid HK4.out
  have HB4 := Lib.hid HB4.out
  have H14 := Lib.hid H14.out
  clear c2 f2 hlC hlR
  have c0 := (cell_of_block (i := 0) HC4.out).trans rfl
  have c2 := (cell_of_block (i := 2) HC4.out).trans rfl
  have hlC := lt_of_blk HC4.out
  go_wp2_with fail
  refine (longR_any k nw hk3 _).mono ?_
  rintro e w5 ⟨rfl, hb⟩
  have HB5 := Lib.hid (HB4.out.thru hb)
  have H15 := Lib.hid (H14.out.thru hb)
  have HK5 := Lib.hid ((hb.block _ (lt_of_blk HK4.out)).trans HK4.out)
  have HC5 := Lib.hid ((hb.block _ (lt_of_blk HC4.out)).trans HC4.out)
  have HENL := Lib.hid (fun (h : n = sizeC k nw) => endC_le hk3 h)
  clear hb c0 c2 hlC
  have hlR := lt_of_blk HK5.out
  have r0 := (cell_of_block (i := 0) HK5.out).trans rfl
  have g0 := froz_of_block (i := 0) HK5.out
  have r1 := (cell_of_block (i := 1) HK5.out).trans rfl
  have g1 := froz_of_block (i := 1) HK5.out
  have r2 := (cell_of_block (i := 2) HK5.out).trans rfl
  have g2 := froz_of_block (i := 2) HK5.out
  have r3 := (cell_of_block (i := 3) HK5.out).trans rfl
  have g3 := froz_of_block (i := 3) HK5.out
  have r4 := (cell_of_block (i := 4) HK5.out).trans rfl
  have g4 := froz_of_block (i := 4) HK5.out
  have r5 := (cell_of_block (i := 5) HK5.out).trans rfl
  have g5 := froz_of_block (i := 5) HK5.out
  generalize sizeC k nw = S at HR1 HENL HSN
  by_cases hnS : n = S
  case neg =>
    have hz : ((n : Int) != (S : Int)) = true := by simp; omega
    have hv : Hid (A = ⟨zeroC, 1, 10⟩) := Lib.hid (by
      rw [HV5.out, HBD.out, HR1.out, if_pos]
      rw [Bool.and_eq_false_iff]
      right
      rw [beq_eq_false_iff_ne]
      exact hnS)
    go_upto_region 21 with (fail)
    repeat (first | go_values | go_skip | go_guarded | go_step | go_upon)
    exact bodyPost_ret (v := .tuple #[.agg #[.int .i64 0, .int .i64 0, .bool false, .int .i64 0, .int .i64 0, .bool false], .int .i64 (1), .int .i64 10]) (by simp [results, Try.results17, go_sem, r0, r1, r2, r3, r4, r5, hlR]) rfl (RdP.mk hv.out rfl ((((((HB5.out.setCell (Nat.le_refl _) _).setCell (Nat.le_refl _) _).setCell (Nat.le_refl _) _).setCell (Nat.le_refl _) _).setCell (Nat.le_refl _) _).setCell (Nat.le_refl _) _))
  have hend := HENL.out hnS
  have HV6 : Hid (A = if numB l 20 4 ≠ 15 then ⟨zeroC, 2, 10⟩ else fillC l (endC k nw) (8 * (n - 1) - endC k nw)) := Lib.hid (by
    rw [HV5.out, HBD.out, HR1.out, if_neg]
    rw [Bool.and_eq_false_iff, not_or]
    exact ⟨by simp; exact hk3, by simp; exact hnS⟩)
  subst hnS
  have hzz : ((n : Int) != (n : Int)) = false := by simp
  clear HENL HBD HR1 HSN
  go_wp2_with fail
  refine (numberL 20 4 20 4 rfl rfl _ l _ (HSW.out _ H15.out) (by have := HLN.out; omega) (by omega) h300).mono ?_
  rintro e w6 ⟨rfl, rfl⟩
  generalize numB l 20 4 = m4 at HV6
  by_cases h15 : m4 = 15
  case neg =>
    have hz : ((m4 : Int) != 15) = true := by simp; omega
    have hv : Hid (A = ⟨zeroC, 2, 10⟩) := Lib.hid (by rw [HV6.out, if_pos h15])
    go_upto_region 23 with (fail)
    repeat (first | go_values | go_skip | go_guarded | go_step | go_upon)
    exact bodyPost_ret (v := .tuple #[.agg #[.int .i64 0, .int .i64 0, .bool false, .int .i64 0, .int .i64 0, .bool false], .int .i64 (2), .int .i64 10]) (by simp [results, Try.results17, go_sem, r0, r1, r2, r3, r4, r5, hlR]) rfl (RdP.mk hv.out rfl ((((((HB5.out.setCell (Nat.le_refl _) _).setCell (Nat.le_refl _) _).setCell (Nat.le_refl _) _).setCell (Nat.le_refl _) _).setCell (Nat.le_refl _) _).setCell (Nat.le_refl _) _))
  have HV7 : Hid (A = fillC l (endC k nw) (8 * (n - 1) - endC k nw)) := Lib.hid (by rw [HV6.out, if_neg (fun h => h h15)])
  subst h15
  clear HV6 r0 g0 r1 g1 r2 g2 r3 g3 r4 g4 r5 g5 hlR
  have HEK := Lib.hid (HEN.out hk3)
  have HEVC : Hid (evC l k = if k = 0 then 0 else numB l 27 32) := Lib.hid rfl
  have HLEC : Hid (leC l k nw = if k = 1 then numB l (lastC nw + 1) 33 else 0) := Lib.hid rfl
  have HAUC : Hid (auC l k nw = ((k == 1) && bitAt l (lastC nw))) := Lib.hid rfl
  have HTIV := Lib.hid HTI.out
  clear HTI HCU HNW HEN
  generalize evC l k = ev at HTIV HEVC
  generalize tiC l k nw = ti at HTIV HTIC
  generalize leC l k nw = le at HTIV HLEC
  generalize auC l k nw = au at HTIV HAUC
  generalize endC k nw = E at HV7 HTIV HEK hend
  have hC1 : w1.heap.size ≤ C := by rw [HCE.out]; exact Nat.le_refl _
  have c0 := (cell_of_block (i := 0) HC5.out).trans rfl
  have c1 := (cell_of_block (i := 1) HC5.out).trans rfl
  have f1 := froz_of_block (i := 1) HC5.out
  have hlC := lt_of_blk HC5.out
  have hn5 : 5 ≤ n := by omega
  go_upto_if 96 with (fail)
  go_cut [9] (fun s9 wc => s9 = .int .i64 (at1 k : Nat) ∧ Aside (HoldC w w1 C ⟨k, ev, nw, 0, 0, false⟩ wc))
  case first =>
    by_cases hk0 : k = 0
    · have hd : ((k : Int) != 0) = false := by simp; omega
      have hv : Hid (ev = 0) := Lib.hid (by rw [HEVC.out, if_pos hk0])
      have ha : Hid (at1 k = 27) := Lib.hid (by unfold at1; rw [if_pos hk0])
      clear hk0
      go_wp2
      go_meet
      exact ⟨by rw [ha.out]; rfl, (by rw [hv.out]; exact ⟨HC5.out, HK5.out, HB5.out, H15.out⟩ : HoldC w w1 C ⟨k, ev, nw, 0, 0, false⟩ w5)⟩
    · have hd : ((k : Int) != 0) = true := by simp; omega
      have hv : Hid (numB l 27 32 = ev) := Lib.hid (by rw [HEVC.out, if_neg hk0])
      have ha : Hid (at1 k = 59) := Lib.hid (by unfold at1; rw [if_neg hk0])
      have HST := Lib.hid ((show HoldC w w1 C ⟨k, 0, nw, 0, 0, false⟩ w5 from ⟨HC5.out, HK5.out, HB5.out, H15.out⟩).st hCR hCw hC1 1 (.int .i64 ev) ⟨k, ev, nw, 0, 0, false⟩ rfl)
      clear hk0
      go_wp2_with fail
      refine (numberL 27 32 27 32 rfl rfl _ l _ (HSW.out _ H15.out) (by have := HLN.out; omega) (by omega) h300).mono ?_
      rintro e w6 ⟨rfl, rfl⟩
      rw [hv.out]
      go_wp2
      go_meet
      exact ⟨by rw [ha.out]; rfl, HST.out⟩
  obtain ⟨rfl, HH6⟩ := hcut
  obtain ⟨w6, rfl⟩ : ∃ w6, w6 = wc := ⟨_, rfl⟩
  have HH6 := Lib.hid HH6.out
  clear c0 c1 f1 hlC HC5 HK5 HB5 H15
  have c2 := (cell_of_block (i := 2) HH6.out.1).trans rfl
  have c3 := (cell_of_block (i := 3) HH6.out.1).trans rfl
  have f3 := froz_of_block (i := 3) HH6.out.1
  have hlC := lt_of_blk HH6.out.1
  have hat2 : at2 k nw ≤ E := by rw [HEK.out]; split <;> omega
  go_upto_if 103 with (fail)
  go_cut [9] (fun s9 wc => s9 = .int .i64 (at2 k nw : Nat) ∧ Aside (HoldC w w1 C ⟨k, ev, nw, ti, 0, false⟩ wc))
  case first =>
    cases tb
    · have hv : Hid (ti = 0) := Lib.hid (by rw [HTIC.out]; rfl)
      have ha : Hid (at2 k nw = at1 k) := Lib.hid HA2.out
      go_wp2
      go_meet
      exact ⟨by rw [ha.out], (by rw [hv.out]; exact HH6.out : HoldC w w1 C ⟨k, ev, nw, ti, 0, false⟩ w6)⟩
    · have hk12 := HT1.out rfl
      have h1 : Hid (at1 k = 59) := Lib.hid (by unfold at1; rw [if_neg (by omega)])
      rw [h1.out]
      cases nw
      · have hv : Hid (numB l 60 33 = ti) := Lib.hid (by rw [HTIC.out]; rfl)
        have ha : Hid (at2 k false = 93) := Lib.hid (by rw [HA2.out]; rfl)
        have HST := Lib.hid (HH6.out.st hCR hCw hC1 3 (.int .i64 ti) ⟨k, ev, false, ti, 0, false⟩ rfl)
        rw [ha.out] at hat2
        go_wp2_with fail
        refine (numberL _ 33 60 33 (by omega) rfl _ l _ (HSW.out _ HH6.out.2.2.2) (by have := HLN.out; omega) (by omega) h300).mono ?_
        rintro e w7 ⟨rfl, rfl⟩
        rw [hv.out]
        go_wp2
        go_meet
        exact ⟨by rw [ha.out]; rfl, HST.out⟩
      · have hv : Hid (ti = 0) := Lib.hid (by rw [HTIC.out]; rfl)
        have ha : Hid (at2 k true = 60) := Lib.hid (by rw [HA2.out]; rfl)
        go_wp2
        go_meet
        exact ⟨by rw [ha.out]; rfl, (by rw [hv.out]; exact HH6.out : HoldC w w1 C ⟨k, ev, true, ti, 0, false⟩ w6)⟩
  obtain ⟨rfl, HH7⟩ := hcut
  obtain ⟨w7, rfl⟩ : ∃ w7, w7 = wc := ⟨_, rfl⟩
  have HH7 := Lib.hid HH7.out
  clear c2 c3 f3 hlC HH6
  have c0 := (cell_of_block (i := 0) HH7.out.1).trans rfl
  have c4 := (cell_of_block (i := 4) HH7.out.1).trans rfl
  have c5 := (cell_of_block (i := 5) HH7.out.1).trans rfl
  have f4 := froz_of_block (i := 4) HH7.out.1
  have f5 := froz_of_block (i := 5) HH7.out.1
  have hlC := lt_of_blk HH7.out.1
  have HLB : Hid (k = 1 → at2 k nw = lastC nw) := Lib.hid (fun h => by rw [HA2.out, HTB.out, h]; rfl)
  go_upto_if 117 with (fail)
  go_cut [9] (fun s9 wc => s9 = .int .i64 (E : Nat) ∧ Aside (HoldC w w1 C ⟨k, ev, nw, ti, le, au⟩ wc))
  case first =>
    by_cases hk1 : k = 1
    · have hd : ((k : Int) == 1) = true := by rw [beq_iff_eq]; omega
      have ha := HLB.out hk1
      obtain ⟨a, haa⟩ : ∃ a, a = at2 k nw := ⟨_, rfl⟩
      rw [← haa] at ha ⊢
      have HEA : Hid (E = a + 34) := Lib.hid (by rw [HEK.out, if_pos hk1, haa])
      have hEA := HEA.out
      have hv : Hid (numB l (a + 1) 33 = le) := Lib.hid (by rw [HLEC.out, if_pos hk1, ha])
      have hu : Hid (bitAt l a = au) := Lib.hid (by rw [HAUC.out, hk1, ha]; rfl)
      have hal : a < 8 * l.length := by have := HLN.out; omega
      have halz : (a : Int) < (LN : Int) := by have := HLE.out; omega
      obtain ⟨b5, off5, rfl, q5⟩ := HEL.out w7 HH7.out.2.2.2 a hal
      rw [hu.out] at q5
      have hq : (((b01 au : Nat) : Int) == 1) = au := by cases au <;> rfl
      have HST := Lib.hid ((HH7.out.st hCR hCw hC1 5 (.bool au) ⟨k, ev, nw, ti, 0, au⟩ rfl).st hCR hCw hC1 4 (.int .i64 le) ⟨k, ev, nw, ti, le, au⟩ rfl)
      have HNB := Lib.hid (fun W (hb : Below w1.heap.size w1 W) => numberL ((a : Int) + 1) 33 (a + 1) 33 (by omega) rfl W l _ (HSW.out W hb) (by have := HLN.out; omega) (by omega) h300)
      rw [hv.out] at HNB
      have HH8 := HH7.out.2.2.2
      clear haa ha hk1 hEA hv hu hal
      have HHD := Lib.hid (HST.out.drew)
      have hab : (a : Int) ≤ 5000 := by have := HLE.out; omega
      have hab0 : (0 : Int) ≤ (a : Int) := by omega
      have hw1 : IntKind.i64.wrap ((a : Int) + 1) = (a : Int) + 1 := IntWalk.i64_in _ (by have := HLE.out; omega)
      have hea : (E : Int) = (a : Int) + 34 := by have := HEA.out; omega
      have HEE := Lib.hid hea
      clear hea
      go_wp2_with fail
      go_still_tail 10, (by kernel_rfl)
      refine wpStill_step (fun K hK => ?_)
      go_simp
      refine ⟨.int .i64 (le : Nat), (HNB.out w7.drew HH8.drew).mono (fun _ _ h => ⟨h.1, h.2.symm⟩), hK _ ?_⟩
      clear hK K
      repeat still_step
      refine wpStill_nil ?_
      change wpList _ _ _ _ _ w7.drew
      go_wp2
      go_meet
      exact ⟨by rw [HEE.out], HHD.out⟩
    · have hd : ((k : Int) == 1) = false := by rw [beq_eq_false_iff_ne]; omega
      have hv : Hid (le = 0) := Lib.hid (by rw [HLEC.out, if_neg hk1])
      have hu : Hid (au = false) := Lib.hid (by rw [HAUC.out, beq_eq_false_iff_ne.2 hk1]; rfl)
      have ha : Hid (E = at2 k nw) := Lib.hid (by rw [HEK.out, if_neg hk1])
      clear hk1
      go_wp2
      go_meet
      exact ⟨by rw [ha.out], (by rw [hv.out, hu.out]; exact HH7.out : HoldC w w1 C ⟨k, ev, nw, ti, le, au⟩ w7)⟩
  obtain ⟨rfl, HH8⟩ := hcut
  obtain ⟨w8, rfl⟩ : ∃ w8, w8 = wc := ⟨_, rfl⟩
  have HH8 := Lib.hid HH8.out
  clear c0 c4 c5 f4 f5 hlC HH7 hat2
  have HX0 := Lib.hid (fun X (h1 : bitAt l X = true) (h2 : 0 < 8 * (n - 1) - X) => badAt_next h1 h2)
  have HX1 := Lib.hid (fun X (h1 : bitAt l X = false) (h2 : 0 < 8 * (n - 1) - X) => badAt_hit h1 h2)
  have HTC : Hid (tailC l ⟨k, ev, nw, ti, le, au⟩ = if crc l ≠ 0 then ⟨zeroC, 0, 15⟩ else if checkC ⟨k, ev, nw, ti, le, au⟩ ≠ 0 then ⟨zeroC, 0, checkC ⟨k, ev, nw, ti, le, au⟩⟩ else ⟨⟨k, ev, nw, ti, le, au⟩, 0, 0⟩) := Lib.hid rfl
  have HV8 : Hid (A = fillO (tailC l ⟨k, ev, nw, ti, le, au⟩) (badAt l E (8 * (n - 1) - E))) := Lib.hid (by rw [HV7.out, HTIV.out])
  clear HV7 HTIV
  generalize tailC l ⟨k, ev, nw, ti, le, au⟩ = TA at HTC HV8
  have HCK := Lib.hid (fun W => checkCueR_any ⟨k, ev, nw, ti, le, au⟩ W)
  generalize checkC ⟨k, ev, nw, ti, le, au⟩ = FF at HTC HCK
  have HSU := Lib.hid (fun W (h : Sl W 1 encU (.slice (some ⟨b, off, none⟩) l.length cap) l) => sumR_any W l _ h)
  have hlt := crc_lt l
  generalize crc l = S at HTC HSU hlt
  clear HEVC HTIC HLEC HAUC HEK HTB HT1 HT2 HA2 HLB
  have HLNz : (l.length : Int) = 3 + (n : Int) := by have := HLN.out; omega
  have HLNh := Lib.hid HLNz
  clear HLNz
  go_wp2
  go_loopg [9] (8 * n + 1) (fun gg s9 wq => ∃ X : Nat, E ≤ X ∧ X ≤ 8 * (n - 1) ∧ 8 * (n - 1) - X ≤ gg ∧ s9 = .int .i64 X ∧ Aside (badAt l E (8 * (n - 1) - E) = badAt l X (8 * (n - 1) - X)) ∧ w8 = wq)
  case atStart => exact ⟨E, Nat.le_refl _, hend, by omega, rfl, (show _ = _ from rfl), rfl⟩
  obtain ⟨X, hX1, hX2, hg, rfl, HX, rfl⟩ := hrel
  have HX := Lib.hid HX.out
  by_cases hlt8 : X < 8 * (n - 1)
  · have hz8 : (X : Int) < 8 * ((l.length : Int) - 4) := by have := HLNh.out; omega
    have hxl : X < 8 * l.length := by have := HLN.out; omega
    have hxz : (X : Int) < (LN : Int) := by have := HLE.out; omega
    obtain ⟨b5, off5, rfl, q5⟩ := HEL.out w8 HH8.out.2.2.2 X hxl
    obtain ⟨t, ht⟩ : ∃ t, t = bitAt l X := ⟨_, rfl⟩
    rw [← ht] at q5
    cases t
    · have hv : Hid (A = ⟨zeroC, (X / 8 : Nat), 10⟩) := Lib.hid (by rw [HV8.out, HX.out, HX1.out X ht.symm (by omega)]; rfl)
      have hdz : (((X / 8 : Nat) : Int)) = (X : Int) / 8 := by omega
      have HV9 : Hid (A = ⟨zeroC, (X : Int) / 8, 10⟩) := Lib.hid (by rw [← hdz]; exact hv.out)
      have hq : ((b01 false : Nat) : Int) = 0 := rfl
      rw [hq] at q5
      have hlR := lt_of_blk HH8.out.2.1
      have r0 := (cell_of_block (i := 0) HH8.out.2.1).trans rfl
      have g0 := froz_of_block (i := 0) HH8.out.2.1
      have r1 := (cell_of_block (i := 1) HH8.out.2.1).trans rfl
      have g1 := froz_of_block (i := 1) HH8.out.2.1
      have r2 := (cell_of_block (i := 2) HH8.out.2.1).trans rfl
      have g2 := froz_of_block (i := 2) HH8.out.2.1
      have r3 := (cell_of_block (i := 3) HH8.out.2.1).trans rfl
      have g3 := froz_of_block (i := 3) HH8.out.2.1
      have r4 := (cell_of_block (i := 4) HH8.out.2.1).trans rfl
      have g4 := froz_of_block (i := 4) HH8.out.2.1
      have r5 := (cell_of_block (i := 5) HH8.out.2.1).trans rfl
      have g5 := froz_of_block (i := 5) HH8.out.2.1
      clear ht hdz hv hq
      have hv := HV9
      go_upto_region 39 with (fail)
      repeat (first | go_values | go_skip | go_guarded | go_step | go_upon)
      exact bodyPost_ret (v := .tuple #[.agg #[.int .i64 0, .int .i64 0, .bool false, .int .i64 0, .int .i64 0, .bool false], .int .i64 ((X : Int) / 8), .int .i64 10]) (by simp [results, Try.results17, go_sem, r0, r1, r2, r3, r4, r5, hlR]) rfl (RdP.mk hv.out rfl ((((((HH8.out.2.2.1.setCell (Nat.le_refl _) _).setCell (Nat.le_refl _) _).setCell (Nat.le_refl _) _).setCell (Nat.le_refl _) _).setCell (Nat.le_refl _) _).setCell (Nat.le_refl _) _))
    · have hn1 := HX0.out X ht.symm (by omega)
      have HX2 : Hid (badAt l E (8 * (n - 1) - E) = badAt l (X + 1) (8 * (n - 1) - (X + 1))) := Lib.hid (by rw [HX.out, hn1]; rfl)
      have hq : ((b01 true : Nat) : Int) = 1 := rfl
      rw [hq] at q5
      clear ht hn1 hq
      go_wp2
      go_roundg (8 * (n - 1) - (X + 1))
      case measure => omega
      case rel => exact ⟨X + 1, by omega, by omega, by omega, by go_num, HX2.out, rfl⟩
  · have hz8 : ¬ (X : Int) < 8 * ((l.length : Int) - 4) := by have := HLNh.out; omega
    have HVT : Hid (A = TA) := Lib.hid (by
      rw [HV8.out, HX.out, show 8 * (n - 1) - X = 0 by omega]
      rfl)
    have HS8 := Lib.hid (HL.out.below HH8.out.2.2.1 (Nat.le_refl _))
    have hlR := lt_of_blk HH8.out.2.1
    have hlC := lt_of_blk HH8.out.1
    have r0 := (cell_of_block (i := 0) HH8.out.2.1).trans rfl
    have g0 := froz_of_block (i := 0) HH8.out.2.1
    have r1 := (cell_of_block (i := 1) HH8.out.2.1).trans rfl
    have g1 := froz_of_block (i := 1) HH8.out.2.1
    have r2 := (cell_of_block (i := 2) HH8.out.2.1).trans rfl
    have g2 := froz_of_block (i := 2) HH8.out.2.1
    have r3 := (cell_of_block (i := 3) HH8.out.2.1).trans rfl
    have g3 := froz_of_block (i := 3) HH8.out.2.1
    have r4 := (cell_of_block (i := 4) HH8.out.2.1).trans rfl
    have g4 := froz_of_block (i := 4) HH8.out.2.1
    have r5 := (cell_of_block (i := 5) HH8.out.2.1).trans rfl
    have g5 := froz_of_block (i := 5) HH8.out.2.1
    have c0 := (cell_of_block (i := 0) HH8.out.1).trans rfl
    have c1 := (cell_of_block (i := 1) HH8.out.1).trans rfl
    have c2 := (cell_of_block (i := 2) HH8.out.1).trans rfl
    have c3 := (cell_of_block (i := 3) HH8.out.1).trans rfl
    have c4 := (cell_of_block (i := 4) HH8.out.1).trans rfl
    have c5 := (cell_of_block (i := 5) HH8.out.1).trans rfl
    go_wp2_with fail
    refine (HSU.out _ HS8.out).mono ?_
    rintro e w9 ⟨rfl, rfl⟩
    cases hs : ((S : Int) != 0)
    case true =>
      have hv : Hid (A = ⟨zeroC, 0, 15⟩) := Lib.hid (by rw [HVT.out, HTC.out, if_pos (by intro e; rw [e] at hs; simp at hs)])
      go_upto_region 41 with (fail)
      repeat (first | go_values | go_skip | go_guarded | go_step | go_upon)
      exact bodyPost_ret (v := .tuple #[.agg #[.int .i64 0, .int .i64 0, .bool false, .int .i64 0, .int .i64 0, .bool false], .int .i64 (0), .int .i64 15]) (by simp [results, Try.results17, go_sem, r0, r1, r2, r3, r4, r5, hlR]) rfl (RdP.mk hv.out rfl ((((((HH8.out.2.2.1.setCell (Nat.le_refl _) _).setCell (Nat.le_refl _) _).setCell (Nat.le_refl _) _).setCell (Nat.le_refl _) _).setCell (Nat.le_refl _) _).setCell (Nat.le_refl _) _))
    case false =>
      have HT9 : Hid (TA = if FF ≠ 0 then ⟨zeroC, 0, FF⟩ else ⟨⟨k, ev, nw, ti, le, au⟩, 0, 0⟩) := Lib.hid (by rw [HTC.out, if_neg (by simp at hs; omega)])
      go_wp2_with fail
      refine (HCK.out _).mono ?_
      rintro e w10 ⟨rfl, hb10⟩
      have HB10 := Lib.hid (HH8.out.2.2.1.thru hb10)
      have HK10 := Lib.hid ((hb10.block _ hlR).trans HH8.out.2.1)
      have HC10 := Lib.hid ((hb10.block _ hlC).trans HH8.out.1)
      clear r0 g0 r1 g1 r2 g2 r3 g3 r4 g4 r5 g5 c0 c1 c2 c3 c4 c5 hlR hlC hb10
      have hlR := lt_of_blk HK10.out
      have hlC := lt_of_blk HC10.out
      have r0 := (cell_of_block (i := 0) HK10.out).trans rfl
      have g0 := froz_of_block (i := 0) HK10.out
      have r1 := (cell_of_block (i := 1) HK10.out).trans rfl
      have g1 := froz_of_block (i := 1) HK10.out
      have r2 := (cell_of_block (i := 2) HK10.out).trans rfl
      have g2 := froz_of_block (i := 2) HK10.out
      have r3 := (cell_of_block (i := 3) HK10.out).trans rfl
      have g3 := froz_of_block (i := 3) HK10.out
      have r4 := (cell_of_block (i := 4) HK10.out).trans rfl
      have g4 := froz_of_block (i := 4) HK10.out
      have r5 := (cell_of_block (i := 5) HK10.out).trans rfl
      have g5 := froz_of_block (i := 5) HK10.out
      have c0 := (cell_of_block (i := 0) HC10.out).trans rfl
      have c1 := (cell_of_block (i := 1) HC10.out).trans rfl
      have c2 := (cell_of_block (i := 2) HC10.out).trans rfl
      have c3 := (cell_of_block (i := 3) HC10.out).trans rfl
      have c4 := (cell_of_block (i := 4) HC10.out).trans rfl
      have c5 := (cell_of_block (i := 5) HC10.out).trans rfl
      cases hf : (FF != 0)
      case true =>
        have hv : Hid (A = ⟨zeroC, 0, FF⟩) := Lib.hid (by rw [HVT.out, HT9.out, if_pos (by simpa using hf)])
        go_upto_region 44 with (fail)
        repeat (first | go_values | go_skip | go_guarded | go_step | go_upon)
        exact bodyPost_ret (v := .tuple #[.agg #[.int .i64 0, .int .i64 0, .bool false, .int .i64 0, .int .i64 0, .bool false], .int .i64 (0), .int .i64 FF]) (by simp [results, Try.results17, go_sem, r0, r1, r2, r3, r4, r5, hlR]) rfl (RdP.mk hv.out rfl ((((((HB10.out.setCell (Nat.le_refl _) _).setCell (Nat.le_refl _) _).setCell (Nat.le_refl _) _).setCell (Nat.le_refl _) _).setCell (Nat.le_refl _) _).setCell (Nat.le_refl _) _))
      case false =>
        have hv : Hid (A = ⟨⟨k, ev, nw, ti, le, au⟩, 0, 0⟩) := Lib.hid (by rw [HVT.out, HT9.out, if_neg (by simpa using hf)])
        go_upto_region 45 with (fail)
        repeat (first | go_values | go_skip | go_guarded | go_step | go_upon)
        exact bodyPost_ret (v := .tuple #[.agg #[.int .i64 k, .int .i64 ev, .bool nw, .int .i64 ti, .int .i64 le, .bool au], .int .i64 0, .int .i64 0]) (by simp [results, Try.results17, go_sem, r0, r1, r2, r3, r4, r5, hlR]) rfl (RdP.mk hv.out rfl ((((((HB10.out.setCell (Nat.le_refl _) _).setCell (Nat.le_refl _) _).setCell (Nat.le_refl _) _).setCell (Nat.le_refl _) _).setCell (Nat.le_refl _) _).setCell (Nat.le_refl _) _))
end Go.Proofs.Ytkcnnfgdplccoaa

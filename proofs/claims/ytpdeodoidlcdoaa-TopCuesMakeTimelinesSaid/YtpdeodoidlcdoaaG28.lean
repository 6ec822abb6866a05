/- sizeOfNow and rightSize. -/
import Derived.Test.YtpdeodoidlcdoaaG27
namespace Go.Proofs.Ytpdeodoidlcdoaa
open Go.RowKit

theorem getL (m : Int) (many : Nat) (hm' : m = many) (w : World) (P i : Nat) (v : Value) (l : List UInt8) (hb : BR w P v i) (hl : Sl w 1 encU v l) (ho : offB P v) (hi : i + many ≤ 8 * l.length) (hm : many ≤ 33) (hn : l.length ≤ 300) :
    Calls Try.prog 18 #[.pointer (some ⟨P, 0, none⟩), .int .i64 m] w (GetP w P v (i + many) (numB l i many)) := by
  subst hm'
  exact get_any w P i many v l hb hl ho hi hm hn
theorem numB_one (l : List UInt8) (a : Nat) : numB l a 1 = b01 (bitAt l a) := by simp [numB]
theorem BR.set {w : World} {P i : Nat} {v : Value} (h : BR w P v i) (j : Nat) {z : Int} (hz : z = j) : BR (w.setCell ⟨P, 1, none⟩ (.int .i64 z)) P v j := by
  unfold BR
  rw [heap_setCell_same _ P 1 _ _ (.int .i64 z) h, hz]
  rfl

def nowSz (b : Bool) : Int := if b = true then 0 else 4
set_option maxRecDepth 100000 in
set_option maxHeartbeats 4000000 in
theorem sizeOfNow_any (w : World) (P i : Nat) (v : Value) (l : List UInt8) (hb : BR w P v i) (hl : Sl w 1 encU v l) (ho : offB P v) (hi : i + 32 + 1 ≤ 8 * l.length) (hn : l.length ≤ 300) :
    Calls Try.prog 32 #[.pointer (some ⟨P, 0, none⟩)] w fun e w' => e = .returned (.int .i64 (nowSz (bitAt l (i + 32)))) ∧ Onl P w w' := by
  have HB := Lib.hid hb
  have HL := Lib.hid hl
  have HO := Lib.hid ho
  have c1 := (cell_of_block (i := 1) hb).trans rfl
  have f1 := froz_of_block (i := 1) hb
  have hP := lt_of_blk hb
  have HB1 := Lib.hid (BR.set hb (i + 32) (z := (i : Int) + 32) (by omega))
  have HO1 := Lib.hid (Onl.set P w 1 (.int .i64 ((i : Int) + 32)))
  clear hb hl ho
  go_enter Try.func32, Try.ntmps32
  go_wp2_with fail
  refine (getL 1 1 rfl _ P (i + 32) v l HB1.out (HL.out.onl HO.out HO1.out) HO.out hi (by omega) hn).mono ?_
  rintro e w2 ⟨rfl, hb2, ho2⟩
  rw [numB_one]
  have HW2 := Lib.hid (HO1.out.trans ho2)
  clear hb2 ho2
  obtain ⟨t, ht⟩ : ∃ t, t = bitAt l (i + 32) := ⟨_, rfl⟩
  rw [← ht]
  have HT : Hid (nowSz (bitAt l (i + 32)) = nowSz t) := Lib.hid (by rw [ht])
  clear ht
  cases t
  · have hv : Hid (4 = nowSz (bitAt l (i + 32))) := Lib.hid HT.out.symm
    go_wp2
    go_ret
    exact ⟨ret_int hv.out, HW2.out⟩
  · have hv : Hid (0 = nowSz (bitAt l (i + 32))) := Lib.hid HT.out.symm
    go_wp2
    go_ret
    exact ⟨ret_int hv.out, HW2.out⟩

theorem rightC_of {l : List UInt8} {n : Nat} (k : Nat) (hk : kindC l = k) : rightC l n = (decide (k ≤ 3) && (n == sizeC k (timedB k && bitAt l 59))) := by unfold rightC nowC; rw [hk]

set_option maxRecDepth 100000 in
set_option maxHeartbeats 4000000 in
theorem rightSize_any (w : World) (v : Value) (l : List UInt8) (n : Nat) (hl : Sl w 1 encU v l) (hn : l.length = 3 + n) (h3 : l.length ≤ 300) :
    Calls Try.prog 16 #[v, .int .i64 n] w fun e w' => e = .returned (.bool (rightC l n)) ∧ Below w.heap.size w w' := by
  have hne : l ≠ [] := fun e => by rw [e] at hn; simp at hn; omega
  have HO := Lib.hid (hl.offE (P := w.heap.size) (fun _ => by simp [encU]) (Nat.le_refl _) hne)
  have HL := Lib.hid hl
  obtain ⟨ao, cap, rfl, _, _, _, _⟩ := hl
  by_cases h5 : n < 5
  · have hz : (n : Int) < 5 := by omega
    have hv : Hid (false = rightC l n) := Lib.hid (by
      unfold rightC sizeC
      have := b01_lt
      symm
      rw [Bool.and_eq_false_iff]
      right
      rw [beq_eq_false_iff_ne]
      split
      · omega
      split
      · omega
      split
      · split <;> omega
      · split <;> omega)
    clear hn
    go_enter Try.func16, Try.ntmps16
    go_wp2
    go_ret
    exact ⟨ret_bool hv.out, Below.refl _ _⟩
  have hz : ¬ (n : Int) < 5 := by omega
  have hnl := Lib.hid hn
  obtain ⟨w1, hw1⟩ : ∃ w1, w1 = w.alloc (.cells #[.slice ao l.length cap, .int .i64 24] 57) := ⟨_, rfl⟩
  have HB1 : Hid (BR w1 w.heap.size (.slice ao l.length cap) 24) := Lib.hid (by rw [hw1]; exact block_new w _)
  have HW1 : Hid (Below w.heap.size w w1) := Lib.hid (by rw [hw1]; exact (Below.refl _ _).alloc (Nat.le_refl _) _)
  have HL1 := Lib.hid (HL.out.below HW1.out (Nat.le_refl _))
  have hge : 8 ≤ l.length := by omega
  have HK := Lib.hid (fun (k : Nat) (h : kindC l = k) => rightC_of (n := n) k h)
  generalize rightC l n = RC at HK ⊢
  clear hn
  have HW := Lib.hid hw1
  clear hw1
  go_enter Try.func16, Try.ntmps16
  go_wp2_with fail
  rw [← HW.out]
  refine (getL 3 3 rfl _ _ 24 _ l HB1.out HL1.out HO.out (by omega) (by omega) h3).mono ?_
  rintro e w2 ⟨rfl, hb2, ho2⟩
  have HB2 := Lib.hid hb2
  have HL2 := Lib.hid (HL1.out.onl HO.out ho2)
  have HW2 := Lib.hid (HW1.out.trans (ho2.toBelow HW1.out.size (Nat.le_refl _)))
  have hk8 : kindC l < 8 := numB_lt l 24 3
  have HKE : Hid (kindC l = numB l 24 3) := Lib.hid rfl
  clear hb2 ho2
  obtain ⟨k, hk⟩ : ∃ k, k = kindC l := ⟨_, rfl⟩
  rw [← hk] at hk8 HKE
  rw [← HKE.out]
  have HR := Lib.hid (HK.out k hk.symm)
  have HN : Hid (27 + 32 + 1 ≤ 8 * l.length) := Lib.hid (by omega)
  have hS := sizeOfNow_any w2 w.heap.size 27 _ l HB2.out HL2.out HO.out HN.out h3
  simp only [Nat.reduceAdd] at hS
  generalize bitAt l 59 = nw at hS HR
  have HS := Lib.hid hS
  clear hk HK HKE hge HN hS
  by_cases h4 : 4 ≤ k
  · have hv : Hid (false = RC) := Lib.hid (by rw [HR.out]; simp; omega)
    have e0 : ((k : Int) == 0) = false := by rw [beq_eq_false_iff_ne]; omega
    have e1 : ((k : Int) == 1) = false := by rw [beq_eq_false_iff_ne]; omega
    have e2 : ((k : Int) == 2) = false := by rw [beq_eq_false_iff_ne]; omega
    have e3 : ((k : Int) == 3) = false := by rw [beq_eq_false_iff_ne]; omega
    go_wp2
    go_ret
    exact ⟨ret_bool hv.out, HW2.out⟩
  have hk4 : k = 0 ∨ k = 1 ∨ k = 2 ∨ k = 3 := by omega
  clear h4 hk8
  rcases hk4 with rfl | rfl | rfl | rfl
  · cases h : (n == 5)
    · have hd : ((n : Int) == 5) = false := by rw [beq_eq_false_iff_ne] at h ⊢; omega
      have hv : Hid (false = RC) := Lib.hid (by rw [HR.out]; simp only [sizeC]; rw [if_pos trivial, h]; rfl)
      clear h
      go_wp2
      go_ret
      exact ⟨ret_bool hv.out, HW2.out⟩
    · have hd : ((n : Int) == 5) = true := by rw [beq_iff_eq] at h ⊢; omega
      have hv : Hid (true = RC) := Lib.hid (by rw [HR.out]; simp only [sizeC]; rw [if_pos trivial, h]; rfl)
      clear h
      go_wp2
      go_ret
      exact ⟨ret_bool hv.out, HW2.out⟩
  · by_cases h13 : n = 13
    · subst h13
      have hv : Hid ((nowSz nw == 0) = RC) := Lib.hid (by rw [HR.out]; cases nw <;> rfl)
      go_wp2_with fail
      refine HS.out.mono ?_
      rintro e w3 ⟨rfl, ho3⟩
      have HW3 := Lib.hid (HW2.out.trans (ho3.toBelow HW2.out.size (Nat.le_refl _)))
      clear ho3
      go_wp2
      go_ret
      exact ⟨ret_bool hv.out, HW3.out⟩
    by_cases h17 : n = 17
    · subst h17
      have hv : Hid ((nowSz nw == 4) = RC) := Lib.hid (by rw [HR.out]; cases nw <;> rfl)
      go_wp2_with fail
      refine HS.out.mono ?_
      rintro e w3 ⟨rfl, ho3⟩
      have HW3 := Lib.hid (HW2.out.trans (ho3.toBelow HW2.out.size (Nat.le_refl _)))
      clear ho3
      go_wp2
      go_ret
      exact ⟨ret_bool hv.out, HW3.out⟩
    have e0 : ((n : Int) == 13) = false := by rw [beq_eq_false_iff_ne]; omega
    have e1 : ((n : Int) == 17) = false := by rw [beq_eq_false_iff_ne]; omega
    have hv : Hid (false = RC) := Lib.hid (by rw [HR.out]; unfold sizeC; cases nw <;> simp [timedB] <;> first | assumption | omega)
    clear h13 h17
    go_wp2
    go_ret
    exact ⟨ret_bool hv.out, HW2.out⟩
  · by_cases h13 : n = 9
    · subst h13
      have hv : Hid ((nowSz nw == 0) = RC) := Lib.hid (by rw [HR.out]; cases nw <;> rfl)
      go_wp2_with fail
      refine HS.out.mono ?_
      rintro e w3 ⟨rfl, ho3⟩
      have HW3 := Lib.hid (HW2.out.trans (ho3.toBelow HW2.out.size (Nat.le_refl _)))
      clear ho3
      go_wp2
      go_ret
      exact ⟨ret_bool hv.out, HW3.out⟩
    by_cases h17 : n = 13
    · subst h17
      have hv : Hid ((nowSz nw == 4) = RC) := Lib.hid (by rw [HR.out]; cases nw <;> rfl)
      go_wp2_with fail
      refine HS.out.mono ?_
      rintro e w3 ⟨rfl, ho3⟩
      have HW3 := Lib.hid (HW2.out.trans (ho3.toBelow HW2.out.size (Nat.le_refl _)))
      clear ho3
      go_wp2
      go_ret
      exact ⟨ret_bool hv.out, HW3.out⟩
    have e0 : ((n : Int) == 9) = false := by rw [beq_eq_false_iff_ne]; omega
    have e1 : ((n : Int) == 13) = false := by rw [beq_eq_false_iff_ne]; omega
    have hv : Hid (false = RC) := Lib.hid (by rw [HR.out]; unfold sizeC; cases nw <;> simp [timedB] <;> first | assumption | omega)
    clear h13 h17
    go_wp2
    go_ret
    exact ⟨ret_bool hv.out, HW2.out⟩
  · cases h : (n == 9)
    · have hd : ((n : Int) == 9) = false := by rw [beq_eq_false_iff_ne] at h ⊢; omega
      have hv : Hid (false = RC) := Lib.hid (by rw [HR.out]; simp only [sizeC]; rw [if_neg (by omega), if_pos trivial, h]; rfl)
      clear h
      go_wp2
      go_ret
      exact ⟨ret_bool hv.out, HW2.out⟩
    · have hd : ((n : Int) == 9) = true := by rw [beq_iff_eq] at h ⊢; omega
      have hv : Hid (true = RC) := Lib.hid (by rw [HR.out]; simp only [sizeC]; rw [if_neg (by omega), if_pos trivial, h]; rfl)
      clear h
      go_wp2
      go_ret
      exact ⟨ret_bool hv.out, HW2.out⟩
end Go.Proofs.Ytpdeodoidlcdoaa

/- fieldsOf: the fields of a cue are taken. -/
namespace Go.Proofs.Ytpdeodoidlcdoaa
open Go.RowKit
set_option linter.unusedSimpArgs false
set_option linter.unusedVariables false

/-- While fields are taken: P the bits, C the cue, R the result. -/
def FS (w : World) (P C R : Nat) (v : Value) (i : Nat) (c : Cue) (W : World) : Prop := BR W P v i ∧ W.heap[C]? = some (boxC c) ∧ W.heap[R]? = some (boxC zeroC) ∧ Onl P w W
theorem Onl.setNew {P : Nat} {w W : World} (h : Onl P w W) {C : Nat} (hC : w.heap.size ≤ C) (j : Nat) (u : Value) : Onl P w (W.setCell ⟨C, j, none⟩ u) :=
  ⟨h.os, h.tape, h.output, by simpa using h.size, fun i hi hP => (Below.heap_setCell W ⟨C, j, none⟩ u i (show i ≠ C by omega)).trans (World.grownBy.block h i hi hP)⟩
theorem Onl.alloc {P : Nat} {w W : World} (h : Onl P w W) (o : Obj) : Onl P w (W.alloc o) := h.below ((Below.refl _ _).alloc (Nat.le_refl _) _)
theorem FS.st {w W : World} {P C R i : Nat} {v : Value} {c : Cue} (h : FS w P C R v i c W) (hCP : C ≠ P) (hCR : C ≠ R) (hCw : w.heap.size ≤ C) (j : Nat) (u : Value) (c' : Cue)
    (he : (#[Value.int .i64 c.ki, .int .i64 c.ev, .bool c.no, .int .i64 c.ti, .int .i64 c.le, .bool c.au]).setIfInBounds j u = #[Value.int .i64 c'.ki, .int .i64 c'.ev, .bool c'.no, .int .i64 c'.ti, .int .i64 c'.le, .bool c'.au]) : FS w P C R v i c' (W.setCell ⟨C, j, none⟩ u) := by
  obtain ⟨h1, h2, h3, h4⟩ := h
  refine ⟨(Below.heap_setCell W ⟨C, j, none⟩ u P (show P ≠ C from fun e => hCP e.symm)).trans h1, ?_, (Below.heap_setCell W ⟨C, j, none⟩ u R (show R ≠ C from fun e => hCR e.symm)).trans h3, h4.setNew hCw j u⟩
  rw [heap_setCell_same _ C j _ _ u h2, he]
theorem FS.get {w W W' : World} {P C R i i' : Nat} {v : Value} {c : Cue} (h : FS w P C R v i c W) (hCP : C ≠ P) (hRP : R ≠ P) (hb : BR W' P v i') (ho : Onl P W W') : FS w P C R v i' c W' :=
  ⟨hb, ho.block h.2.1 hCP, ho.block h.2.2.1 hRP, h.2.2.2.trans ho⟩
theorem FS.sl {w W : World} {P C R i : Nat} {v : Value} {c : Cue} {l : List UInt8} (h : FS w P C R v i c W) (hl : Sl w 1 encU v l) (hv : offB P v) : Sl W 1 encU v l := hl.onl hv h.2.2.2

theorem BR.off {w : World} {P i R : Nat} {v : Value} (h : BR w P v i) (hR : R ≠ P) (j : Nat) (u : Value) : BR (w.setCell ⟨R, j, none⟩ u) P v i := (Below.heap_setCell w ⟨R, j, none⟩ u P (show P ≠ R from fun e => hR e.symm)).trans h
theorem FS.fin {w W : World} {P C R i : Nat} {v : Value} {c : Cue} (h : FS w P C R v i c W) (hR : R ≠ P) (hRw : w.heap.size ≤ R) (u0 u1 u2 u3 u4 u5 : Value) :
    BR ((((((W.setCell ⟨R, 0, none⟩ u0).setCell ⟨R, 1, none⟩ u1).setCell ⟨R, 2, none⟩ u2).setCell ⟨R, 3, none⟩ u3).setCell ⟨R, 4, none⟩ u4).setCell ⟨R, 5, none⟩ u5) P v i ∧
    Onl P w ((((((W.setCell ⟨R, 0, none⟩ u0).setCell ⟨R, 1, none⟩ u1).setCell ⟨R, 2, none⟩ u2).setCell ⟨R, 3, none⟩ u3).setCell ⟨R, 4, none⟩ u4).setCell ⟨R, 5, none⟩ u5) :=
  ⟨(((((h.1.off hR 0 _).off hR 1 _).off hR 2 _).off hR 3 _).off hR 4 _).off hR 5 _, (((((h.2.2.2.setNew hRw 0 _).setNew hRw 1 _).setNew hRw 2 _).setNew hRw 3 _).setNew hRw 4 _).setNew hRw 5 _⟩

def FldP (w : World) (P : Nat) (v : Value) (l : List UInt8) : Ending → World → Prop := fun e w' => e = .returned (agC (cueRd l)) ∧ BR w' P v (endC (kindC l) (nowC l)) ∧ Onl P w w'
theorem FldP.mk {w w' : World} {P i : Nat} {v v' : Value} {l : List UInt8} {c : Cue} (hc : cueRd l = c) (hv : v' = agC c) (hi : i = endC (kindC l) (nowC l)) (hb : BR w' P v i) (ho : Onl P w w') : FldP w P v l (.returned v') w' := by
  subst hc hv hi
  exact ⟨rfl, hb, ho⟩

set_option maxRecDepth 100000 in
set_option maxHeartbeats 4000000 in
theorem flo0_any (w : World) (P : Nat) (v : Value) (l : List UInt8) (hb : BR w P v 24) (hl : Sl w 1 encU v l) (ho : offB P v) (hn : l.length ≤ 300) (hk : kindC l = 0) (hi : 27 ≤ 8 * l.length) :
    Calls Try.prog 17 #[.pointer (some ⟨P, 0, none⟩)] w (FldP w P v l) := by
  have HL := Lib.hid hl
  have HO := Lib.hid ho
  have hP := lt_of_blk hb
  have HK : Hid (numB l 24 3 = 0) := Lib.hid hk
  have HC : Hid (cueRd l = (⟨0, 0, false, 0, 0, false⟩ : Cue)) := Lib.hid (by simp [cueRd, nowC, timedB, lastC, hk])
  have HE : Hid (27 = endC (kindC l) (nowC l)) := Lib.hid (by simp [endC, nowC, timedB, lastC, hk])
  have HB0 : Hid (BR (w.alloc (boxC zeroC)) P v 24) := Lib.hid ((Below.heap_alloc w (boxC zeroC) P hP).trans hb)
  have HR0 := Lib.hid (block_new w (boxC zeroC))
  have HA0 : Hid (Onl P w (w.alloc (boxC zeroC))) := Lib.hid ((Onl.refl P w).alloc _)
  have hRP : w.heap.size ≠ P := by omega
  clear hk hb hl ho
  go_enter Try.func17, Try.ntmps17
  go_wp2_with fail
  refine (getL 3 3 rfl _ P 24 v l HB0.out (HL.out.onl HO.out HA0.out) HO.out (by omega) (by omega) hn).mono ?_
  rintro e w1 ⟨rfl, hb1, ho1⟩
  rw [HK.out]
  have HA1 := Lib.hid (HA0.out.trans ho1)
  have hsz1 : w.heap.size + 1 ≤ w1.heap.size := by have := ho1.size; simpa using this
  have HF1 : Hid (FS w P w1.heap.size w.heap.size v 27 ⟨0, 0, false, 0, 0, false⟩ (w1.alloc (boxC ⟨0, 0, false, 0, 0, false⟩))) := Lib.hid ⟨(Below.heap_alloc w1 _ P (by omega)).trans hb1, block_new w1 _, (Below.heap_alloc w1 _ w.heap.size (by omega)).trans (ho1.block HR0.out hRP), HA1.out.alloc _⟩
  obtain ⟨C, hC⟩ : ∃ C, C = w1.heap.size := ⟨_, rfl⟩
  rw [← hC] at HF1
  have HCE := Lib.hid hC
  have hCP : C ≠ P := by omega
  have hCR : C ≠ w.heap.size := by omega
  have hCw : w.heap.size ≤ C := by omega
  clear hb1 ho1 hC
  have b0 := (cell_of_block (i := 0) HF1.out.2.1).trans rfl
  have b1 := (cell_of_block (i := 1) HF1.out.2.1).trans rfl
  have b2 := (cell_of_block (i := 2) HF1.out.2.1).trans rfl
  have b3 := (cell_of_block (i := 3) HF1.out.2.1).trans rfl
  have b4 := (cell_of_block (i := 4) HF1.out.2.1).trans rfl
  have b5 := (cell_of_block (i := 5) HF1.out.2.1).trans rfl
  have hlC := lt_of_blk HF1.out.2.1
  have hlR := lt_of_blk HF1.out.2.2.1
  have r0 := (cell_of_block (i := 0) HF1.out.2.2.1).trans rfl
  have g0 := froz_of_block (i := 0) HF1.out.2.2.1
  have r1 := (cell_of_block (i := 1) HF1.out.2.2.1).trans rfl
  have g1 := froz_of_block (i := 1) HF1.out.2.2.1
  have r2 := (cell_of_block (i := 2) HF1.out.2.2.1).trans rfl
  have g2 := froz_of_block (i := 2) HF1.out.2.2.1
  have r3 := (cell_of_block (i := 3) HF1.out.2.2.1).trans rfl
  have g3 := froz_of_block (i := 3) HF1.out.2.2.1
  have r4 := (cell_of_block (i := 4) HF1.out.2.2.1).trans rfl
  have g4 := froz_of_block (i := 4) HF1.out.2.2.1
  have r5 := (cell_of_block (i := 5) HF1.out.2.2.1).trans rfl
  have g5 := froz_of_block (i := 5) HF1.out.2.2.1
  go_wp2
  exact bodyPost_ret (v := agC ⟨0, 0, false, 0, 0, false⟩) (by simp [results, Try.results17, go_sem, r0, r1, r2, r3, r4, r5, hlR]) rfl (FldP.mk HC.out rfl HE.out (HF1.out.fin hRP (Nat.le_refl _) _ _ _ _ _ _).1 (HF1.out.fin hRP (Nat.le_refl _) _ _ _ _ _ _).2)
set_option maxRecDepth 100000 in
set_option maxHeartbeats 4000000 in
theorem flo3_any (w : World) (P : Nat) (v : Value) (l : List UInt8) (hb : BR w P v 24) (hl : Sl w 1 encU v l) (ho : offB P v) (hn : l.length ≤ 300) (hk : kindC l = 3) (hi : 59 ≤ 8 * l.length) :
    Calls Try.prog 17 #[.pointer (some ⟨P, 0, none⟩)] w (FldP w P v l) := by
  have HL := Lib.hid hl
  have HO := Lib.hid ho
  have hP := lt_of_blk hb
  have HK : Hid (numB l 24 3 = 3) := Lib.hid hk
  have HC : Hid (cueRd l = (⟨3, (numB l 27 32 : Nat), false, 0, 0, false⟩ : Cue)) := Lib.hid (by simp [cueRd, nowC, timedB, lastC, hk])
  have HE : Hid (59 = endC (kindC l) (nowC l)) := Lib.hid (by simp [endC, nowC, timedB, lastC, hk])
  have HB0 : Hid (BR (w.alloc (boxC zeroC)) P v 24) := Lib.hid ((Below.heap_alloc w (boxC zeroC) P hP).trans hb)
  have HR0 := Lib.hid (block_new w (boxC zeroC))
  have HA0 : Hid (Onl P w (w.alloc (boxC zeroC))) := Lib.hid ((Onl.refl P w).alloc _)
  have hRP : w.heap.size ≠ P := by omega
  clear hk hb hl ho
  go_enter Try.func17, Try.ntmps17
  go_wp2_with fail
  refine (getL 3 3 rfl _ P 24 v l HB0.out (HL.out.onl HO.out HA0.out) HO.out (by omega) (by omega) hn).mono ?_
  rintro e w1 ⟨rfl, hb1, ho1⟩
  rw [HK.out]
  have HA1 := Lib.hid (HA0.out.trans ho1)
  have hsz1 : w.heap.size + 1 ≤ w1.heap.size := by have := ho1.size; simpa using this
  have HF1 : Hid (FS w P w1.heap.size w.heap.size v 27 ⟨3, 0, false, 0, 0, false⟩ (w1.alloc (boxC ⟨3, 0, false, 0, 0, false⟩))) := Lib.hid ⟨(Below.heap_alloc w1 _ P (by omega)).trans hb1, block_new w1 _, (Below.heap_alloc w1 _ w.heap.size (by omega)).trans (ho1.block HR0.out hRP), HA1.out.alloc _⟩
  obtain ⟨C, hC⟩ : ∃ C, C = w1.heap.size := ⟨_, rfl⟩
  rw [← hC] at HF1
  have HCE := Lib.hid hC
  have hCP : C ≠ P := by omega
  have hCR : C ≠ w.heap.size := by omega
  have hCw : w.heap.size ≤ C := by omega
  clear hb1 ho1 hC
  go_wp2_with fail
  rw [← HCE.out]
  refine (getL 32 32 rfl _ P 27 v l HF1.out.1 (HF1.out.sl HL.out HO.out) HO.out (by omega) (by omega) hn).mono ?_
  rintro e w2 ⟨rfl, hb2, ho2⟩
  have HG2 := Lib.hid (HF1.out.get hCP hRP hb2 ho2)
  clear hb2 ho2
  have b0 := (cell_of_block (i := 0) HG2.out.2.1).trans rfl
  have b1 := (cell_of_block (i := 1) HG2.out.2.1).trans rfl
  have b2 := (cell_of_block (i := 2) HG2.out.2.1).trans rfl
  have b3 := (cell_of_block (i := 3) HG2.out.2.1).trans rfl
  have b4 := (cell_of_block (i := 4) HG2.out.2.1).trans rfl
  have b5 := (cell_of_block (i := 5) HG2.out.2.1).trans rfl
  have f1 := froz_of_block (i := 1) HG2.out.2.1
  have f2 := froz_of_block (i := 2) HG2.out.2.1
  have f3 := froz_of_block (i := 3) HG2.out.2.1
  have f4 := froz_of_block (i := 4) HG2.out.2.1
  have f5 := froz_of_block (i := 5) HG2.out.2.1
  have hlC := lt_of_blk HG2.out.2.1
  have HF2 : Hid (FS w P C w.heap.size v 59 ⟨3, (numB l 27 32 : Nat), false, 0, 0, false⟩ (w2.setCell ⟨C, 1, none⟩ (.int .i64 (numB l 27 32 : Nat)))) := Lib.hid (HG2.out.st hCP hCR hCw 1 _ ⟨3, (numB l 27 32 : Nat), false, 0, 0, false⟩ rfl)
  have hlR := lt_of_blk HG2.out.2.2.1
  have r0 := (cell_of_block (i := 0) HG2.out.2.2.1).trans rfl
  have g0 := froz_of_block (i := 0) HG2.out.2.2.1
  have r1 := (cell_of_block (i := 1) HG2.out.2.2.1).trans rfl
  have g1 := froz_of_block (i := 1) HG2.out.2.2.1
  have r2 := (cell_of_block (i := 2) HG2.out.2.2.1).trans rfl
  have g2 := froz_of_block (i := 2) HG2.out.2.2.1
  have r3 := (cell_of_block (i := 3) HG2.out.2.2.1).trans rfl
  have g3 := froz_of_block (i := 3) HG2.out.2.2.1
  have r4 := (cell_of_block (i := 4) HG2.out.2.2.1).trans rfl
  have g4 := froz_of_block (i := 4) HG2.out.2.2.1
  have r5 := (cell_of_block (i := 5) HG2.out.2.2.1).trans rfl
  have g5 := froz_of_block (i := 5) HG2.out.2.2.1
  go_wp2
  exact bodyPost_ret (v := agC ⟨3, (numB l 27 32 : Nat), false, 0, 0, false⟩) (by simp [results, Try.results17, go_sem, r0, r1, r2, r3, r4, r5, hlR]) rfl (FldP.mk HC.out rfl HE.out (HF2.out.fin hRP (Nat.le_refl _) _ _ _ _ _ _).1 (HF2.out.fin hRP (Nat.le_refl _) _ _ _ _ _ _).2)
set_option maxRecDepth 100000 in
set_option maxHeartbeats 4000000 in
theorem flo2n_any (w : World) (P : Nat) (v : Value) (l : List UInt8) (hb : BR w P v 24) (hl : Sl w 1 encU v l) (ho : offB P v) (hn : l.length ≤ 300) (hk : kindC l = 2) (hw : bitAt l 59 = true) (hi : 60 ≤ 8 * l.length) :
    Calls Try.prog 17 #[.pointer (some ⟨P, 0, none⟩)] w (FldP w P v l) := by
  have HL := Lib.hid hl
  have HO := Lib.hid ho
  have hP := lt_of_blk hb
  have HK : Hid (numB l 24 3 = 2) := Lib.hid hk
  have HC : Hid (cueRd l = (⟨2, (numB l 27 32 : Nat), true, 0, 0, false⟩ : Cue)) := Lib.hid (by simp [cueRd, nowC, timedB, lastC, hk, hw])
  have HE : Hid (60 = endC (kindC l) (nowC l)) := Lib.hid (by simp [endC, nowC, timedB, lastC, hk, hw])
  have HW : Hid (numB l 59 1 = 1) := Lib.hid (by rw [numB_one, hw]; rfl)
  have HB0 : Hid (BR (w.alloc (boxC zeroC)) P v 24) := Lib.hid ((Below.heap_alloc w (boxC zeroC) P hP).trans hb)
  have HR0 := Lib.hid (block_new w (boxC zeroC))
  have HA0 : Hid (Onl P w (w.alloc (boxC zeroC))) := Lib.hid ((Onl.refl P w).alloc _)
  have hRP : w.heap.size ≠ P := by omega
  clear hk hb hl ho hw
  go_enter Try.func17, Try.ntmps17
  go_wp2_with fail
  refine (getL 3 3 rfl _ P 24 v l HB0.out (HL.out.onl HO.out HA0.out) HO.out (by omega) (by omega) hn).mono ?_
  rintro e w1 ⟨rfl, hb1, ho1⟩
  rw [HK.out]
  have HA1 := Lib.hid (HA0.out.trans ho1)
  have hsz1 : w.heap.size + 1 ≤ w1.heap.size := by have := ho1.size; simpa using this
  have HF1 : Hid (FS w P w1.heap.size w.heap.size v 27 ⟨2, 0, false, 0, 0, false⟩ (w1.alloc (boxC ⟨2, 0, false, 0, 0, false⟩))) := Lib.hid ⟨(Below.heap_alloc w1 _ P (by omega)).trans hb1, block_new w1 _, (Below.heap_alloc w1 _ w.heap.size (by omega)).trans (ho1.block HR0.out hRP), HA1.out.alloc _⟩
  obtain ⟨C, hC⟩ : ∃ C, C = w1.heap.size := ⟨_, rfl⟩
  rw [← hC] at HF1
  have HCE := Lib.hid hC
  have hCP : C ≠ P := by omega
  have hCR : C ≠ w.heap.size := by omega
  have hCw : w.heap.size ≤ C := by omega
  clear hb1 ho1 hC
  go_wp2_with fail
  rw [← HCE.out]
  refine (getL 32 32 rfl _ P 27 v l HF1.out.1 (HF1.out.sl HL.out HO.out) HO.out (by omega) (by omega) hn).mono ?_
  rintro e w2 ⟨rfl, hb2, ho2⟩
  have HG2 := Lib.hid (HF1.out.get hCP hRP hb2 ho2)
  clear hb2 ho2
  have b0 := (cell_of_block (i := 0) HG2.out.2.1).trans rfl
  have b1 := (cell_of_block (i := 1) HG2.out.2.1).trans rfl
  have b2 := (cell_of_block (i := 2) HG2.out.2.1).trans rfl
  have b3 := (cell_of_block (i := 3) HG2.out.2.1).trans rfl
  have b4 := (cell_of_block (i := 4) HG2.out.2.1).trans rfl
  have b5 := (cell_of_block (i := 5) HG2.out.2.1).trans rfl
  have f1 := froz_of_block (i := 1) HG2.out.2.1
  have f2 := froz_of_block (i := 2) HG2.out.2.1
  have f3 := froz_of_block (i := 3) HG2.out.2.1
  have f4 := froz_of_block (i := 4) HG2.out.2.1
  have f5 := froz_of_block (i := 5) HG2.out.2.1
  have hlC := lt_of_blk HG2.out.2.1
  have HF2 : Hid (FS w P C w.heap.size v 59 ⟨2, (numB l 27 32 : Nat), false, 0, 0, false⟩ (w2.setCell ⟨C, 1, none⟩ (.int .i64 (numB l 27 32 : Nat)))) := Lib.hid (HG2.out.st hCP hCR hCw 1 _ ⟨2, (numB l 27 32 : Nat), false, 0, 0, false⟩ rfl)
  go_wp2_with fail
  refine (getL 1 1 rfl _ P 59 v l HF2.out.1 (HF2.out.sl HL.out HO.out) HO.out (by omega) (by omega) hn).mono ?_
  rintro e w3 ⟨rfl, hb3, ho3⟩
  rw [HW.out]
  have HG3 := Lib.hid (HF2.out.get hCP hRP hb3 ho3)
  clear hb3 ho3 b0 b1 b2 b3 b4 b5 f1 f2 f3 f4 f5 hlC
  have b0 := (cell_of_block (i := 0) HG3.out.2.1).trans rfl
  have b1 := (cell_of_block (i := 1) HG3.out.2.1).trans rfl
  have b2 := (cell_of_block (i := 2) HG3.out.2.1).trans rfl
  have b3 := (cell_of_block (i := 3) HG3.out.2.1).trans rfl
  have b4 := (cell_of_block (i := 4) HG3.out.2.1).trans rfl
  have b5 := (cell_of_block (i := 5) HG3.out.2.1).trans rfl
  have f1 := froz_of_block (i := 1) HG3.out.2.1
  have f2 := froz_of_block (i := 2) HG3.out.2.1
  have f3 := froz_of_block (i := 3) HG3.out.2.1
  have f4 := froz_of_block (i := 4) HG3.out.2.1
  have f5 := froz_of_block (i := 5) HG3.out.2.1
  have hlC := lt_of_blk HG3.out.2.1
  have HF3 : Hid (FS w P C w.heap.size v 60 ⟨2, (numB l 27 32 : Nat), true, 0, 0, false⟩ (w3.setCell ⟨C, 2, none⟩ (.bool true))) := Lib.hid (HG3.out.st hCP hCR hCw 2 _ ⟨2, (numB l 27 32 : Nat), true, 0, 0, false⟩ rfl)
  have hlR := lt_of_blk HG3.out.2.2.1
  have r0 := (cell_of_block (i := 0) HG3.out.2.2.1).trans rfl
  have g0 := froz_of_block (i := 0) HG3.out.2.2.1
  have r1 := (cell_of_block (i := 1) HG3.out.2.2.1).trans rfl
  have g1 := froz_of_block (i := 1) HG3.out.2.2.1
  have r2 := (cell_of_block (i := 2) HG3.out.2.2.1).trans rfl
  have g2 := froz_of_block (i := 2) HG3.out.2.2.1
  have r3 := (cell_of_block (i := 3) HG3.out.2.2.1).trans rfl
  have g3 := froz_of_block (i := 3) HG3.out.2.2.1
  have r4 := (cell_of_block (i := 4) HG3.out.2.2.1).trans rfl
  have g4 := froz_of_block (i := 4) HG3.out.2.2.1
  have r5 := (cell_of_block (i := 5) HG3.out.2.2.1).trans rfl
  have g5 := froz_of_block (i := 5) HG3.out.2.2.1
  go_wp2
  exact bodyPost_ret (v := agC ⟨2, (numB l 27 32 : Nat), true, 0, 0, false⟩) (by simp [results, Try.results17, go_sem, r0, r1, r2, r3, r4, r5, hlR]) rfl (FldP.mk HC.out rfl HE.out (HF3.out.fin hRP (Nat.le_refl _) _ _ _ _ _ _).1 (HF3.out.fin hRP (Nat.le_refl _) _ _ _ _ _ _).2)
set_option maxRecDepth 100000 in
set_option maxHeartbeats 4000000 in
theorem flo2t_any (w : World) (P : Nat) (v : Value) (l : List UInt8) (hb : BR w P v 24) (hl : Sl w 1 encU v l) (ho : offB P v) (hn : l.length ≤ 300) (hk : kindC l = 2) (hw : bitAt l 59 = false) (hi : 93 ≤ 8 * l.length) :
    Calls Try.prog 17 #[.pointer (some ⟨P, 0, none⟩)] w (FldP w P v l) := by
  have HL := Lib.hid hl
  have HO := Lib.hid ho
  have hP := lt_of_blk hb
  have HK : Hid (numB l 24 3 = 2) := Lib.hid hk
  have HC : Hid (cueRd l = (⟨2, (numB l 27 32 : Nat), false, (numB l 60 33 : Nat), 0, false⟩ : Cue)) := Lib.hid (by simp [cueRd, nowC, timedB, lastC, hk, hw])
  have HE : Hid (93 = endC (kindC l) (nowC l)) := Lib.hid (by simp [endC, nowC, timedB, lastC, hk, hw])
  have HW : Hid (numB l 59 1 = 0) := Lib.hid (by rw [numB_one, hw]; rfl)
  have HB0 : Hid (BR (w.alloc (boxC zeroC)) P v 24) := Lib.hid ((Below.heap_alloc w (boxC zeroC) P hP).trans hb)
  have HR0 := Lib.hid (block_new w (boxC zeroC))
  have HA0 : Hid (Onl P w (w.alloc (boxC zeroC))) := Lib.hid ((Onl.refl P w).alloc _)
  have hRP : w.heap.size ≠ P := by omega
  clear hk hb hl ho hw
  go_enter Try.func17, Try.ntmps17
  go_wp2_with fail
  refine (getL 3 3 rfl _ P 24 v l HB0.out (HL.out.onl HO.out HA0.out) HO.out (by omega) (by omega) hn).mono ?_
  rintro e w1 ⟨rfl, hb1, ho1⟩
  rw [HK.out]
  have HA1 := Lib.hid (HA0.out.trans ho1)
  have hsz1 : w.heap.size + 1 ≤ w1.heap.size := by have := ho1.size; simpa using this
  have HF1 : Hid (FS w P w1.heap.size w.heap.size v 27 ⟨2, 0, false, 0, 0, false⟩ (w1.alloc (boxC ⟨2, 0, false, 0, 0, false⟩))) := Lib.hid ⟨(Below.heap_alloc w1 _ P (by omega)).trans hb1, block_new w1 _, (Below.heap_alloc w1 _ w.heap.size (by omega)).trans (ho1.block HR0.out hRP), HA1.out.alloc _⟩
  obtain ⟨C, hC⟩ : ∃ C, C = w1.heap.size := ⟨_, rfl⟩
  rw [← hC] at HF1
  have HCE := Lib.hid hC
  have hCP : C ≠ P := by omega
  have hCR : C ≠ w.heap.size := by omega
  have hCw : w.heap.size ≤ C := by omega
  clear hb1 ho1 hC
  go_wp2_with fail
  rw [← HCE.out]
  refine (getL 32 32 rfl _ P 27 v l HF1.out.1 (HF1.out.sl HL.out HO.out) HO.out (by omega) (by omega) hn).mono ?_
  rintro e w2 ⟨rfl, hb2, ho2⟩
  have HG2 := Lib.hid (HF1.out.get hCP hRP hb2 ho2)
  clear hb2 ho2
  have b0 := (cell_of_block (i := 0) HG2.out.2.1).trans rfl
  have b1 := (cell_of_block (i := 1) HG2.out.2.1).trans rfl
  have b2 := (cell_of_block (i := 2) HG2.out.2.1).trans rfl
  have b3 := (cell_of_block (i := 3) HG2.out.2.1).trans rfl
  have b4 := (cell_of_block (i := 4) HG2.out.2.1).trans rfl
  have b5 := (cell_of_block (i := 5) HG2.out.2.1).trans rfl
  have f1 := froz_of_block (i := 1) HG2.out.2.1
  have f2 := froz_of_block (i := 2) HG2.out.2.1
  have f3 := froz_of_block (i := 3) HG2.out.2.1
  have f4 := froz_of_block (i := 4) HG2.out.2.1
  have f5 := froz_of_block (i := 5) HG2.out.2.1
  have hlC := lt_of_blk HG2.out.2.1
  have HF2 : Hid (FS w P C w.heap.size v 59 ⟨2, (numB l 27 32 : Nat), false, 0, 0, false⟩ (w2.setCell ⟨C, 1, none⟩ (.int .i64 (numB l 27 32 : Nat)))) := Lib.hid (HG2.out.st hCP hCR hCw 1 _ ⟨2, (numB l 27 32 : Nat), false, 0, 0, false⟩ rfl)
  go_wp2_with fail
  refine (getL 1 1 rfl _ P 59 v l HF2.out.1 (HF2.out.sl HL.out HO.out) HO.out (by omega) (by omega) hn).mono ?_
  rintro e w3 ⟨rfl, hb3, ho3⟩
  rw [HW.out]
  have HG3 := Lib.hid (HF2.out.get hCP hRP hb3 ho3)
  clear hb3 ho3 b0 b1 b2 b3 b4 b5 f1 f2 f3 f4 f5 hlC
  have b0 := (cell_of_block (i := 0) HG3.out.2.1).trans rfl
  have b1 := (cell_of_block (i := 1) HG3.out.2.1).trans rfl
  have b2 := (cell_of_block (i := 2) HG3.out.2.1).trans rfl
  have b3 := (cell_of_block (i := 3) HG3.out.2.1).trans rfl
  have b4 := (cell_of_block (i := 4) HG3.out.2.1).trans rfl
  have b5 := (cell_of_block (i := 5) HG3.out.2.1).trans rfl
  have f1 := froz_of_block (i := 1) HG3.out.2.1
  have f2 := froz_of_block (i := 2) HG3.out.2.1
  have f3 := froz_of_block (i := 3) HG3.out.2.1
  have f4 := froz_of_block (i := 4) HG3.out.2.1
  have f5 := froz_of_block (i := 5) HG3.out.2.1
  have hlC := lt_of_blk HG3.out.2.1
  have HF3 : Hid (FS w P C w.heap.size v 60 ⟨2, (numB l 27 32 : Nat), false, 0, 0, false⟩ (w3.setCell ⟨C, 2, none⟩ (.bool false))) := Lib.hid (HG3.out.st hCP hCR hCw 2 _ ⟨2, (numB l 27 32 : Nat), false, 0, 0, false⟩ rfl)
  go_wp2_with fail
  refine (getL 33 33 rfl _ P 60 v l HF3.out.1 (HF3.out.sl HL.out HO.out) HO.out (by omega) (by omega) hn).mono ?_
  rintro e w4 ⟨rfl, hb4, ho4⟩
  have HG4 := Lib.hid (HF3.out.get hCP hRP hb4 ho4)
  clear hb4 ho4 b0 b1 b2 b3 b4 b5 f1 f2 f3 f4 f5 hlC
  have b0 := (cell_of_block (i := 0) HG4.out.2.1).trans rfl
  have b1 := (cell_of_block (i := 1) HG4.out.2.1).trans rfl
  have b2 := (cell_of_block (i := 2) HG4.out.2.1).trans rfl
  have b3 := (cell_of_block (i := 3) HG4.out.2.1).trans rfl
  have b4 := (cell_of_block (i := 4) HG4.out.2.1).trans rfl
  have b5 := (cell_of_block (i := 5) HG4.out.2.1).trans rfl
  have f1 := froz_of_block (i := 1) HG4.out.2.1
  have f2 := froz_of_block (i := 2) HG4.out.2.1
  have f3 := froz_of_block (i := 3) HG4.out.2.1
  have f4 := froz_of_block (i := 4) HG4.out.2.1
  have f5 := froz_of_block (i := 5) HG4.out.2.1
  have hlC := lt_of_blk HG4.out.2.1
  have HF4 : Hid (FS w P C w.heap.size v 93 ⟨2, (numB l 27 32 : Nat), false, (numB l 60 33 : Nat), 0, false⟩ (w4.setCell ⟨C, 3, none⟩ (.int .i64 (numB l 60 33 : Nat)))) := Lib.hid (HG4.out.st hCP hCR hCw 3 _ ⟨2, (numB l 27 32 : Nat), false, (numB l 60 33 : Nat), 0, false⟩ rfl)
  have hlR := lt_of_blk HG4.out.2.2.1
  have r0 := (cell_of_block (i := 0) HG4.out.2.2.1).trans rfl
  have g0 := froz_of_block (i := 0) HG4.out.2.2.1
  have r1 := (cell_of_block (i := 1) HG4.out.2.2.1).trans rfl
  have g1 := froz_of_block (i := 1) HG4.out.2.2.1
  have r2 := (cell_of_block (i := 2) HG4.out.2.2.1).trans rfl
  have g2 := froz_of_block (i := 2) HG4.out.2.2.1
  have r3 := (cell_of_block (i := 3) HG4.out.2.2.1).trans rfl
  have g3 := froz_of_block (i := 3) HG4.out.2.2.1
  have r4 := (cell_of_block (i := 4) HG4.out.2.2.1).trans rfl
  have g4 := froz_of_block (i := 4) HG4.out.2.2.1
  have r5 := (cell_of_block (i := 5) HG4.out.2.2.1).trans rfl
  have g5 := froz_of_block (i := 5) HG4.out.2.2.1
  go_wp2
  exact bodyPost_ret (v := agC ⟨2, (numB l 27 32 : Nat), false, (numB l 60 33 : Nat), 0, false⟩) (by simp [results, Try.results17, go_sem, r0, r1, r2, r3, r4, r5, hlR]) rfl (FldP.mk HC.out rfl HE.out (HF4.out.fin hRP (Nat.le_refl _) _ _ _ _ _ _).1 (HF4.out.fin hRP (Nat.le_refl _) _ _ _ _ _ _).2)
set_option maxRecDepth 100000 in
set_option maxHeartbeats 4000000 in
theorem flo1n_any (w : World) (P : Nat) (v : Value) (l : List UInt8) (hb : BR w P v 24) (hl : Sl w 1 encU v l) (ho : offB P v) (hn : l.length ≤ 300) (hk : kindC l = 1) (hw : bitAt l 59 = true) (hi : 94 ≤ 8 * l.length) :
    Calls Try.prog 17 #[.pointer (some ⟨P, 0, none⟩)] w (FldP w P v l) := by
  have HL := Lib.hid hl
  have HO := Lib.hid ho
  have hP := lt_of_blk hb
  have HK : Hid (numB l 24 3 = 1) := Lib.hid hk
  have HC : Hid (cueRd l = (⟨1, (numB l 27 32 : Nat), true, 0, (numB l 61 33 : Nat), bitAt l 60⟩ : Cue)) := Lib.hid (by simp [cueRd, nowC, timedB, lastC, hk, hw])
  have HE : Hid (94 = endC (kindC l) (nowC l)) := Lib.hid (by simp [endC, nowC, timedB, lastC, hk, hw])
  have HW : Hid (numB l 59 1 = 1) := Lib.hid (by rw [numB_one, hw]; rfl)
  have HB0 : Hid (BR (w.alloc (boxC zeroC)) P v 24) := Lib.hid ((Below.heap_alloc w (boxC zeroC) P hP).trans hb)
  have HR0 := Lib.hid (block_new w (boxC zeroC))
  have HA0 : Hid (Onl P w (w.alloc (boxC zeroC))) := Lib.hid ((Onl.refl P w).alloc _)
  have hRP : w.heap.size ≠ P := by omega
  clear hk hb hl ho hw
  go_enter Try.func17, Try.ntmps17
  go_wp2_with fail
  refine (getL 3 3 rfl _ P 24 v l HB0.out (HL.out.onl HO.out HA0.out) HO.out (by omega) (by omega) hn).mono ?_
  rintro e w1 ⟨rfl, hb1, ho1⟩
  rw [HK.out]
  have HA1 := Lib.hid (HA0.out.trans ho1)
  have hsz1 : w.heap.size + 1 ≤ w1.heap.size := by have := ho1.size; simpa using this
  have HF1 : Hid (FS w P w1.heap.size w.heap.size v 27 ⟨1, 0, false, 0, 0, false⟩ (w1.alloc (boxC ⟨1, 0, false, 0, 0, false⟩))) := Lib.hid ⟨(Below.heap_alloc w1 _ P (by omega)).trans hb1, block_new w1 _, (Below.heap_alloc w1 _ w.heap.size (by omega)).trans (ho1.block HR0.out hRP), HA1.out.alloc _⟩
  obtain ⟨C, hC⟩ : ∃ C, C = w1.heap.size := ⟨_, rfl⟩
  rw [← hC] at HF1
  have HCE := Lib.hid hC
  have hCP : C ≠ P := by omega
  have hCR : C ≠ w.heap.size := by omega
  have hCw : w.heap.size ≤ C := by omega
  clear hb1 ho1 hC
  go_wp2_with fail
  rw [← HCE.out]
  refine (getL 32 32 rfl _ P 27 v l HF1.out.1 (HF1.out.sl HL.out HO.out) HO.out (by omega) (by omega) hn).mono ?_
  rintro e w2 ⟨rfl, hb2, ho2⟩
  have HG2 := Lib.hid (HF1.out.get hCP hRP hb2 ho2)
  clear hb2 ho2
  have b0 := (cell_of_block (i := 0) HG2.out.2.1).trans rfl
  have b1 := (cell_of_block (i := 1) HG2.out.2.1).trans rfl
  have b2 := (cell_of_block (i := 2) HG2.out.2.1).trans rfl
  have b3 := (cell_of_block (i := 3) HG2.out.2.1).trans rfl
  have b4 := (cell_of_block (i := 4) HG2.out.2.1).trans rfl
  have b5 := (cell_of_block (i := 5) HG2.out.2.1).trans rfl
  have f1 := froz_of_block (i := 1) HG2.out.2.1
  have f2 := froz_of_block (i := 2) HG2.out.2.1
  have f3 := froz_of_block (i := 3) HG2.out.2.1
  have f4 := froz_of_block (i := 4) HG2.out.2.1
  have f5 := froz_of_block (i := 5) HG2.out.2.1
  have hlC := lt_of_blk HG2.out.2.1
  have HF2 : Hid (FS w P C w.heap.size v 59 ⟨1, (numB l 27 32 : Nat), false, 0, 0, false⟩ (w2.setCell ⟨C, 1, none⟩ (.int .i64 (numB l 27 32 : Nat)))) := Lib.hid (HG2.out.st hCP hCR hCw 1 _ ⟨1, (numB l 27 32 : Nat), false, 0, 0, false⟩ rfl)
  go_wp2_with fail
  refine (getL 1 1 rfl _ P 59 v l HF2.out.1 (HF2.out.sl HL.out HO.out) HO.out (by omega) (by omega) hn).mono ?_
  rintro e w3 ⟨rfl, hb3, ho3⟩
  rw [HW.out]
  have HG3 := Lib.hid (HF2.out.get hCP hRP hb3 ho3)
  clear hb3 ho3 b0 b1 b2 b3 b4 b5 f1 f2 f3 f4 f5 hlC
  have b0 := (cell_of_block (i := 0) HG3.out.2.1).trans rfl
  have b1 := (cell_of_block (i := 1) HG3.out.2.1).trans rfl
  have b2 := (cell_of_block (i := 2) HG3.out.2.1).trans rfl
  have b3 := (cell_of_block (i := 3) HG3.out.2.1).trans rfl
  have b4 := (cell_of_block (i := 4) HG3.out.2.1).trans rfl
  have b5 := (cell_of_block (i := 5) HG3.out.2.1).trans rfl
  have f1 := froz_of_block (i := 1) HG3.out.2.1
  have f2 := froz_of_block (i := 2) HG3.out.2.1
  have f3 := froz_of_block (i := 3) HG3.out.2.1
  have f4 := froz_of_block (i := 4) HG3.out.2.1
  have f5 := froz_of_block (i := 5) HG3.out.2.1
  have hlC := lt_of_blk HG3.out.2.1
  have HF3 : Hid (FS w P C w.heap.size v 60 ⟨1, (numB l 27 32 : Nat), true, 0, 0, false⟩ (w3.setCell ⟨C, 2, none⟩ (.bool true))) := Lib.hid (HG3.out.st hCP hCR hCw 2 _ ⟨1, (numB l 27 32 : Nat), true, 0, 0, false⟩ rfl)
  go_wp2_with fail
  refine (getL 1 1 rfl _ P 60 v l HF3.out.1 (HF3.out.sl HL.out HO.out) HO.out (by omega) (by omega) hn).mono ?_
  rintro e w4 ⟨rfl, hb4, ho4⟩
  rw [numB_one]
  have hq : (((b01 (bitAt l 60) : Nat) : Int) == 1) = bitAt l 60 := by cases bitAt l 60 <;> rfl
  have HG4 := Lib.hid (HF3.out.get hCP hRP hb4 ho4)
  clear hb4 ho4 b0 b1 b2 b3 b4 b5 f1 f2 f3 f4 f5 hlC
  have b0 := (cell_of_block (i := 0) HG4.out.2.1).trans rfl
  have b1 := (cell_of_block (i := 1) HG4.out.2.1).trans rfl
  have b2 := (cell_of_block (i := 2) HG4.out.2.1).trans rfl
  have b3 := (cell_of_block (i := 3) HG4.out.2.1).trans rfl
  have b4 := (cell_of_block (i := 4) HG4.out.2.1).trans rfl
  have b5 := (cell_of_block (i := 5) HG4.out.2.1).trans rfl
  have f1 := froz_of_block (i := 1) HG4.out.2.1
  have f2 := froz_of_block (i := 2) HG4.out.2.1
  have f3 := froz_of_block (i := 3) HG4.out.2.1
  have f4 := froz_of_block (i := 4) HG4.out.2.1
  have f5 := froz_of_block (i := 5) HG4.out.2.1
  have hlC := lt_of_blk HG4.out.2.1
  have HF4 : Hid (FS w P C w.heap.size v 61 ⟨1, (numB l 27 32 : Nat), true, 0, 0, bitAt l 60⟩ (w4.setCell ⟨C, 5, none⟩ (.bool (bitAt l 60)))) := Lib.hid (HG4.out.st hCP hCR hCw 5 _ ⟨1, (numB l 27 32 : Nat), true, 0, 0, bitAt l 60⟩ rfl)
  go_wp2_with fail
  refine (getL 33 33 rfl _ P 61 v l HF4.out.1 (HF4.out.sl HL.out HO.out) HO.out (by omega) (by omega) hn).mono ?_
  rintro e w5 ⟨rfl, hb5, ho5⟩
  have HG5 := Lib.hid (HF4.out.get hCP hRP hb5 ho5)
  clear hb5 ho5 b0 b1 b2 b3 b4 b5 f1 f2 f3 f4 f5 hlC
  have b0 := (cell_of_block (i := 0) HG5.out.2.1).trans rfl
  have b1 := (cell_of_block (i := 1) HG5.out.2.1).trans rfl
  have b2 := (cell_of_block (i := 2) HG5.out.2.1).trans rfl
  have b3 := (cell_of_block (i := 3) HG5.out.2.1).trans rfl
  have b4 := (cell_of_block (i := 4) HG5.out.2.1).trans rfl
  have b5 := (cell_of_block (i := 5) HG5.out.2.1).trans rfl
  have f1 := froz_of_block (i := 1) HG5.out.2.1
  have f2 := froz_of_block (i := 2) HG5.out.2.1
  have f3 := froz_of_block (i := 3) HG5.out.2.1
  have f4 := froz_of_block (i := 4) HG5.out.2.1
  have f5 := froz_of_block (i := 5) HG5.out.2.1
  have hlC := lt_of_blk HG5.out.2.1
  have HF5 : Hid (FS w P C w.heap.size v 94 ⟨1, (numB l 27 32 : Nat), true, 0, (numB l 61 33 : Nat), bitAt l 60⟩ (w5.setCell ⟨C, 4, none⟩ (.int .i64 (numB l 61 33 : Nat)))) := Lib.hid (HG5.out.st hCP hCR hCw 4 _ ⟨1, (numB l 27 32 : Nat), true, 0, (numB l 61 33 : Nat), bitAt l 60⟩ rfl)
  have hlR := lt_of_blk HG5.out.2.2.1
  have r0 := (cell_of_block (i := 0) HG5.out.2.2.1).trans rfl
  have g0 := froz_of_block (i := 0) HG5.out.2.2.1
  have r1 := (cell_of_block (i := 1) HG5.out.2.2.1).trans rfl
  have g1 := froz_of_block (i := 1) HG5.out.2.2.1
  have r2 := (cell_of_block (i := 2) HG5.out.2.2.1).trans rfl
  have g2 := froz_of_block (i := 2) HG5.out.2.2.1
  have r3 := (cell_of_block (i := 3) HG5.out.2.2.1).trans rfl
  have g3 := froz_of_block (i := 3) HG5.out.2.2.1
  have r4 := (cell_of_block (i := 4) HG5.out.2.2.1).trans rfl
  have g4 := froz_of_block (i := 4) HG5.out.2.2.1
  have r5 := (cell_of_block (i := 5) HG5.out.2.2.1).trans rfl
  have g5 := froz_of_block (i := 5) HG5.out.2.2.1
  go_wp2
  exact bodyPost_ret (v := agC ⟨1, (numB l 27 32 : Nat), true, 0, (numB l 61 33 : Nat), bitAt l 60⟩) (by simp [results, Try.results17, go_sem, r0, r1, r2, r3, r4, r5, hlR]) rfl (FldP.mk HC.out rfl HE.out (HF5.out.fin hRP (Nat.le_refl _) _ _ _ _ _ _).1 (HF5.out.fin hRP (Nat.le_refl _) _ _ _ _ _ _).2)
set_option maxRecDepth 100000 in
set_option maxHeartbeats 4000000 in
theorem flo1t_any (w : World) (P : Nat) (v : Value) (l : List UInt8) (hb : BR w P v 24) (hl : Sl w 1 encU v l) (ho : offB P v) (hn : l.length ≤ 300) (hk : kindC l = 1) (hw : bitAt l 59 = false) (hi : 127 ≤ 8 * l.length) :
    Calls Try.prog 17 #[.pointer (some ⟨P, 0, none⟩)] w (FldP w P v l) := by
  have HL := Lib.hid hl
  have HO := Lib.hid ho
  have hP := lt_of_blk hb
  have HK : Hid (numB l 24 3 = 1) := Lib.hid hk
  have HC : Hid (cueRd l = (⟨1, (numB l 27 32 : Nat), false, (numB l 60 33 : Nat), (numB l 94 33 : Nat), bitAt l 93⟩ : Cue)) := Lib.hid (by simp [cueRd, nowC, timedB, lastC, hk, hw])
  have HE : Hid (127 = endC (kindC l) (nowC l)) := Lib.hid (by simp [endC, nowC, timedB, lastC, hk, hw])
  have HW : Hid (numB l 59 1 = 0) := Lib.hid (by rw [numB_one, hw]; rfl)
  have HB0 : Hid (BR (w.alloc (boxC zeroC)) P v 24) := Lib.hid ((Below.heap_alloc w (boxC zeroC) P hP).trans hb)
  have HR0 := Lib.hid (block_new w (boxC zeroC))
  have HA0 : Hid (Onl P w (w.alloc (boxC zeroC))) := Lib.hid ((Onl.refl P w).alloc _)
  have hRP : w.heap.size ≠ P := by omega
  clear hk hb hl ho hw
  go_enter Try.func17, Try.ntmps17
  go_wp2_with fail
  refine (getL 3 3 rfl _ P 24 v l HB0.out (HL.out.onl HO.out HA0.out) HO.out (by omega) (by omega) hn).mono ?_
  rintro e w1 ⟨rfl, hb1, ho1⟩
  rw [HK.out]
  have HA1 := Lib.hid (HA0.out.trans ho1)
  have hsz1 : w.heap.size + 1 ≤ w1.heap.size := by have := ho1.size; simpa using this
  have HF1 : Hid (FS w P w1.heap.size w.heap.size v 27 ⟨1, 0, false, 0, 0, false⟩ (w1.alloc (boxC ⟨1, 0, false, 0, 0, false⟩))) := Lib.hid ⟨(Below.heap_alloc w1 _ P (by omega)).trans hb1, block_new w1 _, (Below.heap_alloc w1 _ w.heap.size (by omega)).trans (ho1.block HR0.out hRP), HA1.out.alloc _⟩
  obtain ⟨C, hC⟩ : ∃ C, C = w1.heap.size := ⟨_, rfl⟩
  rw [← hC] at HF1
  have HCE := Lib.hid hC
  have hCP : C ≠ P := by omega
  have hCR : C ≠ w.heap.size := by omega
  have hCw : w.heap.size ≤ C := by omega
  clear hb1 ho1 hC
  go_wp2_with fail
  rw [← HCE.out]
  refine (getL 32 32 rfl _ P 27 v l HF1.out.1 (HF1.out.sl HL.out HO.out) HO.out (by omega) (by omega) hn).mono ?_
  rintro e w2 ⟨rfl, hb2, ho2⟩
  have HG2 := Lib.hid (HF1.out.get hCP hRP hb2 ho2)
  clear hb2 ho2
  have b0 := (cell_of_block (i := 0) HG2.out.2.1).trans rfl
  have b1 := (cell_of_block (i := 1) HG2.out.2.1).trans rfl
  have b2 := (cell_of_block (i := 2) HG2.out.2.1).trans rfl
  have b3 := (cell_of_block (i := 3) HG2.out.2.1).trans rfl
  have b4 := (cell_of_block (i := 4) HG2.out.2.1).trans rfl
  have b5 := (cell_of_block (i := 5) HG2.out.2.1).trans rfl
  have f1 := froz_of_block (i := 1) HG2.out.2.1
  have f2 := froz_of_block (i := 2) HG2.out.2.1
  have f3 := froz_of_block (i := 3) HG2.out.2.1
  have f4 := froz_of_block (i := 4) HG2.out.2.1
  have f5 := froz_of_block (i := 5) HG2.out.2.1
  have hlC := lt_of_blk HG2.out.2.1
  have HF2 : Hid (FS w P C w.heap.size v 59 ⟨1, (numB l 27 32 : Nat), false, 0, 0, false⟩ (w2.setCell ⟨C, 1, none⟩ (.int .i64 (numB l 27 32 : Nat)))) := Lib.hid (HG2.out.st hCP hCR hCw 1 _ ⟨1, (numB l 27 32 : Nat), false, 0, 0, false⟩ rfl)
  go_wp2_with fail
  refine (getL 1 1 rfl _ P 59 v l HF2.out.1 (HF2.out.sl HL.out HO.out) HO.out (by omega) (by omega) hn).mono ?_
  rintro e w3 ⟨rfl, hb3, ho3⟩
  rw [HW.out]
  have HG3 := Lib.hid (HF2.out.get hCP hRP hb3 ho3)
  clear hb3 ho3 b0 b1 b2 b3 b4 b5 f1 f2 f3 f4 f5 hlC
  have b0 := (cell_of_block (i := 0) HG3.out.2.1).trans rfl
  have b1 := (cell_of_block (i := 1) HG3.out.2.1).trans rfl
  have b2 := (cell_of_block (i := 2) HG3.out.2.1).trans rfl
  have b3 := (cell_of_block (i := 3) HG3.out.2.1).trans rfl
  have b4 := (cell_of_block (i := 4) HG3.out.2.1).trans rfl
  have b5 := (cell_of_block (i := 5) HG3.out.2.1).trans rfl
  have f1 := froz_of_block (i := 1) HG3.out.2.1
  have f2 := froz_of_block (i := 2) HG3.out.2.1
  have f3 := froz_of_block (i := 3) HG3.out.2.1
  have f4 := froz_of_block (i := 4) HG3.out.2.1
  have f5 := froz_of_block (i := 5) HG3.out.2.1
  have hlC := lt_of_blk HG3.out.2.1
  have HF3 : Hid (FS w P C w.heap.size v 60 ⟨1, (numB l 27 32 : Nat), false, 0, 0, false⟩ (w3.setCell ⟨C, 2, none⟩ (.bool false))) := Lib.hid (HG3.out.st hCP hCR hCw 2 _ ⟨1, (numB l 27 32 : Nat), false, 0, 0, false⟩ rfl)
  go_wp2_with fail
  refine (getL 33 33 rfl _ P 60 v l HF3.out.1 (HF3.out.sl HL.out HO.out) HO.out (by omega) (by omega) hn).mono ?_
  rintro e w4 ⟨rfl, hb4, ho4⟩
  have HG4 := Lib.hid (HF3.out.get hCP hRP hb4 ho4)
  clear hb4 ho4 b0 b1 b2 b3 b4 b5 f1 f2 f3 f4 f5 hlC
  have b0 := (cell_of_block (i := 0) HG4.out.2.1).trans rfl
  have b1 := (cell_of_block (i := 1) HG4.out.2.1).trans rfl
  have b2 := (cell_of_block (i := 2) HG4.out.2.1).trans rfl
  have b3 := (cell_of_block (i := 3) HG4.out.2.1).trans rfl
  have b4 := (cell_of_block (i := 4) HG4.out.2.1).trans rfl
  have b5 := (cell_of_block (i := 5) HG4.out.2.1).trans rfl
  have f1 := froz_of_block (i := 1) HG4.out.2.1
  have f2 := froz_of_block (i := 2) HG4.out.2.1
  have f3 := froz_of_block (i := 3) HG4.out.2.1
  have f4 := froz_of_block (i := 4) HG4.out.2.1
  have f5 := froz_of_block (i := 5) HG4.out.2.1
  have hlC := lt_of_blk HG4.out.2.1
  have HF4 : Hid (FS w P C w.heap.size v 93 ⟨1, (numB l 27 32 : Nat), false, (numB l 60 33 : Nat), 0, false⟩ (w4.setCell ⟨C, 3, none⟩ (.int .i64 (numB l 60 33 : Nat)))) := Lib.hid (HG4.out.st hCP hCR hCw 3 _ ⟨1, (numB l 27 32 : Nat), false, (numB l 60 33 : Nat), 0, false⟩ rfl)
  go_wp2_with fail
  refine (getL 1 1 rfl _ P 93 v l HF4.out.1 (HF4.out.sl HL.out HO.out) HO.out (by omega) (by omega) hn).mono ?_
  rintro e w5 ⟨rfl, hb5, ho5⟩
  rw [numB_one]
  have hq : (((b01 (bitAt l 93) : Nat) : Int) == 1) = bitAt l 93 := by cases bitAt l 93 <;> rfl
  have HG5 := Lib.hid (HF4.out.get hCP hRP hb5 ho5)
  clear hb5 ho5 b0 b1 b2 b3 b4 b5 f1 f2 f3 f4 f5 hlC
  have b0 := (cell_of_block (i := 0) HG5.out.2.1).trans rfl
  have b1 := (cell_of_block (i := 1) HG5.out.2.1).trans rfl
  have b2 := (cell_of_block (i := 2) HG5.out.2.1).trans rfl
  have b3 := (cell_of_block (i := 3) HG5.out.2.1).trans rfl
  have b4 := (cell_of_block (i := 4) HG5.out.2.1).trans rfl
  have b5 := (cell_of_block (i := 5) HG5.out.2.1).trans rfl
  have f1 := froz_of_block (i := 1) HG5.out.2.1
  have f2 := froz_of_block (i := 2) HG5.out.2.1
  have f3 := froz_of_block (i := 3) HG5.out.2.1
  have f4 := froz_of_block (i := 4) HG5.out.2.1
  have f5 := froz_of_block (i := 5) HG5.out.2.1
  have hlC := lt_of_blk HG5.out.2.1
  have HF5 : Hid (FS w P C w.heap.size v 94 ⟨1, (numB l 27 32 : Nat), false, (numB l 60 33 : Nat), 0, bitAt l 93⟩ (w5.setCell ⟨C, 5, none⟩ (.bool (bitAt l 93)))) := Lib.hid (HG5.out.st hCP hCR hCw 5 _ ⟨1, (numB l 27 32 : Nat), false, (numB l 60 33 : Nat), 0, bitAt l 93⟩ rfl)
  go_wp2_with fail
  refine (getL 33 33 rfl _ P 94 v l HF5.out.1 (HF5.out.sl HL.out HO.out) HO.out (by omega) (by omega) hn).mono ?_
  rintro e w6 ⟨rfl, hb6, ho6⟩
  have HG6 := Lib.hid (HF5.out.get hCP hRP hb6 ho6)
  clear hb6 ho6 b0 b1 b2 b3 b4 b5 f1 f2 f3 f4 f5 hlC
  have b0 := (cell_of_block (i := 0) HG6.out.2.1).trans rfl
  have b1 := (cell_of_block (i := 1) HG6.out.2.1).trans rfl
  have b2 := (cell_of_block (i := 2) HG6.out.2.1).trans rfl
  have b3 := (cell_of_block (i := 3) HG6.out.2.1).trans rfl
  have b4 := (cell_of_block (i := 4) HG6.out.2.1).trans rfl
  have b5 := (cell_of_block (i := 5) HG6.out.2.1).trans rfl
  have f1 := froz_of_block (i := 1) HG6.out.2.1
  have f2 := froz_of_block (i := 2) HG6.out.2.1
  have f3 := froz_of_block (i := 3) HG6.out.2.1
  have f4 := froz_of_block (i := 4) HG6.out.2.1
  have f5 := froz_of_block (i := 5) HG6.out.2.1
  have hlC := lt_of_blk HG6.out.2.1
  have HF6 : Hid (FS w P C w.heap.size v 127 ⟨1, (numB l 27 32 : Nat), false, (numB l 60 33 : Nat), (numB l 94 33 : Nat), bitAt l 93⟩ (w6.setCell ⟨C, 4, none⟩ (.int .i64 (numB l 94 33 : Nat)))) := Lib.hid (HG6.out.st hCP hCR hCw 4 _ ⟨1, (numB l 27 32 : Nat), false, (numB l 60 33 : Nat), (numB l 94 33 : Nat), bitAt l 93⟩ rfl)
  have hlR := lt_of_blk HG6.out.2.2.1
  have r0 := (cell_of_block (i := 0) HG6.out.2.2.1).trans rfl
  have g0 := froz_of_block (i := 0) HG6.out.2.2.1
  have r1 := (cell_of_block (i := 1) HG6.out.2.2.1).trans rfl
  have g1 := froz_of_block (i := 1) HG6.out.2.2.1
  have r2 := (cell_of_block (i := 2) HG6.out.2.2.1).trans rfl
  have g2 := froz_of_block (i := 2) HG6.out.2.2.1
  have r3 := (cell_of_block (i := 3) HG6.out.2.2.1).trans rfl
  have g3 := froz_of_block (i := 3) HG6.out.2.2.1
  have r4 := (cell_of_block (i := 4) HG6.out.2.2.1).trans rfl
  have g4 := froz_of_block (i := 4) HG6.out.2.2.1
  have r5 := (cell_of_block (i := 5) HG6.out.2.2.1).trans rfl
  have g5 := froz_of_block (i := 5) HG6.out.2.2.1
  go_wp2
  exact bodyPost_ret (v := agC ⟨1, (numB l 27 32 : Nat), false, (numB l 60 33 : Nat), (numB l 94 33 : Nat), bitAt l 93⟩) (by simp [results, Try.results17, go_sem, r0, r1, r2, r3, r4, r5, hlR]) rfl (FldP.mk HC.out rfl HE.out (HF6.out.fin hRP (Nat.le_refl _) _ _ _ _ _ _).1 (HF6.out.fin hRP (Nat.le_refl _) _ _ _ _ _ _).2)
theorem fieldsOf_any (w : World) (P : Nat) (v : Value) (l : List UInt8) (hb : BR w P v 24) (hl : Sl w 1 encU v l) (ho : offB P v) (hn : l.length ≤ 300) (hk : kindC l ≤ 3) (hi : endC (kindC l) (nowC l) ≤ 8 * l.length) :
    Calls Try.prog 17 #[.pointer (some ⟨P, 0, none⟩)] w (FldP w P v l) := by
  have hk4 : kindC l = 0 ∨ kindC l = 1 ∨ kindC l = 2 ∨ kindC l = 3 := by omega
  have hnow : nowC l = (timedB (kindC l) && bitAt l 59) := rfl
  rw [hnow] at hi
  rcases hk4 with h | h | h | h <;> rw [h] at hi
  · exact flo0_any w P v l hb hl ho hn h (by simpa [endC] using hi)
  · cases hw : bitAt l 59 <;> rw [hw] at hi
    · exact flo1t_any w P v l hb hl ho hn h hw (by simpa [endC, timedB, lastC] using hi)
    · exact flo1n_any w P v l hb hl ho hn h hw (by simpa [endC, timedB, lastC] using hi)
  · cases hw : bitAt l 59 <;> rw [hw] at hi
    · exact flo2t_any w P v l hb hl ho hn h hw (by simpa [endC, timedB, lastC] using hi)
    · exact flo2n_any w P v l hb hl ho hn h hw (by simpa [endC, timedB, lastC] using hi)
  · exact flo3_any w P v l hb hl ho hn h (by simpa [endC] using hi)
end Go.Proofs.Ytpdeodoidlcdoaa

/- What ReadCue leaves. -/
namespace Go.Proofs.Ytpdeodoidlcdoaa
open Go.RowKit

def RdP (w : World) (a : CueAns) : Ending → World → Prop := fun e w' => e = .returned (.tuple #[agC a.cue, .int .i64 a.at_, .int .i64 a.fault]) ∧ Below w.heap.size w w'
theorem RdP.mk {w w' : World} {a : CueAns} {c : Cue} {z f : Int} {v : Value} (ha : a = ⟨c, z, f⟩) (hv : v = .tuple #[agC c, .int .i64 z, .int .i64 f]) (hb : Below w.heap.size w w') : RdP w a (.returned v) w' := by
  subst ha hv
  exact ⟨rfl, hb⟩
end Go.Proofs.Ytpdeodoidlcdoaa

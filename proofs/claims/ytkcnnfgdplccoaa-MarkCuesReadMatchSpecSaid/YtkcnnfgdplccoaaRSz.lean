/- sizeOfNow and rightSize. -/
import Derived.Test.YtkcnnfgdplccoaaGet
namespace Go.Proofs.Ytkcnnfgdplccoaa
open Go.RowKit

theorem getL (m : Int) (many : Nat) (hm' : m = many) (w : World) (P i : Nat) (v : Value) (l : List UInt8) (hb : BR w P v i) (hl : Sl w 1 encU v l) (ho : offB P v) (hi : i + many ≤ 8 * l.length) (hm : many ≤ 33) (hn : l.length ≤ 300) :
    Calls Try.prog 25 #[.pointer (some ⟨P, 0, none⟩), .int .i64 m] w (GetP w P v (i + many) (numB l i many)) := by
  subst hm'
  exact get_any w P i many v l hb hl ho hi hm hn
theorem numB_one (l : List UInt8) (a : Nat) : numB l a 1 = b01 (bitAt l a) := by simp [numB]
theorem BR.set {w : World} {P i : Nat} {v : Value} (h : BR w P v i) (j : Nat) {z : Int} (hz : z = j) : BR (w.setCell ⟨P, 1, none⟩ (.int .i64 z)) P v j := by
  unfold BR
  rw [heap_setCell_same _ P 1 _ _ (.int .i64 z) h, hz]
  rfl

def nowSz (b : Bool) : Int := if b = true then 0 else 4
set_option maxRecDepth 100000 in
set_option maxHeartbeats 4000000 in
theorem sizeOfNow_any (w : World) (P i : Nat) (v : Value) (l : List UInt8) (hb : BR w P v i) (hl : Sl w 1 encU v l) (ho : offB P v) (hi : i + 32 + 1 ≤ 8 * l.length) (hn : l.length ≤ 300) :
    Calls Try.prog 33 #[.pointer (some ⟨P, 0, none⟩)] w fun e w' => e = .returned (.int .i64 (nowSz (bitAt l (i + 32)))) ∧ Onl P w w' := by
  have HB := Lib.hid hb
  have HL := Lib.hid hl
  have HO := Lib.hid ho
  have c1 := (cell_of_block (i := 1) hb).trans rfl
  have f1 := froz_of_block (i := 1) hb
  have hP := lt_of_blk hb
  have HB1 := Lib.hid (BR.set hb (i + 32) (z := (i : Int) + 32) (by omega))
  have HO1 := Lib.hid (Onl.set P w 1 (.int .i64 ((i : Int) + 32)))
  clear hb hl ho
  go_enter Try.func33, Try.ntmps33
  go_wp2_with fail
  refine (getL 1 1 rfl _ P (i + 32) v l HB1.out (HL.out.onl HO.out HO1.out) HO.out hi (by omega) hn).mono ?_
  rintro e w2 ⟨rfl, hb2, ho2⟩
  rw [numB_one]
  have HW2 := Lib.hid (HO1.out.trans ho2)
  clear hb2 ho2
  obtain ⟨t, ht⟩ : ∃ t, t = bitAt l (i + 32) := ⟨_, rfl⟩
  rw [← ht]
  have HT : Hid (nowSz (bitAt l (i + 32)) = nowSz t) := Lib.hid (by rw [ht])
  clear ht
  cases t
  · have hv : Hid (4 = nowSz (bitAt l (i + 32))) := Lib.hid HT.out.symm
    go_wp2
    go_ret
    exact ⟨ret_int hv.out, HW2.out⟩
  · have hv : Hid (0 = nowSz (bitAt l (i + 32))) := Lib.hid HT.out.symm
    go_wp2
    go_ret
    exact ⟨ret_int hv.out, HW2.out⟩

theorem rightC_of {l : List UInt8} {n : Nat} (k : Nat) (hk : kindC l = k) : rightC l n = (decide (k ≤ 3) && (n == sizeC k (timedB k && bitAt l 59))) := by unfold rightC nowC; rw [hk]

set_option maxRecDepth 100000 in
set_option maxHeartbeats 4000000 in
theorem rightSize_any (w : World) (v : Value) (l : List UInt8) (n : Nat) (hl : Sl w 1 encU v l) (hn : l.length = 3 + n) (h3 : l.length ≤ 300) :
    Calls Try.prog 23 #[v, .int .i64 n] w fun e w' => e = .returned (.bool (rightC l n)) ∧ Below w.heap.size w w' := by
  have hne : l ≠ [] := fun e => by rw [e] at hn; simp at hn; omega
  have HO := Lib.hid (hl.offE (P := w.heap.size) (fun _ => by simp [encU]) (Nat.le_refl _) hne)
  have HL := Lib.hid hl
  obtain ⟨ao, cap, rfl, _, _, _, _⟩ := hl
  by_cases h5 : n < 5
  · have hz : (n : Int) < 5 := by omega
    have hv : Hid (false = rightC l n) := Lib.hid (by
      unfold rightC sizeC
      have := b01_lt
      symm
      rw [Bool.and_eq_false_iff]
      right
      rw [beq_eq_false_iff_ne]
      split
      · omega
      split
      · omega
      split
      · split <;> omega
      · split <;> omega)
    clear hn
    go_enter Try.func23, Try.ntmps23
    go_wp2
    go_ret
    exact ⟨ret_bool hv.out, Below.refl _ _⟩
  have hz : ¬ (n : Int) < 5 := by omega
  have hnl := Lib.hid hn
  obtain ⟨w1, hw1⟩ : ∃ w1, w1 = w.alloc (.cells #[.slice ao l.length cap, .int .i64 24] 42) := ⟨_, rfl⟩
  have HB1 : Hid (BR w1 w.heap.size (.slice ao l.length cap) 24) := Lib.hid (by rw [hw1]; exact block_new w _)
  have HW1 : Hid (Below w.heap.size w w1) := Lib.hid (by rw [hw1]; exact (Below.refl _ _).alloc (Nat.le_refl _) _)
  have HL1 := Lib.hid (HL.out.below HW1.out (Nat.le_refl _))
  have hge : 8 ≤ l.length := by omega
  have HK := Lib.hid (fun (k : Nat) (h : kindC l = k) => rightC_of (n := n) k h)
  generalize rightC l n = RC at HK ⊢
  clear hn
  have HW := Lib.hid hw1
  clear hw1
  go_enter Try.func23, Try.ntmps23
  go_wp2_with fail
  rw [← HW.out]
  refine (getL 3 3 rfl _ _ 24 _ l HB1.out HL1.out HO.out (by omega) (by omega) h3).mono ?_
  rintro e w2 ⟨rfl, hb2, ho2⟩
  have HB2 := Lib.hid hb2
  have HL2 := Lib.hid (HL1.out.onl HO.out ho2)
  have HW2 := Lib.hid (HW1.out.trans (ho2.toBelow HW1.out.size (Nat.le_refl _)))
  have hk8 : kindC l < 8 := numB_lt l 24 3
  have HKE : Hid (kindC l = numB l 24 3) := Lib.hid rfl
  clear hb2 ho2
  obtain ⟨k, hk⟩ : ∃ k, k = kindC l := ⟨_, rfl⟩
  rw [← hk] at hk8 HKE
  rw [← HKE.out]
  have HR := Lib.hid (HK.out k hk.symm)
  have HN : Hid (27 + 32 + 1 ≤ 8 * l.length) := Lib.hid (by omega)
  have hS := sizeOfNow_any w2 w.heap.size 27 _ l HB2.out HL2.out HO.out HN.out h3
  simp only [Nat.reduceAdd] at hS
  generalize bitAt l 59 = nw at hS HR
  have HS := Lib.hid hS
  clear hk HK HKE hge HN hS
  by_cases h4 : 4 ≤ k
  · have hv : Hid (false = RC) := Lib.hid (by rw [HR.out]; simp; omega)
    have e0 : ((k : Int) == 0) = false := by rw [beq_eq_false_iff_ne]; omega
    have e1 : ((k : Int) == 1) = false := by rw [beq_eq_false_iff_ne]; omega
    have e2 : ((k : Int) == 2) = false := by rw [beq_eq_false_iff_ne]; omega
    have e3 : ((k : Int) == 3) = false := by rw [beq_eq_false_iff_ne]; omega
    go_wp2
    go_ret
    exact ⟨ret_bool hv.out, HW2.out⟩
  have hk4 : k = 0 ∨ k = 1 ∨ k = 2 ∨ k = 3 := by omega
  clear h4 hk8
  rcases hk4 with rfl | rfl | rfl | rfl
  · cases h : (n == 5)
    · have hd : ((n : Int) == 5) = false := by rw [beq_eq_false_iff_ne] at h ⊢; omega
      have hv : Hid (false = RC) := Lib.hid (by rw [HR.out]; simp only [sizeC]; rw [if_pos trivial, h]; rfl)
      clear h
      go_wp2
      go_ret
      exact ⟨ret_bool hv.out, HW2.out⟩
    · have hd : ((n : Int) == 5) = true := by rw [beq_iff_eq] at h ⊢; omega
      have hv : Hid (true = RC) := Lib.hid (by rw [HR.out]; simp only [sizeC]; rw [if_pos trivial, h]; rfl)
      clear h
      go_wp2
      go_ret
      exact ⟨ret_bool hv.out, HW2.out⟩
  · by_cases h13 : n = 13
    · subst h13
      have hv : Hid ((nowSz nw == 0) = RC) := Lib.hid (by rw [HR.out]; cases nw <;> rfl)
      go_wp2_with fail
      refine HS.out.mono ?_
      rintro e w3 ⟨rfl, ho3⟩
      have HW3 := Lib.hid (HW2.out.trans (ho3.toBelow HW2.out.size (Nat.le_refl _)))
      clear ho3
      go_wp2
      go_ret
      exact ⟨ret_bool hv.out, HW3.out⟩
    by_cases h17 : n = 17
    · subst h17
      have hv : Hid ((nowSz nw == 4) = RC) := Lib.hid (by rw [HR.out]; cases nw <;> rfl)
      go_wp2_with fail
      refine HS.out.mono ?_
      rintro e w3 ⟨rfl, ho3⟩
      have HW3 := Lib.hid (HW2.out.trans (ho3.toBelow HW2.out.size (Nat.le_refl _)))
      clear ho3
      go_wp2
      go_ret
      exact ⟨ret_bool hv.out, HW3.out⟩
    have e0 : ((n : Int) == 13) = false := by rw [beq_eq_false_iff_ne]; omega
    have e1 : ((n : Int) == 17) = false := by rw [beq_eq_false_iff_ne]; omega
    have hv : Hid (false = RC) := Lib.hid (by rw [HR.out]; unfold sizeC; cases nw <;> simp [timedB] <;> first | assumption | omega)
    clear h13 h17
    go_wp2
    go_ret
    exact ⟨ret_bool hv.out, HW2.out⟩
  · by_cases h13 : n = 9
    · subst h13
      have hv : Hid ((nowSz nw == 0) = RC) := Lib.hid (by rw [HR.out]; cases nw <;> rfl)
      go_wp2_with fail
      refine HS.out.mono ?_
      rintro e w3 ⟨rfl, ho3⟩
      have HW3 := Lib.hid (HW2.out.trans (ho3.toBelow HW2.out.size (Nat.le_refl _)))
      clear ho3
      go_wp2
      go_ret
      exact ⟨ret_bool hv.out, HW3.out⟩
    by_cases h17 : n = 13
    · subst h17
      have hv : Hid ((nowSz nw == 4) = RC) := Lib.hid (by rw [HR.out]; cases nw <;> rfl)
      go_wp2_with fail
      refine HS.out.mono ?_
      rintro e w3 ⟨rfl, ho3⟩
      have HW3 := Lib.hid (HW2.out.trans (ho3.toBelow HW2.out.size (Nat.le_refl _)))
      clear ho3
      go_wp2
      go_ret
      exact ⟨ret_bool hv.out, HW3.out⟩
    have e0 : ((n : Int) == 9) = false := by rw [beq_eq_false_iff_ne]; omega
    have e1 : ((n : Int) == 13) = false := by rw [beq_eq_false_iff_ne]; omega
    have hv : Hid (false = RC) := Lib.hid (by rw [HR.out]; unfold sizeC; cases nw <;> simp [timedB] <;> first | assumption | omega)
    clear h13 h17
    go_wp2
    go_ret
    exact ⟨ret_bool hv.out, HW2.out⟩
  · cases h : (n == 9)
    · have hd : ((n : Int) == 9) = false := by rw [beq_eq_false_iff_ne] at h ⊢; omega
      have hv : Hid (false = RC) := Lib.hid (by rw [HR.out]; simp only [sizeC]; rw [if_neg (by omega), if_pos trivial, h]; rfl)
      clear h
      go_wp2
      go_ret
      exact ⟨ret_bool hv.out, HW2.out⟩
    · have hd : ((n : Int) == 9) = true := by rw [beq_iff_eq] at h ⊢; omega
      have hv : Hid (true = RC) := Lib.hid (by rw [HR.out]; simp only [sizeC]; rw [if_neg (by omega), if_pos trivial, h]; rfl)
      clear h
      go_wp2
      go_ret
      exact ⟨ret_bool hv.out, HW2.out⟩
end Go.Proofs.Ytkcnnfgdplccoaa

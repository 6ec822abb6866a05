/- A cue that is written is read as it was; plain. -/
import Derived.Test.YtkcnnfgdplccoaaCbkR
namespace Go.Proofs.Ytkcnnfgdplccoaa
open Go.RowKit
set_option linter.unusedSimpArgs false

theorem step_n {l : List UInt8} {A R : List Bool} {a k x : Nat} (h : openL l = A ++ (bitsN x k ++ R)) (ha : A.length = a) (hx : x < 2 ^ k) :
    numB l a k = x ∧ openL l = (A ++ bitsN x k) ++ R ∧ (A ++ bitsN x k).length = a + k :=
  ⟨numB_mid h ha hx, by rw [List.append_assoc]; exact h, by rw [List.length_append, bitsN_len, ha]⟩
theorem step_b {l : List UInt8} {A R : List Bool} {a : Nat} {t : Bool} (h : openL l = A ++ ([t] ++ R)) (ha : A.length = a) :
    bitAt l a = t ∧ openL l = (A ++ [t]) ++ R ∧ (A ++ [t]).length = a + 1 :=
  ⟨bit_mid h ha, by rw [List.append_assoc]; exact h, by rw [List.length_append, ha]; rfl⟩

/-- What the bits of a cue say. -/
def SaysC (l : List UInt8) (n : Nat) (c : Cue) : Prop := rightC l n = true ∧ badAt l (endC (kindC l) (nowC l)) (8 * (n - 1) - endC (kindC l) (nowC l)) = none ∧ cueRd l = c
theorem says_of {l : List UInt8} {n k : Nat} {now : Bool} {c : Cue} (hk : kindC l = k) (hn : nowC l = now) (h3 : k ≤ 3) (hs : n = sizeC k now) (hb : badAt l (endC k now) (8 * (n - 1) - endC k now) = none) (hc : cueRd l = c) : SaysC l n c := by
  unfold SaysC rightC
  rw [hk, hn]
  exact ⟨by rw [Bool.and_eq_true, decide_eq_true_eq, beq_iff_eq]; exact ⟨h3, hs⟩, hb, hc⟩

theorem says_any {l : List UInt8} {A Z : List Bool} {n k e t q : Nat} {no au : Bool} (hA : A.length = 24) (ho : openL l = A ++ (padO (fieldsL ⟨k, e, no, t, q, au⟩) ++ Z)) (hz : n = (bodyC ⟨k, e, no, t, q, au⟩).length + 4)
    (h : checkC ⟨k, e, no, t, q, au⟩ = 0) : SaysC l n ⟨k, e, no, t, q, au⟩ := by
  obtain ⟨hk, hf, ⟨hev, hti, hle⟩, _⟩ := checkC_zero h
  simp only at hk hev hti hle
  have hk4 : k = 0 ∨ k = 1 ∨ k = 2 ∨ k = 3 := by omega
  have he : e < 2 ^ 32 := by have : (2 : Nat) ^ 32 = 4294967296 := rfl; omega
  have ht : t < 2 ^ 33 := by have : (2 : Nat) ^ 33 = 8589934592 := rfl; omega
  have hq : q < 2 ^ 33 := by have : (2 : Nat) ^ 33 = 8589934592 := rfl; omega
  rw [bodyC_size] at hz
  unfold formB at hf
  simp only at hf
  rcases hk4 with rfl | rfl | rfl | rfl
  · obtain rfl : e = 0 := by simp at hf; omega
    obtain rfl : no = false := by cases no <;> first | rfl | simp at hf
    obtain rfl : t = 0 := by simp at hf; omega
    obtain rfl : q = 0 := by simp at hf; omega
    obtain rfl : au = false := by cases au <;> first | rfl | simp at hf
    rw [show ((0 : Nat) : Int) = 0 from rfl, fields_0] at hz ho
    rw [pad_room _ 5 (by simp [bitsN_len])] at ho
    simp only [List.append_assoc] at ho
    obtain ⟨s1, o1, a1⟩ := step_n ho hA (by decide)
    have hkc : kindC l = 0 := s1
    have hno : nowC l = false := by simp [nowC, timedB, hkc]
    have hb := fill_mid o1 a1
    have hn5 : n = 5 := by rw [hz]; simp [bitsN_len]
    exact says_of hkc hno (by omega) (by rw [hn5]; rfl) (by rw [hn5]; exact hb) (by simp [cueRd, nowC, timedB, hkc])
  · cases no
    · rw [show ((1 : Nat) : Int) = 1 from rfl, fields_1t] at hz ho
      rw [pad_room _ 1 (by simp [bitsN_len])] at ho
      simp only [List.append_assoc] at ho
      obtain ⟨s1, o1, a1⟩ := step_n ho hA (by decide)
      obtain ⟨s2, o2, a2⟩ := step_n o1 a1 he
      obtain ⟨s3, o3, a3⟩ := step_b o2 a2
      obtain ⟨s4, o4, a4⟩ := step_n o3 a3 ht
      obtain ⟨s5, o5, a5⟩ := step_b o4 a4
      obtain ⟨s6, o6, a6⟩ := step_n o5 a5 hq
      simp only [Nat.reduceAdd] at s1 s2 s3 s4 s5 s6 a6
      have hkc : kindC l = 1 := s1
      have hno : nowC l = false := by simp [nowC, timedB, hkc, s3]
      have hb := fill_mid o6 a6
      have hn5 : n = 17 := by rw [hz]; simp [bitsN_len]
      exact says_of hkc hno (by omega) (by rw [hn5]; rfl) (by rw [hn5]; exact hb) (by simp [cueRd, nowC, timedB, lastC, hkc, s3, s2, s4, s5, s6])
    · obtain rfl : t = 0 := by simp at hf; omega
      rw [show ((1 : Nat) : Int) = 1 from rfl, fields_1n] at hz ho
      rw [pad_room _ 2 (by simp [bitsN_len])] at ho
      simp only [List.append_assoc] at ho
      obtain ⟨s1, o1, a1⟩ := step_n ho hA (by decide)
      obtain ⟨s2, o2, a2⟩ := step_n o1 a1 he
      obtain ⟨s3, o3, a3⟩ := step_b o2 a2
      obtain ⟨s5, o5, a5⟩ := step_b o3 a3
      obtain ⟨s6, o6, a6⟩ := step_n o5 a5 hq
      simp only [Nat.reduceAdd] at s1 s2 s3 s5 s6 a6
      have hkc : kindC l = 1 := s1
      have hno : nowC l = true := by simp [nowC, timedB, hkc, s3]
      have hb := fill_mid o6 a6
      have hn5 : n = 13 := by rw [hz]; simp [bitsN_len]
      exact says_of hkc hno (by omega) (by rw [hn5]; rfl) (by rw [hn5]; exact hb) (by simp [cueRd, nowC, timedB, lastC, hkc, s3, s2, s5, s6])
  · obtain rfl : q = 0 := by simp at hf; omega
    obtain rfl : au = false := by cases au <;> first | rfl | simp at hf
    cases no
    · rw [show ((2 : Nat) : Int) = 2 from rfl, fields_2t] at hz ho
      rw [pad_room _ 3 (by simp [bitsN_len])] at ho
      simp only [List.append_assoc] at ho
      obtain ⟨s1, o1, a1⟩ := step_n ho hA (by decide)
      obtain ⟨s2, o2, a2⟩ := step_n o1 a1 he
      obtain ⟨s3, o3, a3⟩ := step_b o2 a2
      obtain ⟨s4, o4, a4⟩ := step_n o3 a3 ht
      simp only [Nat.reduceAdd] at s1 s2 s3 s4 a4
      have hkc : kindC l = 2 := s1
      have hno : nowC l = false := by simp [nowC, timedB, hkc, s3]
      have hb := fill_mid o4 a4
      have hn5 : n = 13 := by rw [hz]; simp [bitsN_len]
      exact says_of hkc hno (by omega) (by rw [hn5]; rfl) (by rw [hn5]; exact hb) (by simp [cueRd, nowC, timedB, lastC, hkc, s3, s2, s4])
    · obtain rfl : t = 0 := by simp at hf; omega
      rw [show ((2 : Nat) : Int) = 2 from rfl, fields_2n] at hz ho
      rw [pad_room _ 4 (by simp [bitsN_len])] at ho
      simp only [List.append_assoc] at ho
      obtain ⟨s1, o1, a1⟩ := step_n ho hA (by decide)
      obtain ⟨s2, o2, a2⟩ := step_n o1 a1 he
      obtain ⟨s3, o3, a3⟩ := step_b o2 a2
      simp only [Nat.reduceAdd] at s1 s2 s3 a3
      have hkc : kindC l = 2 := s1
      have hno : nowC l = true := by simp [nowC, timedB, hkc, s3]
      have hb := fill_mid o3 a3
      have hn5 : n = 9 := by rw [hz]; simp [bitsN_len]
      exact says_of hkc hno (by omega) (by rw [hn5]; rfl) (by rw [hn5]; exact hb) (by simp [cueRd, nowC, timedB, lastC, hkc, s3, s2])
  · obtain rfl : no = false := by cases no <;> first | rfl | simp at hf
    obtain rfl : t = 0 := by simp at hf; omega
    obtain rfl : q = 0 := by simp at hf; omega
    obtain rfl : au = false := by cases au <;> first | rfl | simp at hf
    rw [show ((3 : Nat) : Int) = 3 from rfl, fields_3] at hz ho
    rw [pad_room _ 5 (by simp [bitsN_len])] at ho
    simp only [List.append_assoc] at ho
    obtain ⟨s1, o1, a1⟩ := step_n ho hA (by decide)
    obtain ⟨s2, o2, a2⟩ := step_n o1 a1 he
    simp only [Nat.reduceAdd] at s1 s2 a2
    have hkc : kindC l = 3 := s1
    have hno : nowC l = false := by simp [nowC, timedB, hkc]
    have hb := fill_mid o2 a2
    have hn5 : n = 9 := by rw [hz]; simp [bitsN_len]
    exact says_of hkc hno (by omega) (by rw [hn5]; rfl) (by rw [hn5]; exact hb) (by simp [cueRd, nowC, timedB, hkc, s2])

theorem crc_cueB (c : Cue) : crc (cueB c) = 0 := crc_sum _
theorem cueB_len (c : Cue) : (cueB c).length = 3 + ((bodyC c).length + 4) ∧ (cueB c).length ≤ 20 := by
  have h1 := headC_len ((bodyC c).length + 4)
  have h2 : (bodyC c).length ≤ 13 := by rw [bodyC_size]; have := fieldsL_len c; omega
  unfold cueB noSum sumBytes
  simp only [List.length_append, List.length_cons, List.length_nil]
  omega
theorem body_13 (c : Cue) : (bodyC c).length ≤ 13 := by
  rw [bodyC_size]
  have := fieldsL_len c
  omega

/-- A cue is read as it was written. -/
theorem read_write (c : Cue) (h : checkC c = 0) : readC (cueB c) = ⟨c, 0, 0⟩ := by
  have hl := (cueB_len c).1
  have h13 := body_13 c
  have hn : (bodyC c).length + 4 < 4096 := by omega
  obtain ⟨n, hN⟩ : ∃ n, n = (bodyC c).length + 4 := ⟨_, rfl⟩
  have ho : openL (cueB c) = [] ++ (bitsN 252 8 ++ (bitsN n 12 ++ (bitsN 15 4 ++ (padO (fieldsL c) ++ openL (sumBytes (crc (noSum c))))))) := by
    unfold cueB
    rw [openL_append]
    conv => lhs; lhs; unfold noSum
    rw [openL_append, headC_open, bodyC_open, ← hN]
    simp only [List.append_assoc, List.nil_append]
  rw [← hN] at hl hn
  have hcr := crc_cueB c
  obtain ⟨s1, o1, a1⟩ := step_n ho (a := 0) rfl (by decide)
  obtain ⟨s2, o2, a2⟩ := step_n o1 a1 (by have : (2 : Nat) ^ 12 = 4096 := rfl; omega)
  obtain ⟨s3, o3, a3⟩ := step_n o2 a2 (by decide)
  simp only [Nat.reduceAdd] at s1 s2 s3 a3
  have h0 : (cueB c).getD 0 0 = 252 := by
    have := numB_in (cueB c) 0 0 8 (by omega)
    simp only [Nat.mul_zero, Nat.add_zero, Nat.sub_zero, Nat.sub_self, Nat.pow_zero, Nat.div_one] at this
    rw [s1] at this
    have hlt := ((cueB c).getD 0 0).toNat_lt
    rw [← UInt8.toNat_inj]
    have e : (2 : Nat) ^ 8 = 256 := rfl
    rw [e] at this
    have : ((cueB c).getD 0 0).toNat = 252 := by omega
    rw [this]
    rfl
  obtain ⟨hk, _, ⟨hev, hti, hle⟩, _⟩ := checkC_zero h
  generalize hB : cueB c = l at *
  have hs : SaysC l n c := by
    obtain ⟨ki, ev, no, ti, le, au⟩ := c
    simp only at hk hev hti hle
    obtain ⟨k, rfl⟩ := Int.eq_ofNat_of_zero_le hk.1
    obtain ⟨e, rfl⟩ := Int.eq_ofNat_of_zero_le hev.1
    obtain ⟨t, rfl⟩ := Int.eq_ofNat_of_zero_le hti.1
    obtain ⟨q, rfl⟩ := Int.eq_ofNat_of_zero_le hle.1
    exact says_any a3 o3 hN h
  obtain ⟨hr, hb, hc⟩ := hs
  unfold readC
  rw [if_neg (by omega), if_neg (by omega), if_neg (by rw [h0]; simp), s2]
  unfold headRd
  rw [if_neg (by omega), if_neg (by omega)]
  unfold bodyRd
  rw [hr, if_neg (by simp), s3, if_neg (by simp)]
  unfold fillC
  rw [hb]
  show tailC l (cueRd l) = _
  unfold tailC
  rw [hcr, if_neg (by simp), hc, h, if_neg (by simp)]
end Go.Proofs.Ytkcnnfgdplccoaa

/- A cue is read as it was written, and written as it was read; plain. -/
import Derived.Test.YtkcnnfgdplccoaaCbkL
namespace Go.Proofs.Ytkcnnfgdplccoaa
open Go.RowKit
set_option linter.unusedSimpArgs false

theorem bodyC_open (c : Cue) : openL (bodyC c) = padO (fieldsL c) := openL_pk (by rw [padO_len8]; omega)
theorem headC_open (n : Nat) : openL (headC n) = (bitsN 252 8 ++ bitsN n 12) ++ bitsN 15 4 := openL_pk (by simp [bitsN_len])
theorem bodyC_size (c : Cue) : (bodyC c).length = ((fieldsL c).length + 7) / 8 := by unfold bodyC; rw [pkD_len, padO_len8]; omega
theorem pad_room (L : List Bool) (m : Nat) (h : m = (8 - L.length % 8) % 8) : padO L = L ++ List.replicate m true := by rw [h]; rfl

/-- The bits of a cue's fields. -/
theorem fields_0 (e t q : Int) (no au : Bool) : fieldsL ⟨0, e, no, t, q, au⟩ = bitsN 0 3 := by simp [fieldsL]
theorem fields_3 (e : Nat) (t q : Int) (no au : Bool) : fieldsL ⟨3, e, no, t, q, au⟩ = bitsN 3 3 ++ bitsN e 32 := by simp [fieldsL]
theorem fields_2n (e : Nat) (t q : Int) (au : Bool) : fieldsL ⟨2, e, true, t, q, au⟩ = bitsN 2 3 ++ (bitsN e 32 ++ [true]) := by simp [fieldsL]
theorem fields_2t (e t : Nat) (q : Int) (au : Bool) : fieldsL ⟨2, e, false, t, q, au⟩ = bitsN 2 3 ++ (bitsN e 32 ++ ([false] ++ bitsN t 33)) := by simp [fieldsL]
theorem fields_1n (e q : Nat) (t : Int) (au : Bool) : fieldsL ⟨1, e, true, t, q, au⟩ = bitsN 1 3 ++ (bitsN e 32 ++ ([true] ++ ([au] ++ bitsN q 33))) := by simp [fieldsL]
theorem fields_1t (e t q : Nat) (au : Bool) : fieldsL ⟨1, e, false, t, q, au⟩ = bitsN 1 3 ++ (bitsN e 32 ++ ([false] ++ (bitsN t 33 ++ ([au] ++ bitsN q 33)))) := by simp [fieldsL]

/-- Bytes that begin with the bits of a cue. -/
theorem take_head {l : List UInt8} {n : Nat} (h1 : 24 ≤ 8 * l.length) (h2 : l.getD 0 0 = 252) (h3 : numB l 8 12 = n) (h4 : numB l 20 4 = 15) : (openL l).take 24 = openL (headC n) := by
  rw [headC_open]
  have a0 : numB l 0 8 = 252 := by
    have := numB_in l 0 0 8 (by omega)
    simp only [Nat.mul_zero, Nat.add_zero, h2, Nat.sub_zero, Nat.sub_self, Nat.pow_zero, Nat.div_one] at this
    exact this
  have t8 := take_seg l 0 8 (by omega)
  have t20 := take_seg l 8 12 (by omega)
  have t24 := take_seg l 20 4 (by omega)
  simp only [Nat.zero_add, List.take_zero, List.nil_append, Nat.reduceAdd] at t8 t20 t24
  rw [t24, t20, t8, a0, h3, h4]
theorem openL_takeB (l : List UInt8) (k : Nat) (hk : k ≤ l.length) : openL (l.take k) = (openL l).take (8 * k) := by
  have h : openL l = openL (l.take k) ++ openL (l.drop k) := by rw [← openL_append, List.take_append_drop]
  rw [h, List.take_left' (by rw [openL_len, List.length_take]; omega)]

theorem take_body {l : List UInt8} {n : Nat} (hl : l.length = 3 + n) (hr : rightC l n = true) (hb : badAt l (endC (kindC l) (nowC l)) (8 * (n - 1) - endC (kindC l) (nowC l)) = none) :
    (openL l).take (8 * (n - 1)) = (openL l).take 24 ++ openL (bodyC (cueRd l)) ∧ n = (bodyC (cueRd l)).length + 4 := by
  unfold rightC at hr
  rw [Bool.and_eq_true, decide_eq_true_eq, beq_iff_eq] at hr
  obtain ⟨hk, hn⟩ := hr
  have he := endC_le hk hn
  have hk4 : kindC l = 0 ∨ kindC l = 1 ∨ kindC l = 2 ∨ kindC l = 3 := by omega
  have hnow : nowC l = (timedB (kindC l) && bitAt l 59) := rfl
  have hf := take_fill l (8 * (n - 1) - endC (kindC l) (nowC l)) (endC (kindC l) (nowC l)) (by omega) hb
  rw [show endC (kindC l) (nowC l) + (8 * (n - 1) - endC (kindC l) (nowC l)) = 8 * (n - 1) by omega] at hf
  rw [hf, bodyC_open, bodyC_size]
  have t27 := fun h => take_seg l 24 3 h
  have t59 := fun h => take_seg l 27 32 h
  have t60 := fun h => take_one l 59 h
  have t93 := fun h => take_seg l 60 33 h
  simp only [Nat.reduceAdd] at t27 t59 t60 t93
  have hkn : numB l 24 3 = kindC l := rfl
  rcases hk4 with h | h | h | h
  · have hc : cueRd l = ⟨(0 : Nat), (0 : Nat), false, (0 : Nat), (0 : Nat), false⟩ := by simp [cueRd, nowC, timedB, h]
    rw [h] at hnow hn hkn
    rw [hc, h, hnow]
    rw [hnow] at hn
    simp [timedB, sizeC] at hn
    subst hn
    rw [show ((0 : Nat) : Int) = 0 from rfl, fields_0]
    refine ⟨?_, by simp [bitsN_len]⟩
    rw [pad_room _ 5 (by simp [bitsN_len])]
    have e : endC 0 (timedB 0 && bitAt l 59) = 27 := by simp [endC, timedB, lastC]
    rw [e, t27 (by omega), hkn]
    simp [List.append_assoc]
  · cases hw : bitAt l 59
    · have hc : cueRd l = ⟨(1 : Nat), (numB l 27 32 : Nat), false, (numB l 60 33 : Nat), (numB l 94 33 : Nat), bitAt l 93⟩ := by simp [cueRd, nowC, timedB, lastC, h, hw]
      have t94 := fun h => take_one l 93 h
      have t127 := fun h => take_seg l 94 33 h
      simp only [Nat.reduceAdd] at t94 t127
      rw [h, hw] at hnow
      rw [h] at hn hkn
      rw [hc, h, hnow]
      rw [hnow] at hn
      simp [timedB, sizeC] at hn
      subst hn
      rw [show ((1 : Nat) : Int) = 1 from rfl, fields_1t]
      refine ⟨?_, by simp [bitsN_len]⟩
      rw [pad_room _ 1 (by simp [bitsN_len])]
      have e : endC 1 (timedB 1 && false) = 127 := by simp [endC, timedB, lastC]
      rw [e, t127 (by omega), t94 (by omega), t93 (by omega), t60 (by omega), t59 (by omega), t27 (by omega), hkn, hw]
      simp [List.append_assoc]
    · have hc : cueRd l = ⟨(1 : Nat), (numB l 27 32 : Nat), true, 0, (numB l 61 33 : Nat), bitAt l 60⟩ := by simp [cueRd, nowC, timedB, lastC, h, hw]
      have t61 := fun h => take_one l 60 h
      have t94 := fun h => take_seg l 61 33 h
      simp only [Nat.reduceAdd] at t61 t94
      rw [h, hw] at hnow
      rw [h] at hn hkn
      rw [hc, h, hnow]
      rw [hnow] at hn
      simp [timedB, sizeC] at hn
      subst hn
      rw [show ((1 : Nat) : Int) = 1 from rfl, fields_1n]
      refine ⟨?_, by simp [bitsN_len]⟩
      rw [pad_room _ 2 (by simp [bitsN_len])]
      have e : endC 1 (timedB 1 && true) = 94 := by simp [endC, timedB, lastC]
      rw [e, t94 (by omega), t61 (by omega), t60 (by omega), t59 (by omega), t27 (by omega), hkn, hw]
      simp [List.append_assoc]
  · cases hw : bitAt l 59
    · have hc : cueRd l = ⟨(2 : Nat), (numB l 27 32 : Nat), false, (numB l 60 33 : Nat), 0, false⟩ := by simp [cueRd, nowC, timedB, lastC, h, hw]
      rw [h, hw] at hnow
      rw [h] at hn hkn
      rw [hc, h, hnow]
      rw [hnow] at hn
      simp [timedB, sizeC] at hn
      subst hn
      rw [show ((2 : Nat) : Int) = 2 from rfl, fields_2t]
      refine ⟨?_, by simp [bitsN_len]⟩
      rw [pad_room _ 3 (by simp [bitsN_len])]
      have e : endC 2 (timedB 2 && false) = 93 := by simp [endC, timedB, lastC]
      rw [e, t93 (by omega), t60 (by omega), t59 (by omega), t27 (by omega), hkn, hw]
      simp [List.append_assoc]
    · have hc : cueRd l = ⟨(2 : Nat), (numB l 27 32 : Nat), true, 0, 0, false⟩ := by simp [cueRd, nowC, timedB, lastC, h, hw]
      rw [h, hw] at hnow
      rw [h] at hn hkn
      rw [hc, h, hnow]
      rw [hnow] at hn
      simp [timedB, sizeC] at hn
      subst hn
      rw [show ((2 : Nat) : Int) = 2 from rfl, fields_2n]
      refine ⟨?_, by simp [bitsN_len]⟩
      rw [pad_room _ 4 (by simp [bitsN_len])]
      have e : endC 2 (timedB 2 && true) = 60 := by simp [endC, timedB, lastC]
      rw [e, t60 (by omega), t59 (by omega), t27 (by omega), hkn, hw]
      simp [List.append_assoc]
  · have hc : cueRd l = ⟨(3 : Nat), (numB l 27 32 : Nat), false, 0, 0, false⟩ := by simp [cueRd, nowC, timedB, h]
    rw [h] at hnow hn hkn
    rw [hc, h, hnow]
    rw [hnow] at hn
    simp [timedB, sizeC] at hn
    subst hn
    rw [show ((3 : Nat) : Int) = 3 from rfl, fields_3]
    refine ⟨?_, by simp [bitsN_len]⟩
    rw [pad_room _ 5 (by simp [bitsN_len])]
    have e : endC 3 (timedB 3 && bitAt l 59) = 59 := by simp [endC, timedB, lastC]
    rw [e, t59 (by omega), t27 (by omega), hkn]
    simp [List.append_assoc]

theorem drop4 : ∀ {l : List UInt8}, l.length = 4 → ∃ a b c d, l = [a, b, c, d]
  | [a, b, c, d], _ => ⟨a, b, c, d, rfl⟩

theorem fill_zero {t : CueAns} (ht : t.fault ≠ 0 → t.cue = zeroC) : ∀ {o : Option Nat}, (fillO t o).fault ≠ 0 → (fillO t o).cue = zeroC
  | some _, _ => rfl
  | none, h => ht h
theorem tail_zero (l : List UInt8) (c : Cue) (h : (tailC l c).fault ≠ 0) : (tailC l c).cue = zeroC := by
  unfold tailC at h ⊢
  split
  · rfl
  · rename_i h1
    rw [if_neg h1] at h
    split
    · rfl
    · rename_i h2
      rw [if_neg h2] at h
      exact absurd rfl h
theorem body_zero (l : List UInt8) (n : Nat) (h : (bodyRd l n).fault ≠ 0) : (bodyRd l n).cue = zeroC := by
  unfold bodyRd at h ⊢
  split
  · rfl
  · rename_i h1
    rw [if_neg h1] at h
    split
    · rfl
    · rename_i h2
      rw [if_neg h2] at h
      exact fill_zero (tail_zero l _) h
theorem head_zero (l : List UInt8) (n : Nat) (h : (headRd l n).fault ≠ 0) : (headRd l n).cue = zeroC := by
  unfold headRd at h ⊢
  split
  · rfl
  · rename_i h1
    rw [if_neg h1] at h
    split
    · rfl
    · rename_i h2
      rw [if_neg h2] at h
      exact body_zero l n h
theorem read_zero (l : List UInt8) (h : (readC l).fault ≠ 0) : (readC l).cue = zeroC := by
  unfold readC at h ⊢
  split
  · rfl
  · rename_i h1
    rw [if_neg h1] at h
    split
    · rfl
    · rename_i h2
      rw [if_neg h2] at h
      split
      · rfl
      · rename_i h3
        rw [if_neg h3] at h
        exact head_zero l _ h

/-- What is read was written. -/
theorem write_read (l : List UInt8) (h : (readC l).fault = 0) : checkC (readC l).cue = 0 ∧ cueB (readC l).cue = l ∧ crc l = 0 := by
  unfold readC at h ⊢
  split at h
  · simp at h
  split at h
  · simp at h
  split at h
  · simp at h
  rename_i h1 h2 h3
  rw [if_neg h1, if_neg h2, if_neg h3]
  obtain ⟨n, hn⟩ : ∃ n, n = numB l 8 12 := ⟨_, rfl⟩
  rw [← hn] at h ⊢
  unfold headRd at h ⊢
  split at h
  · simp at h
  split at h
  · simp at h
  rename_i h4 h5
  rw [if_neg h4, if_neg h5]
  unfold bodyRd at h ⊢
  split at h
  · simp at h
  split at h
  · simp at h
  rename_i h6 h7
  rw [if_neg h6, if_neg h7]
  unfold fillC at h ⊢
  cases hb : badAt l (endC (kindC l) (nowC l)) (8 * (n - 1) - endC (kindC l) (nowC l)) with
  | some i => rw [hb] at h; simp [fillO] at h
  | none =>
    rw [hb] at h
    simp only [fillO] at h ⊢
    unfold tailC at h ⊢
    split at h
    · simp at h
    split at h
    · rename_i h8 h9
      exact absurd h h9
    rename_i h8 h9
    rw [if_neg h8, if_neg h9]
    have hc : crc l = 0 := by simpa using h8
    refine ⟨by simpa using h9, ?_, hc⟩
    have hr : rightC l n = true := by simpa using h6
    have hl : l.length = 3 + n := by omega
    obtain ⟨hB, hN⟩ := take_body hl hr hb
    have hH := take_head (n := n) (by omega) (by simpa using h3) hn.symm (by simpa using h7)
    have hno : l.take (n - 1) = noSum (cueRd l) := by
      apply openL_inj
      rw [openL_takeB l (n - 1) (by omega), hB, hH]
      unfold noSum
      rw [openL_append, ← hN]
    obtain ⟨a, b, c, d, hd⟩ := drop4 (l := l.drop (n - 1)) (by rw [List.length_drop]; omega)
    have hs : l = noSum (cueRd l) ++ [a, b, c, d] := by rw [← hno, ← hd, List.take_append_drop]
    have hz := hc
    rw [hs] at hz
    unfold crc at hz
    rw [crcOf_append] at hz
    have h4 := last4 (crcOf_lt (noSum (cueRd l)) (n := 4294967295) (by omega)) a b c d hz
    show noSum (cueRd l) ++ sumBytes (crc (noSum (cueRd l))) = l
    unfold crc
    rw [← h4]
    exact hs.symm
end Go.Proofs.Ytkcnnfgdplccoaa

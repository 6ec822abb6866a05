/- fields of the reference. -/
import Derived.Test.YtkcnnfgdplccoaaRBits
namespace Go.Proofs.Ytkcnnfgdplccoaa
open Go.RowKit

theorem bitsRL (m : Int) (many : Nat) (hm' : m = many) (n : Nat) (hm : many ≤ 60) (w : World) :
    Calls Try.prog 32 #[.int .i64 n, .int .i64 m] w (BitsRet w (bitsN n many)) := by
  subst hm'
  exact bitsR_any n many hm w
theorem bitsN_sm {n k : Nat} (h : k ≤ 60) : (bitsN n k).length ≤ 60 := by rw [bitsN_len]; exact h

theorem Own.low {α : Type} {w : World} {base base' : Nat} {E : TypeId} {k : Nat} {enc : α → List Value} {v : Value} {l : List α} (h : Own w base' E k enc v l) (hb : base ≤ base') : Own w base E k enc v l := by
  obtain ⟨h1, h2⟩ := h
  refine ⟨h1, ?_⟩
  rcases h2 with h2 | ⟨g, cap, cur, hv, hg, hr⟩
  · exact .inl h2
  · exact .inr ⟨g, cap, cur, hv, Nat.le_trans hb hg, hr⟩
/-- What stands in a step of fields. -/
def StF (w : World) (b : Obj) (L : List Bool) (s : Value) (wr : World) : Prop := Own wr (w.heap.size + 1) 3 1 encT s L ∧ wr.heap[w.heap.size]? = some b ∧ Below w.heap.size w wr
theorem StF.thru {w w1 w2 : World} {b : Obj} {L : List Bool} {s : Value} (h : StF w b L s w1) (hb : Below w1.heap.size w1 w2) : StF w b L s w2 :=
  ⟨h.1.below hb (Nat.le_refl _), (hb.block _ (lt_of_block h.2.1)).trans h.2.1, h.2.2.thru hb⟩
theorem StF.ext {w w1 w2 : World} {b : Obj} {L M : List Bool} {s s2 : Value} (h : StF w b L s w1) (ho : Own w2 (w.heap.size + 1) 3 1 encT s2 M) (hb : Below (w.heap.size + 1) w1 w2) : StF w b M s2 w2 :=
  ⟨ho, (hb.block _ (Nat.lt_succ_self _)).trans h.2.1, h.2.2.trans (hb.mono (Nat.le_succ _))⟩
theorem len_ok {L M : List Bool} (h1 : L.length ≤ 1000) (h2 : M.length ≤ 1000) : (L.length + M.length) * 8 ≤ 140737488355328 := by omega

set_option maxRecDepth 100000 in
set_option maxHeartbeats 4000000 in
theorem fieldsR_any (k e t q : Nat) (no au : Bool) (w : World) :
    Calls Try.prog 31 #[agC ⟨k, e, no, t, q, au⟩] w (BitsRet w (fieldsL ⟨k, e, no, t, q, au⟩)) := by
  have HB0 := Lib.hid ((Below.refl w.heap.size w).alloc (Nat.le_refl _) (boxC ⟨k, e, no, t, q, au⟩))
  have HK0 := Lib.hid (block_new w (boxC ⟨k, e, no, t, q, au⟩))
  have HF : Hid (fieldsL ⟨k, e, no, t, q, au⟩ = bitsN k 3 ++ ((if k = 0 then [] else bitsN e 32) ++ ((if k = 1 ∨ k = 2 then [no] ++ (if no then [] else bitsN t 33) else []) ++ (if k = 1 then [au] ++ bitsN q 33 else [])))) := Lib.hid (by
    unfold fieldsL
    simp only [Int.toNat_natCast]
    by_cases h0 : k = 0
    · subst h0; rfl
    by_cases h1 : k = 1
    · subst h1; rfl
    by_cases h2 : k = 2
    · subst h2; rfl
    rw [if_neg h0, if_neg h1, if_neg (by omega), if_neg (by omega), if_neg (by omega), if_neg (by omega)])
  obtain ⟨X1, hX1⟩ : ∃ X1, X1 = if k = 0 then [] else bitsN e 32 := ⟨_, rfl⟩
  obtain ⟨X2, hX2⟩ : ∃ X2, X2 = if k = 1 ∨ k = 2 then [no] ++ (if no then [] else bitsN t 33) else [] := ⟨_, rfl⟩
  obtain ⟨X3, hX3⟩ : ∃ X3, X3 = if k = 1 then [au] ++ bitsN q 33 else [] := ⟨_, rfl⟩
  rw [← hX1, ← hX2, ← hX3] at HF
  have hl1 : X1.length ≤ 100 := by rw [hX1]; split <;> simp [bitsN_len]
  have hl2 : X2.length ≤ 100 := by rw [hX2]; split <;> (try split) <;> simp [bitsN_len]
  have hl3 : X3.length ≤ 100 := by rw [hX3]; split <;> simp [bitsN_len]
  have HX1 := Lib.hid hX1
  have HX2 := Lib.hid hX2
  have HX3 := Lib.hid hX3
  clear hX1 hX2 hX3
  generalize fieldsL ⟨k, e, no, t, q, au⟩ = F at HF ⊢
  go_enter Try.func31, Try.ntmps31
  go_wp2_with fail
  refine (bitsRL 3 3 rfl k (by omega) _).mono ?_
  rintro e1 w1 ⟨v1, rfl, ho, hb⟩
  have HS1 : Hid (StF w (boxC ⟨k, e, no, t, q, au⟩) (bitsN k 3) v1 w1) := Lib.hid ⟨ho.low (by simp), (hb.block _ (lt_of_block HK0.out)).trans HK0.out, HB0.out.thru hb⟩
  clear ho hb HK0 HB0
  have hk1 := HS1.out.2.1
  have b0 := (cell_of_block (i := 0) hk1).trans rfl
  have b1 := (cell_of_block (i := 1) hk1).trans rfl
  have b2 := (cell_of_block (i := 2) hk1).trans rfl
  have b3 := (cell_of_block (i := 3) hk1).trans rfl
  have b4 := (cell_of_block (i := 4) hk1).trans rfl
  have b5 := (cell_of_block (i := 5) hk1).trans rfl
  have hlb := lt_of_block hk1
  clear hk1
  go_upto_if 9 with (fail)
  go_cut [3] (fun s3 w4 => Aside (StF w (boxC ⟨k, e, no, t, q, au⟩) (bitsN k 3 ++ X1) s3 w4))
  case first =>
    by_cases h0 : k = 0
    · have HI : Hid (X1 = []) := Lib.hid (by rw [HX1.out, if_pos h0])
      subst h0
      go_wp2
      go_meet
      exact (by rw [HI.out, List.append_nil]; exact HS1.out)
    · have hd : ((k : Int) != 0) = true := by simp; omega
      have HI : Hid (X1 = bitsN e 32) := Lib.hid (by rw [HX1.out, if_neg h0])
      clear h0
      go_wp2_with fail
      refine (bitsRL 32 32 rfl e (by omega) _).mono ?_
      rintro e1 w2 ⟨v2, rfl, ho, hb⟩
      have HS2 := Lib.hid (HS1.out.thru hb)
      have HQ2 : Hid (Sl w2 1 encT v2 (bitsN e 32)) := Lib.hid (ho.sl encT_len)
      have hbs2 : w.heap.size + 1 ≤ w2.heap.size := lt_of_block HS2.out.2.1
      clear ho hb
      go_wp2_with (at_builtin; refine wpList_extend (v := v1) (u := v2) (l := bitsN k 3) (m := bitsN e 32) rfl _ _ 50 rfl slI encT_len (fun _ => rfl) rfl rfl HS2.out.1 HQ2.out (len_ok (by simp [bitsN_len]) (by simp [bitsN_len])) hbs2 ?_; intro v3 w3 ho3 hb3; have HS3 := Lib.hid (HS2.out.ext ho3 hb3); clear ho3 hb3; obtain ⟨a3, m3, cp3, rfl⟩ := Own.slv encT_len HS3.out.1; clear b0 b1 b2 b3 b4 b5 hlb; have hk3 := HS3.out.2.1; have b0 := (cell_of_block (i := 0) hk3).trans rfl; have b1 := (cell_of_block (i := 1) hk3).trans rfl; have b2 := (cell_of_block (i := 2) hk3).trans rfl; have b3 := (cell_of_block (i := 3) hk3).trans rfl; have b4 := (cell_of_block (i := 4) hk3).trans rfl; have b5 := (cell_of_block (i := 5) hk3).trans rfl; have hlb := lt_of_block hk3; clear hk3)
      go_meet
      exact (by rw [HI.out]; exact HS3.out)
  obtain ⟨w4, rfl⟩ : ∃ w4, w4 = wc := ⟨_, rfl⟩
  obtain ⟨v4, rfl⟩ : ∃ v4, v4 = u3 := ⟨_, rfl⟩
  have HS4 := Lib.hid hcut.out
  clear hcut HS1 b0 b1 b2 b3 b4 b5 hlb
  have hk4 := HS4.out.2.1
  have b0 := (cell_of_block (i := 0) hk4).trans rfl
  have b1 := (cell_of_block (i := 1) hk4).trans rfl
  have b2 := (cell_of_block (i := 2) hk4).trans rfl
  have b3 := (cell_of_block (i := 3) hk4).trans rfl
  have b4 := (cell_of_block (i := 4) hk4).trans rfl
  have b5 := (cell_of_block (i := 5) hk4).trans rfl
  have hlb := lt_of_block hk4
  clear hk4
  go_upto_region 4 with (fail)
  go_cut [22] (fun s22 w5 => s22 = .bool (decide (k = 1) || decide (k = 2)) ∧ w4 = w5)
  case first =>
    by_cases h1 : k = 1
    · subst h1
      go_wp2
      go_meet
      exact ⟨rfl, rfl⟩
    · have hd : ((k : Int) == 1) = false := by rw [beq_eq_false_iff_ne]; omega
      have he : ((k : Int) == 2) = decide (k = 2) := by rw [Bool.eq_iff_iff]; simp; omega
      have hf : decide (k = 1) = false := decide_eq_false h1
      go_wp2
      go_meet
      exact ⟨by rw [hf]; rfl, rfl⟩
  obtain ⟨rfl, rfl⟩ := hcut
  obtain ⟨a4, m4, cp4, rfl⟩ := Own.slv encT_len HS4.out.1
  obtain ⟨L1, hL1⟩ : ∃ L1, L1 = bitsN k 3 ++ X1 := ⟨_, rfl⟩
  rw [← hL1] at HS4
  have hL1l : L1.length ≤ 103 := by rw [hL1]; simp [bitsN_len]; omega
  have HL1 := Lib.hid hL1
  clear hL1
  go_upto_if 22 with (fail)
  go_cut [3] (fun s3 w5 => Aside (StF w (boxC ⟨k, e, no, t, q, au⟩) (L1 ++ X2) s3 w5))
  case first =>
    by_cases h12 : k = 1 ∨ k = 2
    · have hd : (decide (k = 1) || decide (k = 2)) = true := by simpa using h12
      rw [hd]
      have HI : Hid (X2 = [no] ++ (if no then [] else bitsN t 33)) := Lib.hid (by rw [HX2.out, if_pos h12])
      clear hd h12
      cases no
      case true =>
        have HI2 : Hid (X2 = [true]) := Lib.hid (by rw [HI.out]; rfl)
        go_wp2_with fail
        refine (flagR_any true _).mono ?_
        rintro e1 w5 ⟨v5, rfl, ho, hb⟩
        have HS5 := Lib.hid (HS4.out.thru hb)
        have HQ5 : Hid (Sl w5 1 encT v5 ([true])) := Lib.hid (ho.sl encT_len)
        have hbs5 : w.heap.size + 1 ≤ w5.heap.size := lt_of_block HS5.out.2.1
        clear ho hb
        go_wp2_with (at_builtin; refine wpList_extend (v := .slice a4 m4 cp4) (u := v5) (l := L1) (m := [true]) rfl _ _ 50 rfl slI encT_len (fun _ => rfl) rfl rfl HS5.out.1 HQ5.out (len_ok (by omega) (by simp)) hbs5 ?_; intro v6 w6 ho3 hb3; have HS6 := Lib.hid (HS5.out.ext ho3 hb3); clear ho3 hb3; obtain ⟨a6, m6, cp6, rfl⟩ := Own.slv encT_len HS6.out.1; clear b0 b1 b2 b3 b4 b5 hlb; have hk6 := HS6.out.2.1; have b0 := (cell_of_block (i := 0) hk6).trans rfl; have b1 := (cell_of_block (i := 1) hk6).trans rfl; have b2 := (cell_of_block (i := 2) hk6).trans rfl; have b3 := (cell_of_block (i := 3) hk6).trans rfl; have b4 := (cell_of_block (i := 4) hk6).trans rfl; have b5 := (cell_of_block (i := 5) hk6).trans rfl; have hlb := lt_of_block hk6; clear hk6)
        go_meet
        exact (by rw [HI2.out]; exact HS6.out)
      case false =>
        have HI2 : Hid (L1 ++ X2 = (L1 ++ [false]) ++ bitsN t 33) := Lib.hid (by rw [HI.out, List.append_assoc]; rfl)
        go_wp2_with fail
        refine (flagR_any false _).mono ?_
        rintro e1 w5 ⟨v5, rfl, ho, hb⟩
        have HS5 := Lib.hid (HS4.out.thru hb)
        have HQ5 : Hid (Sl w5 1 encT v5 ([false])) := Lib.hid (ho.sl encT_len)
        have hbs5 : w.heap.size + 1 ≤ w5.heap.size := lt_of_block HS5.out.2.1
        clear ho hb
        go_wp2_with (at_builtin; refine wpList_extend (v := .slice a4 m4 cp4) (u := v5) (l := L1) (m := [false]) rfl _ _ 50 rfl slI encT_len (fun _ => rfl) rfl rfl HS5.out.1 HQ5.out (len_ok (by omega) (by simp)) hbs5 ?_; intro v6 w6 ho3 hb3; have HS6 := Lib.hid (HS5.out.ext ho3 hb3); clear ho3 hb3; obtain ⟨a6, m6, cp6, rfl⟩ := Own.slv encT_len HS6.out.1; clear b0 b1 b2 b3 b4 b5 hlb; have hk6 := HS6.out.2.1; have b0 := (cell_of_block (i := 0) hk6).trans rfl; have b1 := (cell_of_block (i := 1) hk6).trans rfl; have b2 := (cell_of_block (i := 2) hk6).trans rfl; have b3 := (cell_of_block (i := 3) hk6).trans rfl; have b4 := (cell_of_block (i := 4) hk6).trans rfl; have b5 := (cell_of_block (i := 5) hk6).trans rfl; have hlb := lt_of_block hk6; clear hk6)
        refine (bitsRL 33 33 rfl t (by omega) _).mono ?_
        rintro e1 w7 ⟨v7, rfl, ho, hb⟩
        have HS7 := Lib.hid (HS6.out.thru hb)
        have HQ7 : Hid (Sl w7 1 encT v7 (bitsN t 33)) := Lib.hid (ho.sl encT_len)
        have hbs7 : w.heap.size + 1 ≤ w7.heap.size := lt_of_block HS7.out.2.1
        clear ho hb
        go_wp2_with (at_builtin; refine wpList_extend (v := .slice a6 m6 cp6) (u := v7) (l := L1 ++ [false]) (m := bitsN t 33) rfl _ _ 50 rfl slI encT_len (fun _ => rfl) rfl rfl HS7.out.1 HQ7.out (len_ok (by simp; omega) (by simp [bitsN_len])) hbs7 ?_; intro v8 w8 ho3 hb3; have HS8 := Lib.hid (HS7.out.ext ho3 hb3); clear ho3 hb3; obtain ⟨a8, m8, cp8, rfl⟩ := Own.slv encT_len HS8.out.1; clear b0 b1 b2 b3 b4 b5 hlb; have hk8 := HS8.out.2.1; have b0 := (cell_of_block (i := 0) hk8).trans rfl; have b1 := (cell_of_block (i := 1) hk8).trans rfl; have b2 := (cell_of_block (i := 2) hk8).trans rfl; have b3 := (cell_of_block (i := 3) hk8).trans rfl; have b4 := (cell_of_block (i := 4) hk8).trans rfl; have b5 := (cell_of_block (i := 5) hk8).trans rfl; have hlb := lt_of_block hk8; clear hk8)
        go_meet
        exact (by rw [HI2.out]; exact HS8.out)
    · have hd : (decide (k = 1) || decide (k = 2)) = false := by simpa using h12
      rw [hd]
      have HI : Hid (X2 = []) := Lib.hid (by rw [HX2.out, if_neg h12])
      clear hd h12
      go_wp2
      go_meet
      exact (by rw [HI.out, List.append_nil]; exact HS4.out)
  obtain ⟨w9, rfl⟩ : ∃ w9, w9 = wc := ⟨_, rfl⟩
  obtain ⟨v9, rfl⟩ : ∃ v9, v9 = u3 := ⟨_, rfl⟩
  have HS9 := Lib.hid hcut.out
  clear hcut HS4 b0 b1 b2 b3 b4 b5 hlb
  obtain ⟨a9, m9, cp9, rfl⟩ := Own.slv encT_len HS9.out.1
  obtain ⟨L2, hL2⟩ : ∃ L2, L2 = L1 ++ X2 := ⟨_, rfl⟩
  rw [← hL2] at HS9
  have hL2l : L2.length ≤ 203 := by rw [hL2]; simp; omega
  have HF2 : Hid (F = L2 ++ X3) := Lib.hid (by rw [hL2, HL1.out, HF.out]; simp only [List.append_assoc])
  clear hL2
  have hk9 := HS9.out.2.1
  have b0 := (cell_of_block (i := 0) hk9).trans rfl
  have b1 := (cell_of_block (i := 1) hk9).trans rfl
  have b2 := (cell_of_block (i := 2) hk9).trans rfl
  have b3 := (cell_of_block (i := 3) hk9).trans rfl
  have b4 := (cell_of_block (i := 4) hk9).trans rfl
  have b5 := (cell_of_block (i := 5) hk9).trans rfl
  have hlb := lt_of_block hk9
  clear hk9
  by_cases h1 : k = 1
  · have HI : Hid (X3 = [au] ++ bitsN q 33) := Lib.hid (by rw [HX3.out, if_pos h1])
    subst h1
    go_wp2_with fail
    refine (flagR_any au _).mono ?_
    rintro e1 w10 ⟨v10, rfl, ho, hb⟩
    have HS10 := Lib.hid (HS9.out.thru hb)
    have HQ10 : Hid (Sl w10 1 encT v10 ([au])) := Lib.hid (ho.sl encT_len)
    have hbs10 : w.heap.size + 1 ≤ w10.heap.size := lt_of_block HS10.out.2.1
    clear ho hb
    go_wp2_with (at_builtin; refine wpList_extend (v := .slice a9 m9 cp9) (u := v10) (l := L2) (m := [au]) rfl _ _ 50 rfl slI encT_len (fun _ => rfl) rfl rfl HS10.out.1 HQ10.out (len_ok (by omega) (by simp)) hbs10 ?_; intro v11 w11 ho3 hb3; have HS11 := Lib.hid (HS10.out.ext ho3 hb3); clear ho3 hb3; obtain ⟨a11, m11, cp11, rfl⟩ := Own.slv encT_len HS11.out.1; clear b0 b1 b2 b3 b4 b5 hlb; have hk11 := HS11.out.2.1; have b0 := (cell_of_block (i := 0) hk11).trans rfl; have b1 := (cell_of_block (i := 1) hk11).trans rfl; have b2 := (cell_of_block (i := 2) hk11).trans rfl; have b3 := (cell_of_block (i := 3) hk11).trans rfl; have b4 := (cell_of_block (i := 4) hk11).trans rfl; have b5 := (cell_of_block (i := 5) hk11).trans rfl; have hlb := lt_of_block hk11; clear hk11)
    refine (bitsRL 33 33 rfl q (by omega) _).mono ?_
    rintro e1 w12 ⟨v12, rfl, ho, hb⟩
    have HS12 := Lib.hid (HS11.out.thru hb)
    have HQ12 : Hid (Sl w12 1 encT v12 (bitsN q 33)) := Lib.hid (ho.sl encT_len)
    have hbs12 : w.heap.size + 1 ≤ w12.heap.size := lt_of_block HS12.out.2.1
    clear ho hb
    go_wp2_with (at_builtin; refine wpList_extend (v := .slice a11 m11 cp11) (u := v12) (l := L2 ++ [au]) (m := bitsN q 33) rfl _ _ 50 rfl slI encT_len (fun _ => rfl) rfl rfl HS12.out.1 HQ12.out (len_ok (by simp; omega) (by simp [bitsN_len])) hbs12 ?_; intro v13 w13 ho3 hb3; have HS13 := Lib.hid (HS12.out.ext ho3 hb3); clear ho3 hb3; obtain ⟨a13, m13, cp13, rfl⟩ := Own.slv encT_len HS13.out.1; clear b0 b1 b2 b3 b4 b5 hlb; have hk13 := HS13.out.2.1; have b0 := (cell_of_block (i := 0) hk13).trans rfl; have b1 := (cell_of_block (i := 1) hk13).trans rfl; have b2 := (cell_of_block (i := 2) hk13).trans rfl; have b3 := (cell_of_block (i := 3) hk13).trans rfl; have b4 := (cell_of_block (i := 4) hk13).trans rfl; have b5 := (cell_of_block (i := 5) hk13).trans rfl; have hlb := lt_of_block hk13; clear hk13)
    go_ret
    exact OwnRet.mk (by rw [HF2.out, HI.out, ← List.append_assoc]; exact HS13.out.1.low (Nat.le_succ _)) HS13.out.2.2
  · have hd : ((k : Int) == 1) = false := by rw [beq_eq_false_iff_ne]; omega
    have HI : Hid (X3 = []) := Lib.hid (by rw [HX3.out, if_neg h1])
    go_wp2
    go_ret
    exact OwnRet.mk (by rw [HF2.out, HI.out, List.append_nil]; exact HS9.out.1.low (Nat.le_succ _)) HS9.out.2.2
end Go.Proofs.Ytkcnnfgdplccoaa

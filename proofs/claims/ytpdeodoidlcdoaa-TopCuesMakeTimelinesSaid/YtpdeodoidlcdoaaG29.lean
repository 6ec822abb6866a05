/- ReadCue of the program. -/
import Derived.Test.YtpdeodoidlcdoaaG28
import Derived.Test.YtpdeodoidlcdoaaG05
import Derived.Test.YtpdeodoidlcdoaaG26
namespace Go.Proofs.Ytpdeodoidlcdoaa
open Go.RowKit
set_option linter.unusedSimpArgs false
set_option linter.unusedVariables false

theorem u8_shl_or (a b : Nat) (ha : a < 256) (hb : b < 256) : bits .or .i64 ((a : Int) * 16) ((b : Int) / 16) = ((a * 16 + b / 16 : Nat) : Int) := by
  have e1 : ((a : Int) * 16) = ((a * 16 : Nat) : Int) := by omega
  have e2 : ((b : Int) / 16) = ((b / 16 : Nat) : Int) := by omega
  rw [e1, e2]
  show IntKind.i64.wrap ((BitVec.ofInt 64 ((a * 16 : Nat) : Int) ||| BitVec.ofInt 64 ((b / 16 : Nat) : Int)).toNat : Int) = _
  rw [BitVec.toNat_or, ofInt_64 _ (by omega), ofInt_64 _ (by omega), or_add (k := 4) (by omega) (by omega), IntKind.wrap_i64]
  omega
theorem and15_u8 (m : Nat) (hm : m < 256) : bits .and .u8 (m : Int) 15 = ((m % 16 : Nat) : Int) := by
  have := u8_and_nat m 15 hm (by omega)
  have e : m &&& 15 = m % 16 := Nat.and_two_pow_sub_one_eq_mod m 4
  rw [e] at this
  exact this

set_option maxRecDepth 100000 in
set_option maxHeartbeats 8000000 in
theorem ReadCue_any (w : World) (l : List UInt8) (v : Value) (hl : Sl w 1 encU v l) :
    Calls Try.prog 6 #[v] w (RdP w (readC l)) := by
  have HL := Lib.hid hl
  have HB0 := Lib.hid ((Below.refl w.heap.size w).alloc (Nat.le_refl _) (boxC zeroC))
  have HK0 := Lib.hid (block_new w (boxC zeroC))
  have HV : Hid (readC l = if 300 < l.length then ⟨zeroC, 0, 2⟩ else if l.length < 3 then ⟨zeroC, l.length, 10⟩ else if l.getD 0 0 ≠ 252 then ⟨zeroC, 0, 10⟩ else headRd l (numB l 8 12)) := Lib.hid rfl
  obtain ⟨ao, cap, rfl, hcap, hmax, hnil, hel⟩ := hl
  unfold maxLen at hmax
  generalize readC l = A at HV ⊢
  by_cases h1 : 300 < l.length
  · have h1z : (300 : Int) < (l.length : Int) := by omega
    have hv : Hid (A = ⟨zeroC, 0, 2⟩) := Lib.hid (by rw [HV.out, if_pos h1])
    have hlR : w.heap.size < (w.alloc (boxC zeroC)).heap.size := by simp
    clear hel
    go_enter Try.func6, Try.ntmps6
    go_wp2
    exact bodyPost_ret (v := .tuple #[.agg #[.int .i64 0, .int .i64 0, .bool false, .int .i64 0, .int .i64 0, .bool false], .int .i64 0, .int .i64 2]) (by simp [results, Try.results6, go_sem]) rfl (RdP.mk hv.out rfl HB0.out)
  have h1z : ¬ (300 : Int) < (l.length : Int) := by omega
  have HV1 : Hid (A = if l.length < 3 then ⟨zeroC, l.length, 10⟩ else if l.getD 0 0 ≠ 252 then ⟨zeroC, 0, 10⟩ else headRd l (numB l 8 12)) := Lib.hid (by rw [HV.out, if_neg h1])
  clear HV
  by_cases h2 : l.length < 3
  · have h2z : (l.length : Int) < 3 := by omega
    have hv : Hid (A = ⟨zeroC, l.length, 10⟩) := Lib.hid (by rw [HV1.out, if_pos h2])
    clear hel
    go_enter Try.func6, Try.ntmps6
    go_wp2
    exact bodyPost_ret (v := .tuple #[.agg #[.int .i64 0, .int .i64 0, .bool false, .int .i64 0, .int .i64 0, .bool false], .int .i64 l.length, .int .i64 10]) (by simp [results, Try.results6, go_sem]) rfl (RdP.mk hv.out rfl HB0.out)
  have h2z : ¬ (l.length : Int) < 3 := by omega
  have HV2 : Hid (A = if l.getD 0 0 ≠ 252 then ⟨zeroC, 0, 10⟩ else headRd l (numB l 8 12)) := Lib.hid (by rw [HV1.out, if_neg h2])
  clear HV1
  obtain ⟨b, off, rfl, hc0⟩ := hel 0 l[0] (by simp)
  have HE := Lib.hid hel
  have q0 : w.cell? ⟨b, off, none⟩ = some (.int .u8 (l[0].toNat : Nat)) := by have := hc0 0 _ rfl; simpa using this
  have hb0 : b < w.heap.size := World.block_lt_of_cell? w _ q0
  have i0 : (0 : Nat) < l.length := by omega
  have e00 : Hid (l.getD 0 0 = l[0]) := Lib.hid (by simp [List.getD_eq_getElem?_getD, i0])
  rw [e00.out] at HV2
  obtain ⟨B0, hB0⟩ : ∃ B0, B0 = l[0].toNat := ⟨_, rfl⟩
  rw [← hB0] at q0
  have hB0l : B0 < 256 := by rw [hB0]; exact l[0].toNat_lt
  by_cases h3 : B0 = 252
  case neg =>
    have h3z : ((B0 : Int) != 252) = true := by simp; omega
    have hv : Hid (A = ⟨zeroC, 0, 10⟩) := Lib.hid (by
      rw [HV2.out, if_pos]
      intro e
      rw [e] at hB0
      exact h3 hB0)
    clear hel hB0
    go_enter Try.func6, Try.ntmps6
    go_wp2
    exact bodyPost_ret (v := .tuple #[.agg #[.int .i64 0, .int .i64 0, .bool false, .int .i64 0, .int .i64 0, .bool false], .int .i64 0, .int .i64 10]) (by simp [results, Try.results6, go_sem]) rfl (RdP.mk hv.out rfl HB0.out)
  have h3z : ((B0 : Int) != 252) = false := by simp; omega
  have HV3 : Hid (A = headRd l (numB l 8 12)) := Lib.hid (by
    rw [HV2.out, if_neg]
    intro e
    exact e (UInt8.toNat_inj.1 (by rw [← hB0, h3]; rfl)))
  clear HV2 hB0
  obtain ⟨b1', off1, e1, hc1⟩ := HE.out 1 l[1] (by simp)
  obtain ⟨b2', off2, e2, hc2⟩ := HE.out 2 l[2] (by simp)
  simp only [Option.some.injEq, Addr.mk.injEq, and_true] at e1 e2
  obtain ⟨rfl, rfl⟩ := e1
  obtain ⟨rfl, rfl⟩ := e2
  obtain ⟨B1, hB1⟩ : ∃ B1, B1 = l[1].toNat := ⟨_, rfl⟩
  obtain ⟨B2, hB2⟩ : ∃ B2, B2 = l[2].toNat := ⟨_, rfl⟩
  have q1 : w.cell? ⟨b, off + 1, none⟩ = some (.int .u8 (B1 : Nat)) := by have := hc1 0 _ rfl; rw [← hB1] at this; simpa using this
  have q2 : w.cell? ⟨b, off + 2, none⟩ = some (.int .u8 (B2 : Nat)) := by have := hc2 0 _ rfl; rw [← hB2] at this; simpa using this
  have hB1l : B1 < 256 := by rw [hB1]; exact l[1].toNat_lt
  have hB2l : B2 < 256 := by rw [hB2]; exact l[2].toNat_lt
  have HQ2 := Lib.hid q2
  have e11 : Hid (l.getD 1 0 = l[1]) := Lib.hid (by simp [List.getD_eq_getElem?_getD, (show (1 : Nat) < l.length by omega)])
  have e22 : Hid (l.getD 2 0 = l[2]) := Lib.hid (by simp [List.getD_eq_getElem?_getD, (show (2 : Nat) < l.length by omega)])
  have HLB : Hid (numB l 8 12 = B1 * 16 + B2 / 16) := Lib.hid (by rw [len_bits, e11.out, e22.out, hB1, hB2])
  have HOB : Hid (numB l 20 4 = B2 % 16) := Lib.hid (by rw [ones_bits, e22.out, hB2])
  obtain ⟨n, hn⟩ : ∃ n, n = B1 * 16 + B2 / 16 := ⟨_, rfl⟩
  have HV4 : Hid (A = headRd l n) := Lib.hid (by rw [HV3.out, HLB.out, hn])
  have hnl : n < 4096 := by omega
  have HN := Lib.hid hn
  have hsh := u8_shl_or B1 B2 hB1l hB2l
  rw [← hn] at hsh
  have s1 : IntKind.i64.wrap ((B1 : Int) * 16) = (B1 : Int) * 16 := IntWalk.i64_in _ (by omega)
  have s2 : IntKind.i64.wrap (B1 : Int) = (B1 : Int) := IntWalk.i64_in _ (by omega)
  have s3 : IntKind.i64.wrap (B2 : Int) = (B2 : Int) := IntWalk.i64_in _ (by omega)
  have j1 : (1 : Int) < (l.length : Int) := by omega
  have j2 : (2 : Int) < (l.length : Int) := by omega
  have j0 : (0 : Int) < (l.length : Int) := by omega
  clear hel hB1 hB2 HV3 hn hc0 hc1 hc2 e11 e22 e00 HE
  go_enter Try.func6, Try.ntmps6
  go_upto_region 11 with (fail)
  go_cut [5] (fun s5 wc => s5 = .int .i64 n ∧ Aside (Below w.heap.size w wc) ∧ Aside (wc.heap[w.heap.size]? = some (boxC zeroC)))
  case first =>
    go_quiet (fail)
    go_wp2
    go_meet
    exact ⟨rfl, below_drewN HB0.out _, HK0.out⟩
  obtain ⟨rfl, HBc, HKc⟩ := hcut
  have HB1 := Lib.hid HBc.out
  have HK1 := Lib.hid HKc.out
  clear HBc HKc q0 q1 q2 hsh s1 s2 s3 j1
  have hlR := lt_of_blk HK1.out
  have r0 := (cell_of_block (i := 0) HK1.out).trans rfl
  have g0 := froz_of_block (i := 0) HK1.out
  have r1 := (cell_of_block (i := 1) HK1.out).trans rfl
  have g1 := froz_of_block (i := 1) HK1.out
  have r2 := (cell_of_block (i := 2) HK1.out).trans rfl
  have g2 := froz_of_block (i := 2) HK1.out
  have r3 := (cell_of_block (i := 3) HK1.out).trans rfl
  have g3 := froz_of_block (i := 3) HK1.out
  have r4 := (cell_of_block (i := 4) HK1.out).trans rfl
  have g4 := froz_of_block (i := 4) HK1.out
  have r5 := (cell_of_block (i := 5) HK1.out).trans rfl
  have g5 := froz_of_block (i := 5) HK1.out

  have hlw := HB1.out.size
  have q2 := (HB1.out.cell (p := ⟨b, off + 2, none⟩) hb0).trans HQ2.out
  have hbc := Nat.lt_of_lt_of_le hb0 hlw
  obtain ⟨w1, rfl⟩ : ∃ w1, w1 = wc := ⟨_, rfl⟩
  by_cases h4 : l.length < 3 + n
  · have h4z : (l.length : Int) < 3 + (n : Int) := by omega
    have hv : Hid (A = ⟨zeroC, l.length, 10⟩) := Lib.hid (by rw [HV4.out]; unfold headRd; rw [if_pos h4])
    go_wp2
    exact bodyPost_ret (v := .tuple #[.agg #[.int .i64 0, .int .i64 0, .bool false, .int .i64 0, .int .i64 0, .bool false], .int .i64 (l.length), .int .i64 10]) (by simp [results, Try.results6, go_sem, r0, r1, r2, r3, r4, r5, hlR]) rfl (RdP.mk hv.out rfl ((((((HB1.out.setCell (Nat.le_refl _) _).setCell (Nat.le_refl _) _).setCell (Nat.le_refl _) _).setCell (Nat.le_refl _) _).setCell (Nat.le_refl _) _).setCell (Nat.le_refl _) _))
  have h4z : ¬ (l.length : Int) < 3 + (n : Int) := by omega
  by_cases h5 : 3 + n < l.length
  · have h5z : 3 + (n : Int) < (l.length : Int) := by omega
    have hv : Hid (A = ⟨zeroC, 3 + (n : Int), 10⟩) := Lib.hid (by rw [HV4.out]; unfold headRd; rw [if_neg h4, if_pos h5]; rfl)
    go_wp2
    exact bodyPost_ret (v := .tuple #[.agg #[.int .i64 0, .int .i64 0, .bool false, .int .i64 0, .int .i64 0, .bool false], .int .i64 (3 + (n : Int)), .int .i64 10]) (by simp [results, Try.results6, go_sem, r0, r1, r2, r3, r4, r5, hlR]) rfl (RdP.mk hv.out rfl ((((((HB1.out.setCell (Nat.le_refl _) _).setCell (Nat.le_refl _) _).setCell (Nat.le_refl _) _).setCell (Nat.le_refl _) _).setCell (Nat.le_refl _) _).setCell (Nat.le_refl _) _))
  have h5z : ¬ 3 + (n : Int) < (l.length : Int) := by omega
  have hln : l.length = 3 + n := by omega
  have HV5 : Hid (A = bodyRd l n) := Lib.hid (by rw [HV4.out]; unfold headRd; rw [if_neg h4, if_neg h5])
  have HLN := Lib.hid hln
  have HS1 := Lib.hid (HL.out.below HB1.out (Nat.le_refl _))
  have HRS := Lib.hid (rightSize_any w1 _ l n HS1.out hln (by omega))
  have h300 : l.length ≤ 300 := by omega
  have hbn : n ≤ 297 := by omega
  have HRR : Hid (rightC l n = true → kindC l ≤ 3 ∧ n = sizeC (kindC l) (nowC l)) := Lib.hid (fun h => by
    unfold rightC at h
    simpa using h)
  have HBD : Hid (bodyRd l n = if rightC l n = false then ⟨zeroC, 1, 10⟩ else if numB l 20 4 ≠ 15 then ⟨zeroC, 2, 10⟩ else fillC l (endC (kindC l) (nowC l)) (8 * (n - 1) - endC (kindC l) (nowC l))) := Lib.hid rfl
  clear HV4 hln
  obtain ⟨rc, hrc⟩ : ∃ rc, rc = rightC l n := ⟨_, rfl⟩
  rw [← hrc] at HRS HRR HBD
  clear hrc
  go_wp2_with fail
  refine HRS.out.mono ?_
  rintro e w2 ⟨rfl, hb⟩
  have HB2 := Lib.hid (HB1.out.thru hb)
  have HK2 := Lib.hid ((hb.block _ hlR).trans HK1.out)
  have q2' := (hb.cell (p := ⟨b, off + 2, none⟩) hbc).trans q2
  clear r0 g0 r1 g1 r2 g2 r3 g3 r4 g4 r5 g5 q2 hlR hlw hbc
  have q2 := q2'
  have hlR := lt_of_blk HK2.out
  have hlw := HB2.out.size
  have hbc := Nat.lt_of_lt_of_le hb0 hlw
  have r0 := (cell_of_block (i := 0) HK2.out).trans rfl
  have g0 := froz_of_block (i := 0) HK2.out
  have r1 := (cell_of_block (i := 1) HK2.out).trans rfl
  have g1 := froz_of_block (i := 1) HK2.out
  have r2 := (cell_of_block (i := 2) HK2.out).trans rfl
  have g2 := froz_of_block (i := 2) HK2.out
  have r3 := (cell_of_block (i := 3) HK2.out).trans rfl
  have g3 := froz_of_block (i := 3) HK2.out
  have r4 := (cell_of_block (i := 4) HK2.out).trans rfl
  have g4 := froz_of_block (i := 4) HK2.out
  have r5 := (cell_of_block (i := 5) HK2.out).trans rfl
  have g5 := froz_of_block (i := 5) HK2.out
  clear hb q2'
  cases rc
  · have hv : Hid (A = ⟨zeroC, 1, 10⟩) := Lib.hid (by rw [HV5.out, HBD.out]; rfl)
    go_wp2
    exact bodyPost_ret (v := .tuple #[.agg #[.int .i64 0, .int .i64 0, .bool false, .int .i64 0, .int .i64 0, .bool false], .int .i64 (1), .int .i64 10]) (by simp [results, Try.results6, go_sem, r0, r1, r2, r3, r4, r5, hlR]) rfl (RdP.mk hv.out rfl ((((((HB2.out.setCell (Nat.le_refl _) _).setCell (Nat.le_refl _) _).setCell (Nat.le_refl _) _).setCell (Nat.le_refl _) _).setCell (Nat.le_refl _) _).setCell (Nat.le_refl _) _))
  obtain ⟨hk3, hnz⟩ := HRR.out rfl
  have hend := endC_le hk3 hnz
  have h15 := and15_u8 B2 hB2l
  have HV6 : Hid (A = if B2 % 16 ≠ 15 then ⟨zeroC, 2, 10⟩ else fillC l (endC (kindC l) (nowC l)) (8 * (n - 1) - endC (kindC l) (nowC l))) := Lib.hid (by rw [HV5.out, HBD.out, HOB.out]; rfl)
  clear hnz
  by_cases h6 : B2 % 16 = 15
  case neg =>
    have h6z : ((B2 % 16 : Nat) : Int) ≠ 15 := by omega
    have h6b : (((B2 % 16 : Nat) : Int) != 15) = true := by simpa using h6z
    have hv : Hid (A = ⟨zeroC, 2, 10⟩) := Lib.hid (by rw [HV6.out, if_pos h6])
    have h15' : Hid (bits .and .u8 (B2 : Int) 15 = ((B2 % 16 : Nat) : Int)) := Lib.hid h15
    clear h15
    obtain ⟨X, hX⟩ : ∃ X, X = B2 % 16 := ⟨_, rfl⟩
    rw [← hX] at h6b h15' h6z
    have h15 := h15'.out
    clear hX h6z
    go_wp2
    exact bodyPost_ret (v := .tuple #[.agg #[.int .i64 0, .int .i64 0, .bool false, .int .i64 0, .int .i64 0, .bool false], .int .i64 (2), .int .i64 10]) (by simp [results, Try.results6, go_sem, r0, r1, r2, r3, r4, r5, hlR]) rfl (RdP.mk hv.out rfl ((((((HB2.out.setCell (Nat.le_refl _) _).setCell (Nat.le_refl _) _).setCell (Nat.le_refl _) _).setCell (Nat.le_refl _) _).setCell (Nat.le_refl _) _).setCell (Nat.le_refl _) _))
  have HV7 : Hid (A = fillC l (endC (kindC l) (nowC l)) (8 * (n - 1) - endC (kindC l) (nowC l))) := Lib.hid (by rw [HV6.out, if_neg (fun h => h h6)])
  rw [h6] at h15
  obtain ⟨P, hP⟩ : ∃ P, P = w2.heap.size := ⟨_, rfl⟩
  have hne : l ≠ [] := fun e => by rw [e] at j0; simp at j0
  have HO := Lib.hid (HL.out.offE (P := P) (fun _ => by simp [encU]) (by omega) hne)
  have HS2 := Lib.hid (HL.out.below HB2.out (Nat.le_refl _))
  obtain ⟨w3, hw3⟩ : ∃ w3, w3 = w2.alloc (.cells #[.slice (some ⟨b, off, none⟩) l.length cap, .int .i64 24] 57) := ⟨_, rfl⟩
  have HBR3 : Hid (BR w3 P (.slice (some ⟨b, off, none⟩) l.length cap) 24) := Lib.hid (by rw [hw3, hP]; exact block_new w2 _)
  have HB3 : Hid (Below w.heap.size w w3) := Lib.hid (by rw [hw3]; exact HB2.out.alloc hlw _)
  have HK3 : Hid (w3.heap[w.heap.size]? = some (boxC zeroC)) := Lib.hid (by rw [hw3]; exact (Below.heap_alloc w2 _ _ hlR).trans HK2.out)
  have HS3 := Lib.hid (HL.out.below HB3.out (Nat.le_refl _))
  have HFO := Lib.hid (fieldsOf_any w3 P _ l HBR3.out HS3.out HO.out h300 hk3 (by have := HLN.out; omega))
  have HPE := Lib.hid hP
  have HWE := Lib.hid hw3
  have hPw : w.heap.size ≤ P := by omega
  have hPR : w.heap.size ≠ P := by omega
  clear hP hw3 hne
  go_wp2_with fail
  rw [← HPE.out, ← HWE.out]
  refine HFO.out.mono ?_
  rintro e w4 ⟨rfl, hb4, ho4⟩
  have HB4 := Lib.hid (HB3.out.trans (ho4.toBelow HB3.out.size hPw))
  have HK4 := Lib.hid (ho4.block HK3.out hPR)
  have hP4 := lt_of_blk hb4
  have HBR4 := Lib.hid hb4
  obtain ⟨c, hc⟩ : ∃ c, c = cueRd l := ⟨_, rfl⟩
  rw [← hc]
  have HCE := Lib.hid hc
  clear hc hb4 ho4 q2 h15 r0 g0 r1 g1 r2 g2 r3 g3 r4 g4 r5 g5 hlR hlw hbc HFO HBR3
  obtain ⟨E, hE⟩ : ∃ E, E = endC (kindC l) (nowC l) := ⟨_, rfl⟩
  rw [← hE] at HV7 HBR4 hend
  have HTL : Hid (fillC l E (8 * (n - 1) - E) = fillO (tailC l c) (badAt l E (8 * (n - 1) - E))) := Lib.hid (by unfold fillC; rw [HCE.out])
  clear hE hk3
  have HTC : Hid (tailC l c = if crc l ≠ 0 then ⟨zeroC, 0, 15⟩ else if checkC c ≠ 0 then ⟨zeroC, 0, checkC c⟩ else ⟨c, 0, 0⟩) := Lib.hid rfl
  generalize tailC l c = TA at HTL HTC
  have HCK := Lib.hid (fun W => checkCue_any c W)
  generalize checkC c = F at HTC HCK
  have HSU := Lib.hid (fun W (h : Sl W 1 encU (.slice (some ⟨b, off, none⟩) l.length cap) l) => sum_any W l _ h)
  have hlt := crc_lt l
  generalize crc l = S at HTC HSU hlt
  clear HCE
  obtain ⟨ki, ev, no, ti, le, au⟩ := c
  obtain ⟨C, hC⟩ : ∃ C, C = w4.heap.size := ⟨_, rfl⟩
  have HC5 : Hid ((w4.alloc (boxC ⟨ki, ev, no, ti, le, au⟩)).heap[C]? = some (boxC ⟨ki, ev, no, ti, le, au⟩)) := Lib.hid (by rw [hC]; exact block_new w4 _)
  have HB5 : Hid (Below w.heap.size w (w4.alloc (boxC ⟨ki, ev, no, ti, le, au⟩))) := Lib.hid (HB4.out.alloc HB4.out.size _)
  have HK5 : Hid ((w4.alloc (boxC ⟨ki, ev, no, ti, le, au⟩)).heap[w.heap.size]? = some (boxC zeroC)) := Lib.hid ((Below.heap_alloc w4 _ _ (lt_of_blk HK4.out)).trans HK4.out)
  have HBR5 : Hid (BR (w4.alloc (boxC ⟨ki, ev, no, ti, le, au⟩)) P (.slice (some ⟨b, off, none⟩) l.length cap) E) := Lib.hid ((Below.heap_alloc w4 _ _ hP4).trans HBR4.out)
  have hCP : C ≠ P := by omega
  have hCR : C ≠ w.heap.size := by have := lt_of_blk HK4.out; omega
  have hPz := lt_of_blk HBR5.out
  have p1 := (cell_of_block (i := 1) HBR5.out).trans rfl
  have hPCE : Hid (C = w4.heap.size) := Lib.hid hC
  clear hC HBR4 HK4 HB4
  go_wp2
  rw [← hPCE.out]
  go_loopg [8] (8 * n + 1) (fun gg _ wr => ∃ X : Nat, E ≤ X ∧ X ≤ 8 * (n - 1) ∧ 8 * (n - 1) - X ≤ gg ∧ Aside (badAt l E (8 * (n - 1) - E) = badAt l X (8 * (n - 1) - X)) ∧ Aside (BR wr P (.slice (some ⟨b, off, none⟩) l.length cap) X) ∧ Aside (wr.heap[C]? = some (boxC ⟨ki, ev, no, ti, le, au⟩)) ∧ Aside (wr.heap[w.heap.size]? = some (boxC zeroC)) ∧ Aside (Below w.heap.size w wr))
  case atStart => exact ⟨E, Nat.le_refl _, hend, by omega, (show _ = _ from rfl), HBR5.out, HC5.out, HK5.out, HB5.out⟩
  obtain ⟨X, hX1, hX2, hg, HX, HBRr, HCr, HKr, HBr⟩ := hrel
  have HX := Lib.hid HX.out
  have HBRr := Lib.hid HBRr.out
  have HCr := Lib.hid HCr.out
  have HKr := Lib.hid HKr.out
  have HBr := Lib.hid HBr.out
  clear p1 hPz
  have p1 := (cell_of_block (i := 1) HBRr.out).trans rfl
  have hPz := lt_of_blk HBRr.out
  have HSr := Lib.hid (HL.out.below HBr.out (Nat.le_refl _))
  by_cases hlt8 : X < 8 * (n - 1)
  · have hz8 : (X : Int) < 8 * ((n : Int) - 1) := by omega
    have hxl : X + 1 ≤ 8 * l.length := by have := HLN.out; omega
    go_wp2_with fail
    refine (getL 1 1 rfl wr P X _ l HBRr.out HSr.out HO.out hxl (by omega) h300).mono ?_
    rintro e w6 ⟨rfl, hb6, ho6⟩
    rw [numB_one]
    have HB6 := Lib.hid (HBr.out.trans (ho6.toBelow HBr.out.size hPw))
    have HK6 := Lib.hid (ho6.block HKr.out hPR)
    have HC6 := Lib.hid (ho6.block HCr.out hCP)
    have HBR6 := Lib.hid hb6
    clear hb6 ho6 p1 hPz
    have p1 := (cell_of_block (i := 1) HBR6.out).trans rfl
    have hPz := lt_of_blk HBR6.out
    have hlR := lt_of_blk HK6.out
    have r0 := (cell_of_block (i := 0) HK6.out).trans rfl
    have g0 := froz_of_block (i := 0) HK6.out
    have r1 := (cell_of_block (i := 1) HK6.out).trans rfl
    have g1 := froz_of_block (i := 1) HK6.out
    have r2 := (cell_of_block (i := 2) HK6.out).trans rfl
    have g2 := froz_of_block (i := 2) HK6.out
    have r3 := (cell_of_block (i := 3) HK6.out).trans rfl
    have g3 := froz_of_block (i := 3) HK6.out
    have r4 := (cell_of_block (i := 4) HK6.out).trans rfl
    have g4 := froz_of_block (i := 4) HK6.out
    have r5 := (cell_of_block (i := 5) HK6.out).trans rfl
    have g5 := froz_of_block (i := 5) HK6.out
    obtain ⟨t, ht⟩ : ∃ t, t = bitAt l X := ⟨_, rfl⟩
    rw [← ht]
    cases t
    · have hv : Hid (A = ⟨zeroC, (X / 8 : Nat), 10⟩) := Lib.hid (by rw [HV7.out, HTL.out, HX.out, badAt_hit ht.symm (by omega)]; rfl)
      have hq : ((b01 false : Nat) : Int) = 0 := rfl
      have hdz : (((X / 8 : Nat) : Int)) = (X : Int) / 8 := by omega
      have HV8 : Hid (A = ⟨zeroC, (X : Int) / 8, 10⟩) := Lib.hid (by rw [← hdz]; exact hv.out)
      clear ht hdz hv
      have hv := HV8
      go_wp2
      exact bodyPost_ret (v := .tuple #[.agg #[.int .i64 0, .int .i64 0, .bool false, .int .i64 0, .int .i64 0, .bool false], .int .i64 ((X : Int) / 8), .int .i64 10]) (by simp [results, Try.results6, go_sem, r0, r1, r2, r3, r4, r5, hlR]) rfl (RdP.mk hv.out rfl ((((((HB6.out.setCell (Nat.le_refl _) _).setCell (Nat.le_refl _) _).setCell (Nat.le_refl _) _).setCell (Nat.le_refl _) _).setCell (Nat.le_refl _) _).setCell (Nat.le_refl _) _))
    · have hn1 := badAt_next ht.symm (m := 8 * (n - 1) - X) (by omega)
      have HX2 : Hid (badAt l E (8 * (n - 1) - E) = badAt l (X + 1) (8 * (n - 1) - (X + 1))) := Lib.hid (by rw [HX.out, hn1]; rfl)
      have hq : ((b01 true : Nat) : Int) = 1 := rfl
      clear ht hn1
      go_wp2
      go_roundg (8 * (n - 1) - (X + 1))
      case measure => omega
      case rel => exact ⟨X + 1, by omega, by omega, by omega, HX2.out, HBR6.out, HC6.out, HK6.out, HB6.out⟩
  · have hz8 : ¬ (X : Int) < 8 * ((n : Int) - 1) := by omega
    have HVT : Hid (A = TA) := Lib.hid (by
      rw [HV7.out, HTL.out, HX.out, show 8 * (n - 1) - X = 0 by omega]
      rfl)
    have hlR := lt_of_blk HKr.out
    have r0 := (cell_of_block (i := 0) HKr.out).trans rfl
    have g0 := froz_of_block (i := 0) HKr.out
    have r1 := (cell_of_block (i := 1) HKr.out).trans rfl
    have g1 := froz_of_block (i := 1) HKr.out
    have r2 := (cell_of_block (i := 2) HKr.out).trans rfl
    have g2 := froz_of_block (i := 2) HKr.out
    have r3 := (cell_of_block (i := 3) HKr.out).trans rfl
    have g3 := froz_of_block (i := 3) HKr.out
    have r4 := (cell_of_block (i := 4) HKr.out).trans rfl
    have g4 := froz_of_block (i := 4) HKr.out
    have r5 := (cell_of_block (i := 5) HKr.out).trans rfl
    have g5 := froz_of_block (i := 5) HKr.out
    have hlC := lt_of_blk HCr.out
    have c0 := (cell_of_block (i := 0) HCr.out).trans rfl
    have c1 := (cell_of_block (i := 1) HCr.out).trans rfl
    have c2 := (cell_of_block (i := 2) HCr.out).trans rfl
    have c3 := (cell_of_block (i := 3) HCr.out).trans rfl
    have c4 := (cell_of_block (i := 4) HCr.out).trans rfl
    have c5 := (cell_of_block (i := 5) HCr.out).trans rfl
    go_wp2_with fail
    refine (HSU.out _ HSr.out).mono ?_
    rintro e w7 ⟨rfl, rfl⟩
    cases hs : ((S : Int) != 0)
    case true =>
      have hv : Hid (A = ⟨zeroC, 0, 15⟩) := Lib.hid (by rw [HVT.out, HTC.out, if_pos (by intro e; rw [e] at hs; simp at hs)])
      go_wp2
      exact bodyPost_ret (v := .tuple #[.agg #[.int .i64 0, .int .i64 0, .bool false, .int .i64 0, .int .i64 0, .bool false], .int .i64 (0), .int .i64 15]) (by simp [results, Try.results6, go_sem, r0, r1, r2, r3, r4, r5, hlR]) rfl (RdP.mk hv.out rfl ((((((HBr.out.setCell (Nat.le_refl _) _).setCell (Nat.le_refl _) _).setCell (Nat.le_refl _) _).setCell (Nat.le_refl _) _).setCell (Nat.le_refl _) _).setCell (Nat.le_refl _) _))
    case false =>
      have HT2 : Hid (TA = if F ≠ 0 then ⟨zeroC, 0, F⟩ else ⟨⟨ki, ev, no, ti, le, au⟩, 0, 0⟩) := Lib.hid (by rw [HTC.out, if_neg (by simp at hs; omega)])
      go_wp2_with fail
      refine (HCK.out _).mono ?_
      rintro e w8 ⟨rfl, hb8⟩
      have HB8 := Lib.hid (HBr.out.thru hb8)
      have HK8 := Lib.hid ((hb8.block _ hlR).trans HKr.out)
      have HC8 := Lib.hid ((hb8.block _ hlC).trans HCr.out)
      clear r0 g0 r1 g1 r2 g2 r3 g3 r4 g4 r5 g5 c0 c1 c2 c3 c4 c5 hlR hlC hb8 p1 hPz
      have hlR := lt_of_blk HK8.out
      have r0 := (cell_of_block (i := 0) HK8.out).trans rfl
      have g0 := froz_of_block (i := 0) HK8.out
      have r1 := (cell_of_block (i := 1) HK8.out).trans rfl
      have g1 := froz_of_block (i := 1) HK8.out
      have r2 := (cell_of_block (i := 2) HK8.out).trans rfl
      have g2 := froz_of_block (i := 2) HK8.out
      have r3 := (cell_of_block (i := 3) HK8.out).trans rfl
      have g3 := froz_of_block (i := 3) HK8.out
      have r4 := (cell_of_block (i := 4) HK8.out).trans rfl
      have g4 := froz_of_block (i := 4) HK8.out
      have r5 := (cell_of_block (i := 5) HK8.out).trans rfl
      have g5 := froz_of_block (i := 5) HK8.out
      have hlC := lt_of_blk HC8.out
      have c0 := (cell_of_block (i := 0) HC8.out).trans rfl
      have c1 := (cell_of_block (i := 1) HC8.out).trans rfl
      have c2 := (cell_of_block (i := 2) HC8.out).trans rfl
      have c3 := (cell_of_block (i := 3) HC8.out).trans rfl
      have c4 := (cell_of_block (i := 4) HC8.out).trans rfl
      have c5 := (cell_of_block (i := 5) HC8.out).trans rfl
      cases hf : (F != 0)
      case true =>
        have hv : Hid (A = ⟨zeroC, 0, F⟩) := Lib.hid (by rw [HVT.out, HT2.out, if_pos (by simpa using hf)])
        go_wp2
        exact bodyPost_ret (v := .tuple #[.agg #[.int .i64 0, .int .i64 0, .bool false, .int .i64 0, .int .i64 0, .bool false], .int .i64 (0), .int .i64 F]) (by simp [results, Try.results6, go_sem, r0, r1, r2, r3, r4, r5, hlR]) rfl (RdP.mk hv.out rfl ((((((HB8.out.setCell (Nat.le_refl _) _).setCell (Nat.le_refl _) _).setCell (Nat.le_refl _) _).setCell (Nat.le_refl _) _).setCell (Nat.le_refl _) _).setCell (Nat.le_refl _) _))
      case false =>
        have hv : Hid (A = ⟨⟨ki, ev, no, ti, le, au⟩, 0, 0⟩) := Lib.hid (by rw [HVT.out, HT2.out, if_neg (by simpa using hf)])
        go_wp2
        exact bodyPost_ret (v := .tuple #[.agg #[.int .i64 ki, .int .i64 ev, .bool no, .int .i64 ti, .int .i64 le, .bool au], .int .i64 0, .int .i64 0]) (by simp [results, Try.results6, go_sem, r0, r1, r2, r3, r4, r5, hlR]) rfl (RdP.mk hv.out rfl ((((((HB8.out.setCell (Nat.le_refl _) _).setCell (Nat.le_refl _) _).setCell (Nat.le_refl _) _).setCell (Nat.le_refl _) _).setCell (Nat.le_refl _) _).setCell (Nat.le_refl _) _))
end Go.Proofs.Ytpdeodoidlcdoaa

/- CheckCue of the reference. -/
namespace Go.Proofs.Ytpdeodoidlcdoaa
open Go.RowKit
theorem formB_ref (c : Cue) : formB c = ((((c.ki == 0) && (c.ev != 0)) || (!((c.ki == 1) || (c.ki == 2)) && c.no)) || ((!((c.ki == 1) || (c.ki == 2)) || c.no) && (c.ti != 0)) || (!(c.ki == 1) && ((c.le != 0) || c.au))) := by
  unfold formB
  generalize (c.ki == 0) = a
  generalize (c.ev != 0) = b
  generalize (c.ki == 1) = d
  generalize (c.ki == 2) = e
  generalize c.no = f
  generalize (c.ti != 0) = g
  generalize (c.le != 0) = h
  generalize c.au = i
  cases a <;> cases b <;> cases d <;> cases e <;> cases f <;> cases g <;> cases h <;> cases i <;> rfl

end Go.Proofs.Ytpdeodoidlcdoaa

/- Sum of the reference: bit by bit. -/
namespace Go.Proofs.Ytpdeodoidlcdoaa
open Go.RowKit

/-- One bit more. -/
def refStep (n t : Nat) : Nat := if n / 2147483648 ≠ t then (n * 2 % 4294967296) ^^^ 79764919 else n * 2 % 4294967296
theorem refStep_lt (n t : Nat) : refStep n t < 4294967296 := by
  unfold refStep
  split
  · exact xor_lt32 (by omega) (by omega)
  · omega
theorem xor_dbl (a b : Nat) : (a ^^^ b) * 2 % 4294967296 = (a * 2 % 4294967296) ^^^ (b * 2 % 4294967296) := by
  have h1 : (a ^^^ b) <<< 1 = (a <<< 1) ^^^ (b <<< 1) := Nat.shiftLeft_xor_distrib
  rw [Nat.shiftLeft_eq, Nat.shiftLeft_eq, Nat.shiftLeft_eq, Nat.pow_one] at h1
  have h2 : ((a * 2) ^^^ (b * 2)) % 2 ^ 32 = (a * 2) % 2 ^ 32 ^^^ (b * 2) % 2 ^ 32 := Nat.xor_mod_two_pow
  rw [h1]
  exact h2
theorem xor_hi (a b : Nat) : (a ^^^ b) / 2147483648 = a / 2147483648 ^^^ b / 2147483648 := by
  have h : (a ^^^ b) / 2 ^ 31 = a / 2 ^ 31 ^^^ b / 2 ^ 31 := Nat.xor_div_two_pow
  exact h
theorem step_xor {a b : Nat} (ha : a < 4294967296) (hb : b < 4294967296) : bitStep (a ^^^ b) = refStep a (b / 2147483648) ^^^ (b * 2 % 4294967296) := by
  unfold bitStep refStep
  rw [xor_hi, xor_dbl]
  have h1 : a / 2147483648 = 0 ∨ a / 2147483648 = 1 := by omega
  have h2 : b / 2147483648 = 0 ∨ b / 2147483648 = 1 := by omega
  generalize a * 2 % 4294967296 = A
  generalize b * 2 % 4294967296 = B
  rcases h1 with h1 | h1 <;> rcases h2 with h2 | h2 <;> rw [h1, h2]
  · rfl
  · show (A ^^^ B) ^^^ 79764919 = (A ^^^ 79764919) ^^^ B
    rw [Nat.xor_assoc, Nat.xor_comm B, ← Nat.xor_assoc]
  · show (A ^^^ B) ^^^ 79764919 = (A ^^^ 79764919) ^^^ B
    rw [Nat.xor_assoc, Nat.xor_comm B, ← Nat.xor_assoc]
  · rfl
/-- j bits of a byte, the highest first. -/
def refBits (n c : Nat) : Nat → Nat
  | 0 => n
  | j + 1 => refStep (refBits n c j) (c / 2 ^ (7 - j) % 2)
theorem refBits_lt {n c : Nat} (hn : n < 4294967296) : ∀ j, refBits n c j < 4294967296
  | 0 => hn
  | _ + 1 => refStep_lt _ _
theorem top_bit {c j : Nat} (hc : c < 256) (hj : j < 8) : (c * 2 ^ (24 + j) % 4294967296) / 2147483648 = c / 2 ^ (7 - j) % 2 := by
  have h : j = 0 ∨ j = 1 ∨ j = 2 ∨ j = 3 ∨ j = 4 ∨ j = 5 ∨ j = 6 ∨ j = 7 := by omega
  rcases h with rfl | rfl | rfl | rfl | rfl | rfl | rfl | rfl <;> simp only [Nat.reduceAdd, Nat.reducePow, Nat.reduceSub] <;> omega
theorem bits_xor {n c : Nat} (hn : n < 4294967296) (hc : c < 256) : ∀ j, j ≤ 8 → iterN bitStep j (n ^^^ (c * 16777216)) = refBits n c j ^^^ (c * 2 ^ (24 + j) % 4294967296)
  | 0, _ => by
    show n ^^^ (c * 16777216) = n ^^^ (c * 2 ^ 24 % 4294967296)
    congr 1
    simp only [Nat.reducePow]
    omega
  | j + 1, hj => by
    show bitStep (iterN bitStep j _) = _
    rw [bits_xor hn hc j (by omega), step_xor (refBits_lt hn j) (Nat.mod_lt _ (by omega)), top_bit hc (by omega)]
    show refStep (refBits n c j) _ ^^^ _ = refStep (refBits n c j) _ ^^^ _
    congr 1
    have e : 2 ^ (24 + (j + 1)) = 2 ^ (24 + j) * 2 := by rw [← Nat.add_assoc, Nat.pow_succ]
    rw [e, ← Nat.mul_assoc]
    generalize c * 2 ^ (24 + j) = X
    omega
theorem refBits_byte {n c : Nat} (hn : n < 4294967296) (hc : c < 256) : refBits n c 8 = byteStep n c := by
  have h := bits_xor hn hc 8 (Nat.le_refl _)
  unfold byteStep
  rw [h]
  have e : c * 2 ^ (24 + 8) % 4294967296 = 0 := by simp only [Nat.reduceAdd, Nat.reducePow]; omega
  rw [e, Nat.xor_zero]

theorem xor64 (a b : Nat) (ha : a < 4294967296) (hb : b < 4294967296) : bits .xor .i64 (a : Int) (b : Int) = ((a ^^^ b : Nat) : Int) := by
  have hx := xor_lt32 ha hb
  show IntKind.i64.wrap ((BitVec.ofInt 64 (a : Int) ^^^ BitVec.ofInt 64 (b : Int)).toNat : Int) = _
  rw [BitVec.toNat_xor, ofInt_64 a (by omega), ofInt_64 b (by omega), IntKind.wrap_i64]
  omega

end Go.Proofs.Ytpdeodoidlcdoaa

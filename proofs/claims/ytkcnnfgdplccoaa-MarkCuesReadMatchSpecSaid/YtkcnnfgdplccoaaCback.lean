/- MarkCuesComeBack: a cue is read as it was written. -/
import Derived.Test.YtkcnnfgdplccoaaRead
import Derived.Test.YtkcnnfgdplccoaaCbkW
import Derived.Test.YtkcnnfgdplccoaaBytE
import Derived.Test.YtkcnnfgdplccoaaCloneU
import Derived.Laws.StructEq
namespace Go.Proofs.Ytkcnnfgdplccoaa
open Go.RowKit
set_option linter.unusedSimpArgs false
set_option linter.unusedVariables false

theorem stoodC : Try.prog.stoodInHeld 29 = false := by kernel_rfl
theorem guardC : Try.prog.eqGuardType Try.prog.depth 29 = false := by kernel_rfl
theorem eqC_same (ki ev : Int) (no : Bool) (ti le : Int) (au : Bool) (w : World) : (binOp .eql 29 (agC ⟨ki, ev, no, ti, le, au⟩) (agC ⟨ki, ev, no, ti, le, au⟩)).run Try.prog w = .ok (.bool true) w := by
  have h1 := stoodC
  simp [go_sem, h1]
theorem neqC_same (ki ev : Int) (no : Bool) (ti le : Int) (au : Bool) (w : World) : (binOp .neq 29 (agC ⟨ki, ev, no, ti, le, au⟩) (agC ⟨ki, ev, no, ti, le, au⟩)).run Try.prog w = .ok (.bool false) w := by
  have h1 := stoodC
  simp [go_sem, h1]

theorem xor_ne (x r : Nat) (hr : r < 8) (hx : x < 256) : x ^^^ 2 ^ r < 256 ∧ x ^^^ 2 ^ r ≠ x := by
  have h2 : 2 ^ r < 2 ^ 8 := Nat.pow_lt_pow_right (by omega) hr
  refine ⟨Nat.xor_lt_two_pow (n := 8) hx h2, fun h => ?_⟩
  have h3 := congrArg (x ^^^ ·) h
  simp only [← Nat.xor_assoc, Nat.xor_self, Nat.zero_xor] at h3
  have := Nat.two_pow_pos r
  omega

set_option maxRecDepth 100000 in
set_option maxHeartbeats 8000000 in
theorem cback_any (w : World) (c : Cue) (l : List UInt8) (v : Value) (bit : Int) (hl : Sl w 1 encU v l) (hbit : -9223372036854775808 ≤ bit ∧ bit ≤ 9223372036854775807) :
    Calls Try.prog 6 #[agC c, v, .int .i64 bit] w fun e w' => e = .returned (.bool true) ∧ Below w.heap.size w w' := by
  have HB0 := Lib.hid ((Below.refl w.heap.size w).alloc (Nat.le_refl _) (boxC c))
  have HK0 := Lib.hid (block_new w (boxC c))
  have HL := Lib.hid hl
  have HCB := Lib.hid (fun W => CueBytes_any c W)
  have HC2 := Lib.hid (fun d W => CueBytes_any d W)
  have HRW := Lib.hid (fun (h : checkC c = 0) => read_write c h)
  have HCR := Lib.hid (crc_cueB c)
  have HCL := Lib.hid (cueB_len c)
  have HV : Hid (cueR c = if checkC c = 0 then cueB c else []) := Lib.hid rfl
  have HRD := Lib.hid (fun W m u (h : Sl W 1 encU u m) => ReadCue_any W m u h)
  have HWR := Lib.hid (fun m h => write_read m h)
  have HRZ := Lib.hid (fun m h => read_zero m h)
  have HSET := Lib.hid (fun (m : List UInt8) (i : Nat) (x y : UInt8) (hx : m[i]? = some x) (h : crc (m.set i y) = crc m) => crc_set hx h)
  clear hl
  generalize cueB c = B at HV HRW HCR HCL
  generalize cueR c = R at HV HCB
  generalize checkC c = F at HV HCB HRW
  obtain ⟨ki, ev, no, ti, le, au⟩ := c
  go_enter Try.func6, Try.ntmps6
  go_wp2_with fail
  refine (HCB.out _).mono ?_
  rintro e w1 ⟨x, rfl, hx, hb⟩
  have HB1 := Lib.hid (HB0.out.thru hb)
  have HX1 := Lib.hid hx
  have HK1 := Lib.hid ((hb.block _ (lt_of_blk HK0.out)).trans HK0.out)
  clear hx hb HCB
  go_upto_if 27 with (fail)
  go_cut [12] (fun _ wc => Aside (Below w.heap.size w wc))
  case first =>
    cases hF : (F != 0)
    case true =>
      have hd : (F == 0) = false := by rw [bne_iff_ne] at hF; exact beq_eq_false_iff_ne.2 hF
      clear hF
      go_wp2
      go_meet
      exact HB1.out
    obtain rfl : F = 0 := by simpa using hF
    have HRW := Lib.hid (HRW.out rfl)
    have hRB : R = B := by rw [HV.out]; rfl
    subst hRB
    clear HV hF
    have hL20 := HCL.out.2
    have hL1 := HCL.out.1
    have hLp : 1 ≤ R.length := by omega
    clear hL1 HCL
    have hx0 := HX1.out
    obtain ⟨xo, xc, rfl, hxc, hxm, _, _⟩ := hx0
    unfold maxLen at hxm
    go_wp2_with fail
    refine (HRD.out _ _ _ HX1.out).mono ?_
    rw [HRW.out]
    rintro e w2 ⟨rfl, hb⟩
    have HB2 := Lib.hid (HB1.out.thru hb)
    have HX2 := Lib.hid (HX1.out.below hb (Nat.le_refl _))
    have HK2 := Lib.hid ((hb.block _ (lt_of_blk HK1.out)).trans HK1.out)
    clear hb
    have r0 := (cell_of_block (i := 0) HK2.out).trans rfl
    have r1 := (cell_of_block (i := 1) HK2.out).trans rfl
    have r2 := (cell_of_block (i := 2) HK2.out).trans rfl
    have r3 := (cell_of_block (i := 3) HK2.out).trans rfl
    have r4 := (cell_of_block (i := 4) HK2.out).trans rfl
    have r5 := (cell_of_block (i := 5) HK2.out).trans rfl
    have hlR := lt_of_blk HK2.out
    have hne := fun w => neqC_same ki ev no ti le au w
    have hgd := guardC
    have h20 : ¬ (20 : Int) < (R.length : Int) := by omega
    obtain ⟨w3, hw3⟩ : ∃ w3, w3 = w2.alloc (boxC ⟨ki, ev, no, ti, le, au⟩) := ⟨_, rfl⟩
    have HW23 : Hid (Below w2.heap.size w2 w3) := Lib.hid (by rw [hw3]; exact (Below.refl _ _).alloc (Nat.le_refl _) _)
    have HX3 := Lib.hid (HX2.out.below HW23.out (Nat.le_refl _))
    have HB3 := Lib.hid (HB2.out.thru HW23.out)
    have HWE := Lib.hid hw3
    clear hw3
    go_wp2_with fail
    any_goals (with_reducible exact True.intro)
    rw [← HWE.out]
    refine (clone_any _ R _ HX3.out (by omega)).mono ?_
    rintro e w4 ⟨y, rfl, ho, hb⟩
    have HB4 := Lib.hid (HB3.out.thru hb)
    have hne : R ≠ [] := fun e => by rw [e] at hLp; simp at hLp
    obtain ⟨g, cp, rfl, hgb, hgl, hgc, hgm, hgcell, hgf⟩ := Own.getk encU_len ho hne
    have HO4 := Lib.hid ho
    obtain ⟨t, ht⟩ : ∃ t, t = bit.tmod (8 * (R.length : Int)) := ⟨_, rfl⟩
    have ht1 : -(8 * (R.length : Int)) < t ∧ t < 8 * (R.length : Int) := by
      rw [ht]
      have h1 := Int.tmod_lt_of_pos bit (b := 8 * (R.length : Int)) (by omega)
      have h2 := Int.tmod_lt_of_pos (-bit) (b := 8 * (R.length : Int)) (by omega)
      rw [Int.neg_tmod] at h2
      omega
    have htm : bit.tmod (8 * (R.length : Int)) = t := ht.symm
    obtain ⟨K, hK⟩ : ∃ K : Nat, (K : Int) = (t + 8 * (R.length : Int)) % (8 * (R.length : Int)) := Int.eq_ofNat_of_zero_le (Int.emod_nonneg _ (by omega)) |>.imp fun _ h => h.symm
    have hKl : K < 8 * R.length := by
      have : (K : Int) < 8 * (R.length : Int) := by rw [hK]; exact Int.emod_lt_of_pos _ (by omega)
      omega
    have hkm : (t + 8 * (R.length : Int)) % (8 * (R.length : Int)) = (K : Int) := hK.symm
    have hkt : (t + 8 * (R.length : Int)).tmod (8 * (R.length : Int)) = (K : Int) := by rw [Int.tmod_eq_emod_of_nonneg (by omega)]; exact hK.symm
    obtain ⟨t1, t2⟩ := ht1
    have hm0 : ¬ 8 * (R.length : Int) = 0 := by omega
    clear ht hK hb ho hne r0 r1 r2 r3 r4 r5 hlR
    obtain ⟨Q, hQ⟩ : ∃ Q, Q = K / 8 := ⟨_, rfl⟩
    obtain ⟨r, hr⟩ : ∃ r, r = K % 8 := ⟨_, rfl⟩
    have hQl : Q < R.length := by omega
    have hr8 : r < 8 := by omega
    obtain ⟨X, hX⟩ : ∃ X, X = R[Q].toNat := ⟨_, rfl⟩
    have hX256 : X < 256 := by rw [hX]; exact R[Q].toNat_lt
    have cb : w4.cell? ⟨g, Q, none⟩ = some (.int .u8 (X : Nat)) := by
      have := hgcell Q R[Q] 0 _ (by simp) rfl
      rw [hX]
      simpa using this
    have fb := hgf Q
    have hdiv : (K : Int) / 8 = (Q : Int) := by omega
    have hmod : (K : Int) % 8 = (r : Int) := by omega
    have td : (K : Int).tdiv 8 = (Q : Int) := by rw [Int.tdiv_eq_ediv_of_nonneg (by omega)]; exact hdiv
    have tm : (K : Int).tmod 8 = (r : Int) := by rw [Int.tmod_eq_emod_of_nonneg (by omega)]; exact hmod
    have m1 : IntKind.i64.wrap (Q : Int) = (Q : Int) := IntWalk.i64_in _ (by omega)
    have m2 : IntKind.i64.wrap (r : Int) = (r : Int) := IntWalk.i64_in _ (by omega)
    have m3 : ((r : Int)).toNat = r := by omega
    have m4 : (0 : Int) ≤ (r : Int) := by omega
    have m5 : (r : Int) ≤ 8 := by omega
    have m6 : (Q : Int) < (R.length : Int) := by omega
    have h2r : 2 ^ r < 256 := Nat.lt_of_lt_of_le (Nat.pow_lt_pow_right (by omega) hr8) (by decide : 2 ^ 8 ≤ 256)
    obtain ⟨hxl, hxn⟩ := xor_ne X r hr8 hX256
    have hxor : bits .xor .u8 (X : Int) ((2 ^ r : Nat) : Int) = ((X ^^^ 2 ^ r : Nat) : Int) := u8_xor_nat _ _ hX256 h2r
    obtain ⟨Y, hY⟩ : ∃ Y, Y = X ^^^ 2 ^ r := ⟨_, rfl⟩
    rw [← hY] at hxor hxl hxn
    obtain ⟨Tw, hTw⟩ : ∃ Tw, Tw = 2 ^ r := ⟨_, rfl⟩
    rw [← hTw] at hxor h2r
    have hsh : IntKind.u8.wrap ((2 : Int) ^ r) = (Tw : Int) := by
      have e : (2 : Int) ^ r = (Tw : Int) := by rw [hTw]; simp
      rw [IntKind.wrap_u8', e]
      omega
    have HO5 : Hid (Own (w4.setCell ⟨g, Q, none⟩ (.int .u8 (Y : Nat))) w3.heap.size 5 1 encU (.slice (some ⟨g, 0, none⟩) R.length cp) (R.set Q (UInt8.ofNat Y))) := Lib.hid (by
      have hs := Own.store (i := Q) (j := 0) (x := R[Q]) (y := UInt8.ofNat Y) (u := .int .u8 (Y : Nat)) encU_len HO4.out rfl (by simp) (by omega) (by simp [encU, UInt8.toNat_ofNat', Nat.mod_eq_of_lt hxl])
      have e1 : Q * 1 + 0 = Q := by omega
      rw [e1] at hs
      exact hs)
    have HB5 : Hid (Below w.heap.size w (w4.setCell ⟨g, Q, none⟩ (.int .u8 (Y : Nat)))) := Lib.hid (HB4.out.setCell (p := ⟨g, Q, none⟩) (by show w.heap.size ≤ g; have := HB3.out.size; omega) _)
    have HFA : Hid ((readC (R.set Q (UInt8.ofNat Y))).fault ≠ 0) := Lib.hid (fun h => by
      have h1 := (HWR.out _ h).2.2
      have h2 := HSET.out R Q R[Q] (UInt8.ofNat Y) (by simp) (by rw [h1, HCR.out])
      have h3 := congrArg UInt8.toNat h2
      rw [UInt8.toNat_ofNat', ← hX] at h3
      omega)
    clear hQ hr hX hY hTw hxn hdiv hmod h2r
    go_upto_region 8 with (fail)
    go_still_tail 9, (by kernel_rfl)
    change wpList _ _ _ _ _ w4.drew
    have HS6 : Hid (Sl (w4.setCell ⟨g, Q, none⟩ (.int .u8 (Y : Nat))).drew 1 encU (.slice (some ⟨g, 0, none⟩) R.length cp) (R.set Q (UInt8.ofNat Y))) := Lib.hid (by
      have := HO5.out.drew1.sl encU_len
      exact this)
    go_wp2_with fail
    refine (HRD.out _ (R.set Q (UInt8.ofNat Y)) _ HS6.out).mono ?_
    have HFA := Lib.hid HFA.out
    generalize readC (R.set Q (UInt8.ofNat Y)) = a6 at HFA ⊢
    rintro e w6 ⟨rfl, hb⟩
    have HB6 := Lib.hid (HB5.out.drew.thru hb)
    obtain ⟨⟨k6, e6, n6, t6, l6, u6⟩, z6, f6⟩ := a6
    have hf6 : f6 ≠ 0 := HFA.out
    have hd6 : (f6 == 0) = false := beq_eq_false_iff_ne.2 hf6
    clear hf6 hb cb fb td tm m1 m2 m3 m4 m5 m6 hsh hxor htm hkm hkt hm0
    go_wp2
    go_meet
    exact HB6.out.alloc HB6.out.size _
  have HB7' := Lib.hid hcut.out
  clear hcut
  obtain ⟨w7, hw7⟩ : ∃ w7, w7 = wc := ⟨_, rfl⟩
  rw [← hw7] at HB7' ⊢
  have HB7 := HB7'
  clear HB7' hw7
  have HS7 := Lib.hid (HL.out.below HB7.out (Nat.le_refl _))
  have HWRl := Lib.hid (HWR.out l)
  have HRZl := Lib.hid (HRZ.out l)
  have HRDl := Lib.hid (HRD.out w7 l v HS7.out)
  clear HWR HRZ HRD HSET
  generalize readC l = a7 at HWRl HRZl HRDl
  obtain ⟨⟨k7, e7, n7, t7, l7, u7⟩, z7, f7⟩ := a7
  go_wp2_with fail
  refine HRDl.out.mono ?_
  rintro e w8 ⟨rfl, hb⟩
  have HB8 := Lib.hid (HB7.out.thru hb)
  clear hb
  have hgd := guardC
  cases h7 : (f7 != 0)
  case true =>
    have hz := HRZl.out (by simpa using h7)
    simp only [zeroC, Cue.mk.injEq] at hz
    obtain ⟨rfl, rfl, rfl, rfl, rfl, rfl⟩ := hz
    have hne := fun w => eqC_same 0 0 false 0 0 false w
    go_wp2_with (go_at_call 9; refine (awake_any _).mono ?_; rintro e w9 ⟨rfl, hb9⟩)
    go_ret
    exact ⟨rfl, (HB8.out.alloc HB8.out.size _).thru hb9⟩
  case false =>
    obtain ⟨hc, hB, _⟩ := HWRl.out (by simpa using h7)
    have HC9 := Lib.hid (fun W => HC2.out ⟨k7, e7, n7, t7, l7, u7⟩ W)
    have hR : cueR ⟨k7, e7, n7, t7, l7, u7⟩ = l := by unfold cueR; rw [if_pos hc]; exact hB
    rw [hR, hc] at HC9
    have HBA := Lib.hid (HB8.out.alloc HB8.out.size (boxC ⟨k7, e7, n7, t7, l7, u7⟩))
    obtain rfl : f7 = 0 := by simpa using h7
    clear hR hc hB HWRl HRZl HC2 h7
    go_wp2_with fail
    refine (HC9.out _).mono ?_
    rintro e w9 ⟨y9, rfl, hy9, hb⟩
    have HB9 := Lib.hid (HBA.out.thru hb)
    have HY9 := Lib.hid hy9
    have HL9 := Lib.hid (HL.out.below HB9.out (Nat.le_refl _))
    have HE9 := Lib.hid (bytesEqual_any w9 l l y9 v HY9.out HL9.out)
    have hdt : decide (l = l) = true := by simp
    rw [hdt] at HE9
    clear hb hy9 hdt
    go_wp2_with (first | (go_at_call 15; refine HE9.out.mono ?_; rintro e w' ⟨rfl, rfl⟩) | (go_at_call 9; refine (awake_any _).mono ?_; rintro e w10 ⟨rfl, hb10⟩))
    go_ret
    exact ⟨rfl, HB9.out.thru hb10⟩
end Go.Proofs.Ytkcnnfgdplccoaa

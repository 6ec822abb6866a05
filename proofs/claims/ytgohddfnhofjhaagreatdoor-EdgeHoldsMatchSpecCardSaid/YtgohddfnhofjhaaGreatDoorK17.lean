/- CheckReleases of the program. -/
import Derived.Test.YtgohddfnhofjhaaGreatDoorK13
import Derived.Test.YtgohddfnhofjhaaGreatDoorK04
import Derived.Test.YtgohddfnhofjhaaGreatDoorK03
import Derived.Test.YtgohddfnhofjhaaGreatDoorK01
set_option maxRecDepth 100000
set_option maxHeartbeats 4000000
namespace Go.Proofs.YtgohddfnhofjhaaGreatDoor
open Go.RowKit
theorem AX (n : ByteArray) (y : Cch) (B : Nat) (W : World) (hc : W.cell? ⟨B, 0, none⟩ = some (.string n)) :
 Calls Tryz.prog 130 #[.agg #[.string y.na, .string y.pa, .int .i64 y.de, .int .i64 y.ro], .pointer (some ⟨B, 0, none⟩)] W fun e w' => e = .returned (.bool (isC y n)) ∧ Below W.heap.size W w' := by
 have hlt := LC W _ hc; have hv : Hid ((y.na.toList == n.toList) = isC y n) := Lr rfl
 go_enter Tryz.func130, Tryz.ntmps130
 go_wp2
 go_ret
 exact ⟨az hv.out, (LD _ _).alloc (Ls _) _⟩
theorem BK (w : World) (l : List Cch) (v : Value) (kk : Nat) (n : ByteArray) (b1 b2 : Nat) (hl : Sl w 4 su v l) (hk : kk ≤ l.length) (h1 : w.cell? ⟨b1, 0, none⟩ = some v) (h2 : w.cell? ⟨b2, 0, none⟩ = some (.int .i64 kk)) :
 Calls Tryz.prog 129 #[.string n, .pointer (some ⟨b1, 0, none⟩), .pointer (some ⟨b2, 0, none⟩)] w fun e w' => e = .returned (.bool (iw (l.take kk) n)) ∧ Below w.heap.size w w' := by
 obtain ⟨T, hT⟩ : ∃ T, T = iw (l.take kk) n := ⟨_, rfl⟩
 have hl0 := hl; obtain ⟨ao, cap, rfl, hcap, hmax, hnil, hel⟩ := hl; unfold maxLen at hmax; have hany : Hid (Calls Tryz.prog 49 #[.slice ao kk cap, .func (.func 130) #[] #[.pointer (some ⟨w.heap.size, 0, none⟩)]] (w.alloc (.cells #[.string n] 9)) fun e w' => e = .returned (.bool T) ∧ Below (w.alloc (.cells #[.string n] 9)).heap.size (w.alloc (.cells #[.string n] 9)) w') := Lr (by
  rw [hT]; refine KH 130 _ (fun o => isC o n) (w.alloc (.cells #[.string n] 9)) (l.take kk) _ ((hl0.take rfl kk hk).below (B := w.heap.size) ((LD _ _).alloc (Ls _) _) (Ls _)) (enters_of Tryz.func130 (by kernel_rfl) rfl) (fun W' y _ hb => ?_); refine AX n y w.heap.size W' ?_; rw [hb.cell (p := ⟨w.heap.size, 0, none⟩) (by show w.heap.size < (w.alloc _).heap.size; simp), cell_of_block (ag w _)]
  rfl)
 rw [← hT]; have hlt1 := LC w _ h1; have hlt2 := LC w _ h2; have hkz : (kk : Int) ≤ (l.length : Int) := by omega
 have hkc : (kk : Int) ≤ (cap : Int) := by omega
 have hwa : w.heap.size < (w.alloc (.cells #[.string n] 9)).heap.size := by simp
 clear hel hT hl0 hnil
 go_enter Tryz.func129, Tryz.ntmps129
 go_wp2_with fail
 refine hany.out.mono ?_; rintro e w1 ⟨rfl, hb1⟩; have HB1 := Lr (((LD w.heap.size w).alloc (Ls _) (.cells #[.string n] 9)).trans (hb1.mono (Nat.le_of_lt hwa))); clear hb1
 go_wp2
 go_ret
 exact ⟨rfl, HB1.out⟩
theorem zA (w : World) (l : List Cch) (v : Value) (hl : Sl w 4 su v l) (hw : ∀ x, x ∈ l → WfC x) :
 Calls Tryz.prog 80 #[v] w fun e w' => e = .returned (.int .i64 (bZ l)) ∧ Below w.heap.size w w' := by
 have HL := Lr hl; obtain ⟨ao, cap, rfl, hcap, hmax, hnil, hel⟩ := hl; unfold maxLen at hmax; have HB0 : Hid (Below w.heap.size w (w.alloc (.cells #[.slice ao l.length cap] 22))) := Lr ((LD _ _).alloc (Ls _) _); by_cases h0 : l.length = 0
 ·have hv : Hid (9 = bZ l) := Lr (by simp [bZ, h0]); have h0z : ((l.length : Int) == 0) = true := by simp [h0]
  clear hel h0
  go_enter Tryz.func80, Tryz.ntmps80
  go_wp2
  go_ret
  exact ⟨ah hv.out, HB0.out⟩
 have h0z : ((l.length : Int) == 0) = false := by rw [beq_eq_false_iff_ne]; omega
 have h0y : ¬ (l.length : Int) = 0 := by omega
 by_cases hbig : 30 < l.length
 ·have hv : Hid (2 = bZ l) := Lr (by simp [bZ, h0, hbig]); have hbz : (30 : Int) < (l.length : Int) := by omega
  clear hel h0
  go_enter Tryz.func80, Tryz.ntmps80
  go_wp2
  go_ret
  exact ⟨ah hv.out, HB0.out⟩
 have hbz : ¬ (30 : Int) < (l.length : Int) := by omega
 have HF : Hid (bZ l = FF (zV l) l.length) := Lr (by simp [bZ, h0, hbig]); generalize bZ l = F at HF ⊢; have HW := Lr hw; have HEL := Lr hel; have HK0 : Hid ((w.alloc (.cells #[.slice ao l.length cap] 22)).cell? ⟨w.heap.size, 0, none⟩ = some (.slice ao l.length cap)) := Lr ((cell_of_block (i := 0) (ag w _)).trans rfl); clear hw hel h0
 go_enter Tryz.func80, Tryz.ntmps80
 go_wp2
 go_loopg [16] l.length (fun gg s16 wr => ∃ kk : Nat, kk ≤ l.length ∧ l.length - kk ≤ gg ∧ s16 = .int .i64 kk ∧ Aside (Below w.heap.size w wr) ∧ Aside (wr.cell? ⟨w.heap.size, 0, none⟩ = some (.slice ao l.length cap)) ∧ Aside (∀ j, j < kk → zV l j = 0))
 case atStart => exact ⟨0, Nat.zero_le _, by omega, rfl, HB0.out, HK0.out, fun j hj => absurd hj (Nat.not_lt_zero _)⟩
 case round =>
  obtain ⟨kk, hkk, hg, rfl, BW, K0, A⟩ := hrel; have HBW := Lr BW.out; have HK := Lr K0.out; have HA := Lr A.out; have hszw := HBW.out.size; have hlb := LC wr _ HK.out; clear BW K0 A HB0 HK0; by_cases hlt : kk < l.length
  ·have hltz : (kk : Int) < (l.length : Int) := by omega
   obtain ⟨x, hx⟩ : ∃ x, l[kk]? = some x := ⟨l[kk], by simp [hlt]⟩
   obtain ⟨b, off, rfl, hc⟩ := HEL.out kk x hx; have hlt0 := LC w ⟨b, off + kk * 4 + 0, none⟩ (hc 0 _ rfl); have c0 : wr.cell? ⟨b, off + kk * 4, none⟩ = some (.string x.na) := (HBW.out.cell (p := ⟨b, off + kk * 4 + 0, none⟩) hlt0).trans (hc 0 _ rfl); have c1 : wr.cell? ⟨b, off + kk * 4 + 1, none⟩ = some (.string x.pa) := (HBW.out.cell (p := ⟨b, off + kk * 4 + 1, none⟩) hlt0).trans (hc 1 _ rfl); have c2 : wr.cell? ⟨b, off + kk * 4 + 2, none⟩ = some (.int .i64 x.de) := (HBW.out.cell (p := ⟨b, off + kk * 4 + 2, none⟩) hlt0).trans (hc 2 _ rfl); have c3 : wr.cell? ⟨b, off + kk * 4 + 3, none⟩ = some (.int .i64 x.ro) := (HBW.out.cell (p := ⟨b, off + kk * 4 + 3, none⟩) hlt0).trans (hc 3 _ rfl); have hwf := HW.out x (List.mem_of_getElem? hx); have HNM := Lr (fun W => yQ x.na W hwf.1); obtain ⟨tw, htw⟩ : ∃ tw, tw = iw (l.take kk) x.na := ⟨_, rfl⟩
   obtain ⟨hp, hhp⟩ : ∃ tw, tw = iw (l.take kk) x.pa := ⟨_, rfl⟩
   have hat : Hid (zV l kk = vP x tw hp) := Lr (by rw [zV, bi hx, htw, hhp]); have hS : Hid (∀ z, vP x tw hp = z → z ≠ 0 → z = F) := Lr (fun z h hz => by
    rw [HF.out, iM hlt HA.out (by rw [hat.out, h]; exact hz), hat.out, h])
   have hC0 : Hid (vP x tw hp = if (!nameB x.na) = true then 5 else if tw = true then 7 else if (tH x hp) = true then 9 else if (aN x.de 1 100000 || aN x.ro 0 1000000000000) = true then 1 else 0) := Lr rfl; obtain ⟨w5, hw5⟩ : ∃ w5, w5 = (wr.alloc (.cells #[.int .i64 kk] 3)).alloc (.cells #[.string x.na, .string x.pa, .int .i64 x.de, .int .i64 x.ro] 47) := ⟨_, rfl⟩
   have hb5 : Below wr.heap.size wr w5 := by rw [hw5]; exact ((LD _ _).alloc (Ls _) _).alloc (by simp) _
   have hs5 : w5.heap.size = wr.heap.size + 2 := by rw [hw5]; simp
   have hk5 : w5.heap[wr.heap.size]? = some (.cells #[.int .i64 kk] 3 (0, 0)) := by
    rw [hw5, Below.heap_alloc _ _ _ (by simp)]; exact ag wr _
   have hx5 : w5.heap[wr.heap.size + 1]? = some (.cells #[.string x.na, .string x.pa, .int .i64 x.de, .int .i64 x.ro] 47 (0, 0)) := by
    rw [hw5]; have e : wr.heap.size + 1 = (wr.alloc (.cells #[.int .i64 kk] 3)).heap.size := by simp
    rw [e]; exact ag _ _
   have HB5 := Lr (HBW.out.trans (hb5.mono hszw)); have HCL : Hid (∀ (W : World) (n : ByteArray), Below w5.heap.size w5 W → Calls Tryz.prog 129 #[.string n, .pointer (some ⟨w.heap.size, 0, none⟩), .pointer (some ⟨wr.heap.size, 0, none⟩)] W fun e w' => e = .returned (.bool (iw (l.take kk) n)) ∧ Below W.heap.size W w') := Lr (fun W n hW =>
    BK W l _ kk n w.heap.size wr.heap.size (HL.out.below (HB5.out.trans (hW.mono (by have := HB5.out.size; exact this))) (Ls _)) (by omega)
     ((hW.cell (p := ⟨w.heap.size, 0, none⟩) (by show w.heap.size < w5.heap.size; omega)).trans ((hb5.cell (p := ⟨w.heap.size, 0, none⟩) hlb).trans HK.out))
     ((hW.cell (p := ⟨wr.heap.size, 0, none⟩) (by show wr.heap.size < w5.heap.size; omega)).trans ((cell_of_block (i := 0) hk5).trans rfl)))
   have HC1 : Hid (∀ W, Below w5.heap.size w5 W → Calls Tryz.prog 129 #[.string x.na, .pointer (some ⟨w.heap.size, 0, none⟩), .pointer (some ⟨wr.heap.size, 0, none⟩)] W fun e w' => e = .returned (.bool tw) ∧ Below W.heap.size W w') := Lr (fun W h => by rw [htw]; exact HCL.out W x.na h); have HC2 : Hid (∀ W, Below w5.heap.size w5 W → Calls Tryz.prog 129 #[.string x.pa, .pointer (some ⟨w.heap.size, 0, none⟩), .pointer (some ⟨wr.heap.size, 0, none⟩)] W fun e w' => e = .returned (.bool hp) ∧ Below W.heap.size W w') := Lr (fun W h => by rw [hhp]; exact HCL.out W x.pa h); have HX5 := Lr hx5; have HK5 := Lr ((hb5.cell (p := ⟨w.heap.size, 0, none⟩) hlb).trans HK.out); have eg : ∀ args w, (callFunc 129 args).run Tryz.prog w = .ok (.enter 129 args) w := enters_of Tryz.func129 (by kernel_rfl) rfl; obtain ⟨nb, hnb⟩ : ∃ nb, nb = nameB x.na := ⟨_, rfl⟩
   rw [← hnb] at HNM hC0; have HW5 := Lr hw5; clear hx hc htw hhp hk5 hx5 HCL hb5 hw5 hnb
   go_upto_region 9 with (fail)
   rw [← HW5.out]; obtain ⟨g, hgq⟩ : ∃ g, g = wr.heap.size := ⟨_, rfl⟩
   rw [← hgq] at HC1 HC2 HX5 hs5 ⊢; have hg5 : g + 1 < w5.heap.size := by omega
   have y0 := (cell_of_block (i := 0) HX5.out).trans rfl; have y1 := (cell_of_block (i := 1) HX5.out).trans rfl; have y2 := (cell_of_block (i := 2) HX5.out).trans rfl; have y3 := (cell_of_block (i := 3) HX5.out).trans rfl; clear c0 c1 c2 c3 hgq HW5 hs5; cases nb
   case false =>
    have hv : Hid (5 = F) := Lr (hS.out 5 (by rw [hC0.out]; rfl) (by decide))
    go_wp2_with fail
    refine (HNM.out _).mono ?_; rintro e w6 ⟨rfl, rfl⟩
    go_wp2
    go_ret
    exact ⟨ah hv.out, HB5.out⟩
   go_wp2_with fail
   refine (HNM.out _).mono ?_; rintro e w6 ⟨rfl, rfl⟩; have hC1 : Hid (vP x tw hp = if tw = true then 7 else if (tH x hp) = true then 9 else if (aN x.de 1 100000 || aN x.ro 0 1000000000000) = true then 1 else 0) := Lr (by rw [hC0.out]; rfl); clear hC0
   go_wp2_with fail
   refine (HC1.out _ (LD _ _)).mono ?_; rintro e w6 ⟨rfl, hb6⟩; have HB6 := Lr (HB5.out.trans (hb6.mono HB5.out.size)); have z1 := (hb6.cell (p := ⟨g + 1, 1, none⟩) hg5).trans y1; have z2 := (hb6.cell (p := ⟨g + 1, 2, none⟩) hg5).trans y2; have z3 := (hb6.cell (p := ⟨g + 1, 3, none⟩) hg5).trans y3; have HK6 := Lr ((hb6.cell (p := ⟨w.heap.size, 0, none⟩) (LC w5 _ HK5.out)).trans HK5.out); have HC26 := Lr (HC2.out w6 hb6); have hg6 : g + 1 < w6.heap.size := Nat.lt_of_lt_of_le hg5 hb6.size; clear hb6 y0 y1 y2 y3 HC1 HC2 HX5 HK5; cases tw
   case true =>
    have hv : Hid (7 = F) := Lr (hS.out 7 (by rw [hC1.out]; rfl) (by decide))
    go_wp2_with fail
    go_ret
    exact ⟨ah hv.out, HB6.out⟩
   have hC2 : Hid (vP x false hp = if (tH x hp) = true then 9 else if (aN x.de 1 100000 || aN x.ro 0 1000000000000) = true then 1 else 0) := Lr (by rw [hC1.out]; rfl); clear hC1; obtain ⟨PB, hPB⟩ : ∃ PB, PB = tH x hp := ⟨_, rfl⟩
   rw [← hPB] at hC2; have HPB := Lr hPB; clear hPB
   go_upto_region 13 with (fail)
   go_cut [32] (fun s32 w7 => s32 = .bool PB ∧ Aside (Below w6.heap.size w6 w7))
   case first =>
    by_cases hpe : x.pa = ⟨#[]⟩
    ·have hv : Hid (PB = false) := Lr (by rw [HPB.out]; simp [tH, hpe]); rw [hpe] at z1; clear hpe
     go_wp2_with fail
     go_meet
     exact ⟨by rw [hv.out], LD _ _⟩
    ·have hv : Hid (PB = !hp) := Lr (by rw [HPB.out]; simp [tH, hpe]); obtain ⟨f1, f2, f3⟩ := uG hpe; clear hpe
     go_wp2_with fail
     refine HC26.out.mono ?_; rintro e w7 ⟨rfl, hb7⟩; have HB7 := Lr hb7; clear hb7
     go_wp2_with fail
     go_meet
     exact ⟨by rw [hv.out], HB7.out⟩
   obtain ⟨rfl, B7⟩ := hcut; obtain ⟨w7, rfl⟩ : ∃ w7, w7 = wc := ⟨_, rfl⟩
   have HB7 := Lr (HB6.out.trans (B7.out.mono HB6.out.size)); have u2 := (B7.out.cell (p := ⟨g + 1, 2, none⟩) hg6).trans z2; have u3 := (B7.out.cell (p := ⟨g + 1, 3, none⟩) hg6).trans z3; have HK7 := Lr ((B7.out.cell (p := ⟨w.heap.size, 0, none⟩) (LC w6 _ HK6.out)).trans HK6.out); clear B7 z1 z2 z3 HK6 HC26 HPB; cases PB
   case true =>
    have hv : Hid (9 = F) := Lr (hS.out 9 (by rw [hC2.out]; rfl) (by decide))
    go_wp2_with fail
    go_ret
    exact ⟨ah hv.out, HB7.out⟩
   have hC3 : Hid (vP x false hp = if (aN x.de 1 100000 || aN x.ro 0 1000000000000) = true then 1 else 0) := Lr (by rw [hC2.out]; rfl); clear hC2
   go_upto_region 15 with (fail)
   go_cut [43] (fun s43 w8 => s43 = .bool (aN x.de 1 100000 || aN x.ro 0 1000000000000) ∧ w7 = w8)
   case first =>
    cases o0 : aN x.de 1 100000
    case true =>
     go_wp2_with (go_at_call 83; refine (fJ _ _ _ _).mono ?_; rintro e w' ⟨rfl, rfl⟩)
     go_meet
     exact ⟨by simp [*], rfl⟩
    case false =>
     go_wp2_with (go_at_call 83; refine (fJ _ _ _ _).mono ?_; rintro e w' ⟨rfl, rfl⟩)
     go_meet
     exact ⟨by simp [*], rfl⟩
   obtain ⟨rfl, rfl⟩ := hcut; generalize hO : (aN x.de 1 100000 || aN x.ro 0 1000000000000) = O at hC3 ⊢; clear hO u2 u3; cases O
   case true =>
    have hv : Hid (1 = F) := Lr (hS.out 1 (by rw [hC3.out]; rfl) (by decide))
    go_wp2_with fail
    go_ret
    exact ⟨ah hv.out, HB7.out⟩
   have hz : Hid (zV l kk = 0) := Lr (by rw [hat.out, hC3.out]; rfl)
   go_wp2_with fail
   go_roundg (l.length - (kk + 1))
   case measure => omega
   case rel =>
    refine ⟨kk + 1, by omega, by omega, by go_num, HB7.out, HK7.out, (show Aside _ from fun j hj => ?_)⟩; by_cases e : j = kk
    ·rw [e, hz.out]
    ·exact HA.out j (by omega)
  ·obtain rfl : kk = l.length := by omega
   have hltz : ¬ (l.length : Int) < (l.length : Int) := by omega
   have hz : Hid (0 = F) := Lr (by rw [HF.out, eF HA.out])
   go_wp2_with fail
   go_ret
   exact ⟨ah hz.out, HBW.out⟩
theorem zu (w : World) (l : List Crl) (v : Value) (hl : Sl w 4 xU v l) (hw : ∀ x, x ∈ l → WfU x) :
 Calls Tryz.prog 81 #[v] w fun e w' => e = .returned (.int .i64 (dO l)) ∧ Below w.heap.size w w' := by
 obtain ⟨ao, cap, rfl, hcap, hmax, hnil, hel⟩ := hl; unfold maxLen at hmax; by_cases hbig : 100 < l.length
 ·have hv : Hid (2 = dO l) := Lr (by simp [dO, hbig]); have hbz : (100 : Int) < (l.length : Int) := by omega
  clear hel
  go_enter Tryz.func81, Tryz.ntmps81
  go_wp2
  go_ret
  exact ⟨ah hv.out, LD _ _⟩
 have hbz : ¬ (100 : Int) < (l.length : Int) := by omega
 have HF : Hid (dO l = FF (zS l) l.length) := Lr (by simp [dO, hbig]); generalize dO l = F at HF ⊢; have HW := Lr hw; have HEL := Lr hel; clear hw hel
 go_enter Tryz.func81, Tryz.ntmps81
 go_wp2
 go_loopg [3, 4, 10] l.length (fun gg s3 s4 s10 wr => ∃ kk : Nat, kk ≤ l.length ∧ l.length - kk ≤ gg ∧ s10 = .int .i64 kk ∧ Aside (Below w.heap.size w wr) ∧ Aside (∀ j, j < kk → zS l j = 0))
 case atStart => exact ⟨0, Nat.zero_le _, by omega, rfl, LD _ w, fun j hj => absurd hj (Nat.not_lt_zero _)⟩
 case round =>
  obtain ⟨kk, hkk, hg, rfl, BW, A⟩ := hrel; by_cases hlt : kk < l.length
  ·have hltz : (kk : Int) < (l.length : Int) := by omega
   obtain ⟨x, hx⟩ : ∃ x, l[kk]? = some x := ⟨l[kk], by simp [hlt]⟩
   obtain ⟨p, hp⟩ : ∃ x, l[kk - 1]? = some x := ⟨l[kk - 1]'(by omega), by simp⟩
   obtain ⟨b, off, hao, hc⟩ := HEL.out kk x hx; subst hao; obtain ⟨b', off', hao', hc'⟩ := HEL.out (kk - 1) p hp; simp only [Option.some.injEq, Addr.mk.injEq, and_true] at hao'
   obtain ⟨rfl, rfl⟩ := hao'; have hlt0 := LC w ⟨b, off + kk * 4 + 0, none⟩ (hc 0 _ rfl); have c0 : wr.cell? ⟨b, off + kk * 4, none⟩ = some (.string x.pr) := (BW.out.cell (p := ⟨b, off + kk * 4 + 0, none⟩) hlt0).trans (hc 0 _ rfl); have p0 : wr.cell? ⟨b, off + (kk - 1) * 4, none⟩ = some (.string p.pr) := (BW.out.cell (p := ⟨b, off + (kk - 1) * 4 + 0, none⟩) hlt0).trans (hc' 0 _ rfl); have c1 : wr.cell? ⟨b, off + kk * 4 + 1, none⟩ = some (.int .i64 x.li) := (BW.out.cell (p := ⟨b, off + kk * 4 + 1, none⟩) hlt0).trans (hc 1 _ rfl); have p1 : wr.cell? ⟨b, off + (kk - 1) * 4 + 1, none⟩ = some (.int .i64 p.li) := (BW.out.cell (p := ⟨b, off + (kk - 1) * 4 + 1, none⟩) hlt0).trans (hc' 1 _ rfl); have c2 : wr.cell? ⟨b, off + kk * 4 + 2, none⟩ = some (.int .i64 x.st) := (BW.out.cell (p := ⟨b, off + kk * 4 + 2, none⟩) hlt0).trans (hc 2 _ rfl); have p2 : wr.cell? ⟨b, off + (kk - 1) * 4 + 2, none⟩ = some (.int .i64 p.st) := (BW.out.cell (p := ⟨b, off + (kk - 1) * 4 + 2, none⟩) hlt0).trans (hc' 2 _ rfl); have c3 : wr.cell? ⟨b, off + kk * 4 + 3, none⟩ = some (.int .i64 x.go) := (BW.out.cell (p := ⟨b, off + kk * 4 + 3, none⟩) hlt0).trans (hc 3 _ rfl); have p3 : wr.cell? ⟨b, off + (kk - 1) * 4 + 3, none⟩ = some (.int .i64 p.go) := (BW.out.cell (p := ⟨b, off + (kk - 1) * 4 + 3, none⟩) hlt0).trans (hc' 3 _ rfl); have hbw : b < wr.heap.size := Nat.lt_of_lt_of_le hlt0 BW.out.size; have hsz : x.pr.size ≤ 9223372036854775807 := HW.out x (List.mem_of_getElem? hx); have hin := iG x.pr
   have hszw := BW.out.size; have hat : Hid (zS l kk = x8 x p kk) := Lr (by rw [zS, bi hx, bi hp]); have hS : Hid (∀ z, x8 x p kk = z → z ≠ 0 → z = F) := Lr (fun z h hz => by
    rw [HF.out, iM hlt A.out (by rw [hat.out, h]; exact hz), hat.out, h])
   have hC0 : Hid (x8 x p kk = if (!dG x.pr) = true then 3 else if (Bz x p kk) = true then 8 else if (aN x.li 0 1000000000 || aN x.st 0 1000000000 || aN x.go 0 1000000000) = true then 1 else 0) := Lr rfl; clear hx hp hc hc'; have HB0 := Lr (BW.out.alloc hszw (.cells #[.string x.pr, .int .i64 x.li, .int .i64 x.st, .int .i64 x.go] 126))
   go_upto_region 6 with (fail)
   go_cut [15] (fun s w4 => s = .bool (!dG x.pr) ∧ w4 = (wr.alloc (.cells #[.string x.pr, .int .i64 x.li, .int .i64 x.st, .int .i64 x.go] 126)))
   case first =>
    go_wp2_with (go_at_call 51; refine (hin _ hsz).mono ?_; rintro e w' ⟨rfl, rfl⟩)
    go_meet
    exact ⟨by simp, rfl⟩
   obtain ⟨rfl, rfl⟩ := hcut; generalize hO : (!dG x.pr) = O at hC0 ⊢; clear hO; cases O
   case true =>
    have hv : Hid (3 = F) := Lr (hS.out 3 (by rw [hC0.out]; rfl) (by decide))
    go_wp2
    go_ret
    exact ⟨ah hv.out, HB0.out⟩
   have hC1 : Hid (x8 x p kk = if (Bz x p kk) = true then 8 else if (aN x.li 0 1000000000 || aN x.st 0 1000000000 || aN x.go 0 1000000000) = true then 1 else 0) := Lr (by rw [hC0.out]; rfl); clear hC0
   go_upto_region 8 with (fail)
   have hor : Hid ((Bz x p kk) = (decide (0 < kk) && (Op.bytesLess x.pr.toList p.pr.toList || x.pr.toList == p.pr.toList))) := Lr rfl; generalize hOG : (Bz x p kk) = OG at hor hC1 ⊢; have HOG := Lr hOG; clear hOG
   go_cut [20] (fun s w4 => s = .bool OG ∧ ∃ n, w4 = (wr.alloc (.cells #[.string x.pr, .int .i64 x.li, .int .i64 x.st, .int .i64 x.go] 126)).drewN n)
   case first =>
    by_cases hk0 : kk = 0
    ·have hz : decide ((0 : Int) < (kk : Int)) = false := decide_eq_false (by omega); have hz' : ¬ (0 : Int) < (kk : Int) := by omega
     have hz2 : decide (0 < kk) = false := decide_eq_false (by omega); have hv : Hid (OG = false) := Lr (by rw [hor.out, hz2]; rfl); clear hk0
     go_quiet (fail)
     go_wp2
     go_meet
     exact ⟨by rw [hv.out], _, rfl⟩
    ·have hz : decide ((0 : Int) < (kk : Int)) = true := decide_eq_true (by omega); have hz2 : decide (0 < kk) = true := decide_eq_true (by omega); have ez2 : ((kk : Int) - 1).toNat = kk - 1 := by omega
     have hm1 : (kk : Int) - 1 < (l.length : Int) := by omega
     have hm2 : (0 : Int) ≤ (kk : Int) - 1 := by omega
     have hm3 : (1 : Int) ≤ (kk : Int) := by omega
     have hm4 : 0 < kk := by omega
     have hwk : IntKind.i64.wrap ((kk : Int) - 1) = (kk : Int) - 1 := IntWalk.i64_in _ (by omega); clear hk0; have hv : Hid (OG = ((Op.bytesLess x.pr.toList p.pr.toList || x.pr.toList == p.pr.toList))) := Lr (by rw [hor.out, hz2]; rfl)
     go_quiet (fail)
     go_wp2
     go_meet
     exact ⟨by rw [hv.out], _, rfl⟩
   obtain ⟨rfl, nq, rfl⟩ := hcut; rw [HOG.out.symm] at hC1; have HBn := Lr (below_drewN HB0.out nq); rw [HOG.out.symm]; clear hor HOG; generalize hO : (Bz x p kk) = O at hC1 ⊢; clear hO; cases O
   case true =>
    have hv : Hid (8 = F) := Lr (hS.out 8 (by rw [hC1.out]; rfl) (by decide))
    go_wp2
    go_ret
    exact ⟨ah hv.out, HBn.out⟩
   have hC2 : Hid (x8 x p kk = if (aN x.li 0 1000000000 || aN x.st 0 1000000000 || aN x.go 0 1000000000) = true then 1 else 0) := Lr (by rw [hC1.out]; rfl); clear hC1
   go_upto_region 10 with (fail)
   go_cut [34] (fun s w4 => s = .bool (aN x.li 0 1000000000 || aN x.st 0 1000000000 || aN x.go 0 1000000000) ∧ w4 = ((wr.alloc (.cells #[.string x.pr, .int .i64 x.li, .int .i64 x.st, .int .i64 x.go] 126)).drewN nq))
   case first =>
    cases o0 : aN x.li 0 1000000000
    case true =>
     go_wp2_with (go_at_call 83; refine (fJ _ _ _ _).mono ?_; rintro e w' ⟨rfl, rfl⟩)
     go_meet
     exact ⟨by simp [*], rfl⟩
    cases o1 : aN x.st 0 1000000000
    case true =>
     go_wp2_with (go_at_call 83; refine (fJ _ _ _ _).mono ?_; rintro e w' ⟨rfl, rfl⟩)
     go_meet
     exact ⟨by simp [*], rfl⟩
    cases o2 : aN x.go 0 1000000000
    all_goals
     go_wp2_with (go_at_call 83; refine (fJ _ _ _ _).mono ?_; rintro e w' ⟨rfl, rfl⟩)
     go_meet
     exact ⟨by simp [*], rfl⟩
   obtain ⟨rfl, rfl⟩ := hcut; generalize hO : (aN x.li 0 1000000000 || aN x.st 0 1000000000 || aN x.go 0 1000000000) = O at hC2 ⊢; clear hO; cases O
   case true =>
    have hv : Hid (1 = F) := Lr (hS.out 1 (by rw [hC2.out]; rfl) (by decide))
    go_wp2
    go_ret
    exact ⟨ah hv.out, HBn.out⟩
   have hC3 : Hid (x8 x p kk = 0) := Lr (by rw [hC2.out]; rfl); clear hC2; have hz : Hid (zS l kk = 0) := Lr (by rw [hat.out, hC3.out])
   go_wp2
   go_roundg (l.length - (kk + 1))
   case measure => omega
   case rel =>
    refine ⟨kk + 1, by omega, by omega, by go_num, HBn.out, (show Aside _ from fun j hj => ?_)⟩; by_cases e : j = kk
    ·rw [e, hz.out]
    ·exact A.out j (by omega)
  ·obtain rfl : kk = l.length := by omega
   have hltz : ¬ (l.length : Int) < (l.length : Int) := by omega
   have hz : Hid (0 = F) := Lr (by rw [HF.out, eF A.out])
   go_wp2
   go_ret
   exact ⟨ah hz.out, BW.out⟩
theorem zx (w : World) (l : List Rel) (v : Value) (hl : Sl w 4 zn v l) (hw : ∀ x, x ∈ l → WfL x) :
 Calls Tryz.prog 82 #[v] w fun e w' => e = .returned (.int .i64 (dP l)) ∧ Below w.heap.size w w' := by
 obtain ⟨ao, cap, rfl, hcap, hmax, hnil, hel⟩ := hl; unfold maxLen at hmax; by_cases hbig : 1000 < l.length
 ·have hv : Hid (2 = dP l) := Lr (by simp [dP, hbig]); have hbz : (1000 : Int) < (l.length : Int) := by omega
  clear hel
  go_enter Tryz.func82, Tryz.ntmps82
  go_wp2
  go_ret
  exact ⟨ah hv.out, LD _ _⟩
 have hbz : ¬ (1000 : Int) < (l.length : Int) := by omega
 have HF : Hid (dP l = FF (zT l) l.length) := Lr (by simp [dP, hbig]); generalize dP l = F at HF ⊢; have HW := Lr hw; have HEL := Lr hel; clear hw hel
 go_enter Tryz.func82, Tryz.ntmps82
 go_wp2
 go_loopg [3, 4, 10] l.length (fun gg s3 s4 s10 wr => ∃ kk : Nat, kk ≤ l.length ∧ l.length - kk ≤ gg ∧ s10 = .int .i64 kk ∧ Aside (Below w.heap.size w wr) ∧ Aside (∀ j, j < kk → zT l j = 0))
 case atStart => exact ⟨0, Nat.zero_le _, by omega, rfl, LD _ w, fun j hj => absurd hj (Nat.not_lt_zero _)⟩
 case round =>
  obtain ⟨kk, hkk, hg, rfl, BW, A⟩ := hrel; by_cases hlt : kk < l.length
  ·have hltz : (kk : Int) < (l.length : Int) := by omega
   obtain ⟨x, hx⟩ : ∃ x, l[kk]? = some x := ⟨l[kk], by simp [hlt]⟩
   obtain ⟨p, hp⟩ : ∃ x, l[kk - 1]? = some x := ⟨l[kk - 1]'(by omega), by simp⟩
   obtain ⟨b, off, hao, hc⟩ := HEL.out kk x hx; subst hao; obtain ⟨b', off', hao', hc'⟩ := HEL.out (kk - 1) p hp; simp only [Option.some.injEq, Addr.mk.injEq, and_true] at hao'
   obtain ⟨rfl, rfl⟩ := hao'; have hlt0 := LC w ⟨b, off + kk * 4 + 0, none⟩ (hc 0 _ rfl); have c0 : wr.cell? ⟨b, off + kk * 4, none⟩ = some (.string x.ke) := (BW.out.cell (p := ⟨b, off + kk * 4 + 0, none⟩) hlt0).trans (hc 0 _ rfl); have p0 : wr.cell? ⟨b, off + (kk - 1) * 4, none⟩ = some (.string p.ke) := (BW.out.cell (p := ⟨b, off + (kk - 1) * 4 + 0, none⟩) hlt0).trans (hc' 0 _ rfl); have c1 : wr.cell? ⟨b, off + kk * 4 + 1, none⟩ = some (.int .i64 x.ti) := (BW.out.cell (p := ⟨b, off + kk * 4 + 1, none⟩) hlt0).trans (hc 1 _ rfl); have p1 : wr.cell? ⟨b, off + (kk - 1) * 4 + 1, none⟩ = some (.int .i64 p.ti) := (BW.out.cell (p := ⟨b, off + (kk - 1) * 4 + 1, none⟩) hlt0).trans (hc' 1 _ rfl); have c2 : wr.cell? ⟨b, off + kk * 4 + 2, none⟩ = some (.int .i64 x.si) := (BW.out.cell (p := ⟨b, off + kk * 4 + 2, none⟩) hlt0).trans (hc 2 _ rfl); have p2 : wr.cell? ⟨b, off + (kk - 1) * 4 + 2, none⟩ = some (.int .i64 p.si) := (BW.out.cell (p := ⟨b, off + (kk - 1) * 4 + 2, none⟩) hlt0).trans (hc' 2 _ rfl); have c3 : wr.cell? ⟨b, off + kk * 4 + 3, none⟩ = some (.bool x.go) := (BW.out.cell (p := ⟨b, off + kk * 4 + 3, none⟩) hlt0).trans (hc 3 _ rfl); have p3 : wr.cell? ⟨b, off + (kk - 1) * 4 + 3, none⟩ = some (.bool p.go) := (BW.out.cell (p := ⟨b, off + (kk - 1) * 4 + 3, none⟩) hlt0).trans (hc' 3 _ rfl); have hbw : b < wr.heap.size := Nat.lt_of_lt_of_le hlt0 BW.out.size; have hsz : x.ke.size ≤ 9223372036854775807 := HW.out x (List.mem_of_getElem? hx); have hin := iG x.ke; have hszw := BW.out.size
   have hat : Hid (zT l kk = sD x p kk) := Lr (by rw [zT, bi hx, bi hp]); have hS : Hid (∀ z, sD x p kk = z → z ≠ 0 → z = F) := Lr (fun z h hz => by
    rw [HF.out, iM hlt A.out (by rw [hat.out, h]; exact hz), hat.out, h])
   have hC0 : Hid (sD x p kk = if (!dG x.ke) = true then 3 else if (aN x.ti 0 1000000000000) = true then 1 else if (x.go && x.si != 0) = true then 3 else if (!x.go && aN x.si 1 1000000000) = true then 1 else if (rY x p kk) = true then 8 else 0) := Lr rfl; clear hx hp hc hc'; have HB0 := Lr (BW.out.alloc hszw (.cells #[.string x.ke, .int .i64 x.ti, .int .i64 x.si, .bool x.go] 77))
   go_upto_region 6 with (fail)
   go_cut [15] (fun s w4 => s = .bool (!dG x.ke) ∧ w4 = (wr.alloc (.cells #[.string x.ke, .int .i64 x.ti, .int .i64 x.si, .bool x.go] 77)))
   case first =>
    go_wp2_with (go_at_call 51; refine (hin _ hsz).mono ?_; rintro e w' ⟨rfl, rfl⟩)
    go_meet
    exact ⟨by simp, rfl⟩
   obtain ⟨rfl, rfl⟩ := hcut; generalize hO : (!dG x.ke) = O at hC0 ⊢; clear hO; cases O
   case true =>
    have hv : Hid (3 = F) := Lr (hS.out 3 (by rw [hC0.out]; rfl) (by decide))
    go_wp2
    go_ret
    exact ⟨ah hv.out, HB0.out⟩
   have hC1 : Hid (sD x p kk = if (aN x.ti 0 1000000000000) = true then 1 else if (x.go && x.si != 0) = true then 3 else if (!x.go && aN x.si 1 1000000000) = true then 1 else if (rY x p kk) = true then 8 else 0) := Lr (by rw [hC0.out]; rfl); clear hC0
   go_upto_region 8 with (fail)
   go_cut [20] (fun s w4 => s = .bool (aN x.ti 0 1000000000000) ∧ w4 = (wr.alloc (.cells #[.string x.ke, .int .i64 x.ti, .int .i64 x.si, .bool x.go] 77)))
   case first =>
    cases o0 : aN x.ti 0 1000000000000
    all_goals
     go_wp2_with (go_at_call 83; refine (fJ _ _ _ _).mono ?_; rintro e w' ⟨rfl, rfl⟩)
     go_meet
     exact ⟨by simp [*], rfl⟩
   obtain ⟨rfl, rfl⟩ := hcut; generalize hO : (aN x.ti 0 1000000000000) = O at hC1 ⊢; clear hO; cases O
   case true =>
    have hv : Hid (1 = F) := Lr (hS.out 1 (by rw [hC1.out]; rfl) (by decide))
    go_wp2
    go_ret
    exact ⟨ah hv.out, HB0.out⟩
   have hC2 : Hid (sD x p kk = if (x.go && x.si != 0) = true then 3 else if (!x.go && aN x.si 1 1000000000) = true then 1 else if (rY x p kk) = true then 8 else 0) := Lr (by rw [hC1.out]; rfl); clear hC1
   go_upto_region 10 with (fail)
   go_cut [24] (fun s w4 => s = .bool (x.go && x.si != 0) ∧ w4 = (wr.alloc (.cells #[.string x.ke, .int .i64 x.ti, .int .i64 x.si, .bool x.go] 77)))
   case first =>
    cases g0 : x.go
    all_goals
     rw [g0] at c3; cases o0 : (x.si != 0)
     all_goals
      go_wp2_with (go_at_call 83; refine (fJ _ _ _ _).mono ?_; rintro e w' ⟨rfl, rfl⟩)
      go_meet
      exact ⟨by first | (simp [*]; done) | (rw [g0]; simp [*]), by rw [g0]⟩
   obtain ⟨rfl, rfl⟩ := hcut; generalize hO : (x.go && x.si != 0) = O at hC2 ⊢; clear hO; cases O
   case true =>
    have hv : Hid (3 = F) := Lr (hS.out 3 (by rw [hC2.out]; rfl) (by decide))
    go_wp2
    go_ret
    exact ⟨ah hv.out, HB0.out⟩
   have hC3 : Hid (sD x p kk = if (!x.go && aN x.si 1 1000000000) = true then 1 else if (rY x p kk) = true then 8 else 0) := Lr (by rw [hC2.out]; rfl); clear hC2
   go_upto_region 12 with (fail)
   go_cut [32] (fun s w4 => s = .bool (!x.go && aN x.si 1 1000000000) ∧ w4 = (wr.alloc (.cells #[.string x.ke, .int .i64 x.ti, .int .i64 x.si, .bool x.go] 77)))
   case first =>
    cases g0 : x.go
    all_goals
     rw [g0] at c3; cases o0 : (aN x.si 1 1000000000)
     all_goals
      go_wp2_with (go_at_call 83; refine (fJ _ _ _ _).mono ?_; rintro e w' ⟨rfl, rfl⟩)
      go_meet
      exact ⟨by first | (simp [*]; done) | (rw [g0]; simp [*]), by rw [g0]⟩
   obtain ⟨rfl, rfl⟩ := hcut; generalize hO : (!x.go && aN x.si 1 1000000000) = O at hC3 ⊢; clear hO; cases O
   case true =>
    have hv : Hid (1 = F) := Lr (hS.out 1 (by rw [hC3.out]; rfl) (by decide))
    go_wp2
    go_ret
    exact ⟨ah hv.out, HB0.out⟩
   have hC4 : Hid (sD x p kk = if (rY x p kk) = true then 8 else 0) := Lr (by rw [hC3.out]; rfl); clear hC3
   go_upto_region 14 with (fail)
   have hor : Hid ((rY x p kk) = (decide (0 < kk) && (Op.bytesLess x.ke.toList p.ke.toList || ((x.ke.toList == p.ke.toList) && decide (x.ti ≤ p.ti))))) := Lr rfl; generalize hOG : (rY x p kk) = OG at hor hC4 ⊢; have HOG := Lr hOG; clear hOG
   go_cut [41] (fun s w4 => s = .bool OG ∧ ∃ n, w4 = (wr.alloc (.cells #[.string x.ke, .int .i64 x.ti, .int .i64 x.si, .bool x.go] 77)).drewN n)
   case first =>
    by_cases hk0 : kk = 0
    ·have hz : decide ((0 : Int) < (kk : Int)) = false := decide_eq_false (by omega); have hz' : ¬ (0 : Int) < (kk : Int) := by omega
     have hz2 : decide (0 < kk) = false := decide_eq_false (by omega); have hv : Hid (OG = false) := Lr (by rw [hor.out, hz2]; rfl); clear hk0
     go_quiet (fail)
     go_wp2
     go_meet
     exact ⟨by rw [hv.out], _, rfl⟩
    ·have hz : decide ((0 : Int) < (kk : Int)) = true := decide_eq_true (by omega); have hz2 : decide (0 < kk) = true := decide_eq_true (by omega); have ez2 : ((kk : Int) - 1).toNat = kk - 1 := by omega
     have hm1 : (kk : Int) - 1 < (l.length : Int) := by omega
     have hm2 : (0 : Int) ≤ (kk : Int) - 1 := by omega
     have hm3 : (1 : Int) ≤ (kk : Int) := by omega
     have hm4 : 0 < kk := by omega
     have hwk : IntKind.i64.wrap ((kk : Int) - 1) = (kk : Int) - 1 := IntWalk.i64_in _ (by omega); clear hk0; cases q1 : Op.bytesLess x.ke.toList p.ke.toList
     ·cases q2 : (x.ke.toList == p.ke.toList)
      ·have hv : Hid (OG = false) := Lr (by rw [hor.out, hz2, q1, q2]; rfl)
       go_quiet (fail)
       go_wp2
       go_meet
       exact ⟨by rw [hv.out], _, rfl⟩
      ·have hv : Hid (OG = decide (x.ti ≤ p.ti)) := Lr (by rw [hor.out, hz2, q1, q2]; rfl)
       go_quiet (fail)
       go_wp2
       go_meet
       exact ⟨by rw [hv.out], _, rfl⟩
     ·have hv : Hid (OG = true) := Lr (by rw [hor.out, hz2, q1]; rfl)
      go_quiet (fail)
      go_wp2
      go_meet
      exact ⟨by rw [hv.out], _, rfl⟩
   obtain ⟨rfl, nq, rfl⟩ := hcut; rw [HOG.out.symm] at hC4; have HBn := Lr (below_drewN HB0.out nq); rw [HOG.out.symm]; clear hor HOG; generalize hO : (rY x p kk) = O at hC4 ⊢; clear hO; cases O
   case true =>
    have hv : Hid (8 = F) := Lr (hS.out 8 (by rw [hC4.out]; rfl) (by decide))
    go_wp2
    go_ret
    exact ⟨ah hv.out, HBn.out⟩
   have hC5 : Hid (sD x p kk = 0) := Lr (by rw [hC4.out]; rfl); clear hC4; have hz : Hid (zT l kk = 0) := Lr (by rw [hat.out, hC5.out])
   go_wp2
   go_roundg (l.length - (kk + 1))
   case measure => omega
   case rel =>
    refine ⟨kk + 1, by omega, by omega, by go_num, HBn.out, (show Aside _ from fun j hj => ?_)⟩; by_cases e : j = kk
    ·rw [e, hz.out]
    ·exact A.out j (by omega)
  ·obtain rfl : kk = l.length := by omega
   have hltz : ¬ (l.length : Int) < (l.length : Int) := by omega
   have hz : Hid (0 = F) := Lr (by rw [HF.out, eF A.out])
   go_wp2
   go_ret
   exact ⟨ah hz.out, BW.out⟩
end Go.Proofs.YtgohddfnhofjhaaGreatDoor

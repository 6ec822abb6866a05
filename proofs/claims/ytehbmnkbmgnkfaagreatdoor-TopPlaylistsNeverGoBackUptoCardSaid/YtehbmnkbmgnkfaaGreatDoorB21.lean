/- CheckCaches of the program: the walk. -/
import Derived.Test.YtehbmnkbmgnkfaaGreatDoorB20
import Derived.Test.YtehbmnkbmgnkfaaGreatDoorB09
import Derived.Test.YtehbmnkbmgnkfaaGreatDoorB05
namespace Go.Proofs.YtehbmnkbmgnkfaaGreatDoor
open Go.RowKit

set_option maxRecDepth 100000 in
set_option maxHeartbeats 4000000 in
theorem checkC_any (w : World) (l : List Cch) (v : Value) (hl : Sl w 4 encC v l) (hw : ∀ x, x ∈ l → WfC x) :
    Calls Tryz.prog 60 #[v] w fun e w' => e = .returned (.int .i64 (checkC l)) ∧ Below w.heap.size w w' := by
  have HL := Lib.hid hl
  obtain ⟨ao, cap, rfl, hcap, hmax, hnil, hel⟩ := hl
  unfold maxLen at hmax
  have HB0 : Hid (Below w.heap.size w (w.alloc (.cells #[.slice ao l.length cap] 36))) := Lib.hid ((Below.refl _ _).alloc (Nat.le_refl _) _)
  by_cases h0 : l.length = 0
  · have hv : Hid (9 = checkC l) := Lib.hid (by simp [checkC, h0])
    have h0z : ((l.length : Int) == 0) = true := by simp [h0]
    clear hel h0
    go_enter Tryz.func60, Tryz.ntmps60
    go_wp2
    go_ret
    exact ⟨ret_int hv.out, HB0.out⟩
  have h0z : ((l.length : Int) == 0) = false := by rw [beq_eq_false_iff_ne]; omega
  have h0y : ¬ (l.length : Int) = 0 := by omega
  by_cases hbig : 30 < l.length
  · have hv : Hid (2 = checkC l) := Lib.hid (by simp [checkC, h0, hbig])
    have hbz : (30 : Int) < (l.length : Int) := by omega
    clear hel h0
    go_enter Tryz.func60, Tryz.ntmps60
    go_wp2
    go_ret
    exact ⟨ret_int hv.out, HB0.out⟩
  have hbz : ¬ (30 : Int) < (l.length : Int) := by omega
  have HF : Hid (checkC l = FF (ccAt l) l.length) := Lib.hid (by simp [checkC, h0, hbig])
  generalize checkC l = F at HF ⊢
  have HW := Lib.hid hw
  have HEL := Lib.hid hel
  have HK0 : Hid ((w.alloc (.cells #[.slice ao l.length cap] 36)).cell? ⟨w.heap.size, 0, none⟩ = some (.slice ao l.length cap)) := Lib.hid ((cell_of_block (i := 0) (block_new w _)).trans rfl)
  clear hw hel h0
  go_enter Tryz.func60, Tryz.ntmps60
  go_wp2
  go_loopg [16] l.length (fun gg s16 wr => ∃ kk : Nat, kk ≤ l.length ∧ l.length - kk ≤ gg ∧ s16 = .int .i64 kk ∧ Aside (Below w.heap.size w wr) ∧ Aside (wr.cell? ⟨w.heap.size, 0, none⟩ = some (.slice ao l.length cap)) ∧ Aside (∀ j, j < kk → ccAt l j = 0))
  case atStart => exact ⟨0, Nat.zero_le _, by omega, rfl, HB0.out, HK0.out, fun j hj => absurd hj (Nat.not_lt_zero _)⟩
  case round =>
    obtain ⟨kk, hkk, hg, rfl, BW, K0, A⟩ := hrel
    have HBW := Lib.hid BW.out
    have HK := Lib.hid K0.out
    have HA := Lib.hid A.out
    have hszw := HBW.out.size
    have hlb := World.block_lt_of_cell? wr _ HK.out
    clear BW K0 A HB0 HK0
    by_cases hlt : kk < l.length
    · have hltz : (kk : Int) < (l.length : Int) := by omega
      obtain ⟨x, hx⟩ : ∃ x, l[kk]? = some x := ⟨l[kk], by simp [hlt]⟩
      obtain ⟨b, off, rfl, hc⟩ := HEL.out kk x hx
      have hlt0 := World.block_lt_of_cell? w ⟨b, off + kk * 4 + 0, none⟩ (hc 0 _ rfl)
      have c0 : wr.cell? ⟨b, off + kk * 4, none⟩ = some (.string x.na) := (HBW.out.cell (p := ⟨b, off + kk * 4 + 0, none⟩) hlt0).trans (hc 0 _ rfl)
      have c1 : wr.cell? ⟨b, off + kk * 4 + 1, none⟩ = some (.string x.pa) := (HBW.out.cell (p := ⟨b, off + kk * 4 + 1, none⟩) hlt0).trans (hc 1 _ rfl)
      have c2 : wr.cell? ⟨b, off + kk * 4 + 2, none⟩ = some (.int .i64 x.de) := (HBW.out.cell (p := ⟨b, off + kk * 4 + 2, none⟩) hlt0).trans (hc 2 _ rfl)
      have c3 : wr.cell? ⟨b, off + kk * 4 + 3, none⟩ = some (.int .i64 x.ro) := (HBW.out.cell (p := ⟨b, off + kk * 4 + 3, none⟩) hlt0).trans (hc 3 _ rfl)
      have hwf := HW.out x (List.mem_of_getElem? hx)
      have HNM := Lib.hid (fun W => isName_any x.na W hwf.1)
      obtain ⟨tw, htw⟩ : ∃ tw, tw = hasC (l.take kk) x.na := ⟨_, rfl⟩
      obtain ⟨hp, hhp⟩ : ∃ tw, tw = hasC (l.take kk) x.pa := ⟨_, rfl⟩
      have hat : Hid (ccAt l kk = ccOf x tw hp) := Lib.hid (by rw [ccAt, getD_of hx, htw, hhp])
      have hS : Hid (∀ z, ccOf x tw hp = z → z ≠ 0 → z = F) := Lib.hid (fun z h hz => by
        rw [HF.out, FF_hit hlt HA.out (by rw [hat.out, h]; exact hz), hat.out, h])
      have hC0 : Hid (ccOf x tw hp = if (!nameB x.na) = true then 5 else if tw = true then 7 else if (parB x hp) = true then 9 else if (outB x.de 1 100000 || outB x.ro 0 1000000000000) = true then 1 else 0) := Lib.hid rfl
      obtain ⟨w5, hw5⟩ : ∃ w5, w5 = (wr.alloc (.cells #[.int .i64 kk] 3)).alloc (.cells #[.string x.na, .string x.pa, .int .i64 x.de, .int .i64 x.ro] 35) := ⟨_, rfl⟩
      have hb5 : Below wr.heap.size wr w5 := by rw [hw5]; exact ((Below.refl _ _).alloc (Nat.le_refl _) _).alloc (by simp) _
      have hs5 : w5.heap.size = wr.heap.size + 2 := by rw [hw5]; simp
      have hk5 : w5.heap[wr.heap.size]? = some (.cells #[.int .i64 kk] 3 (0, 0)) := by
        rw [hw5, Below.heap_alloc _ _ _ (by simp)]
        exact block_new wr _
      have hx5 : w5.heap[wr.heap.size + 1]? = some (.cells #[.string x.na, .string x.pa, .int .i64 x.de, .int .i64 x.ro] 35 (0, 0)) := by
        rw [hw5]
        have e : wr.heap.size + 1 = (wr.alloc (.cells #[.int .i64 kk] 3)).heap.size := by simp
        rw [e]
        exact block_new _ _
      have HB5 := Lib.hid (HBW.out.trans (hb5.mono hszw))
      have HCL : Hid (∀ (W : World) (n : ByteArray), Below w5.heap.size w5 W → Calls Tryz.prog 84 #[.string n, .pointer (some ⟨w.heap.size, 0, none⟩), .pointer (some ⟨wr.heap.size, 0, none⟩)] W fun e w' => e = .returned (.bool (hasC (l.take kk) n)) ∧ Below W.heap.size W w') := Lib.hid (fun W n hW =>
        named_any W l _ kk n w.heap.size wr.heap.size (HL.out.below (HB5.out.trans (hW.mono (by have := HB5.out.size; exact this))) (Nat.le_refl _)) (by omega)
          ((hW.cell (p := ⟨w.heap.size, 0, none⟩) (by show w.heap.size < w5.heap.size; omega)).trans ((hb5.cell (p := ⟨w.heap.size, 0, none⟩) hlb).trans HK.out))
          ((hW.cell (p := ⟨wr.heap.size, 0, none⟩) (by show wr.heap.size < w5.heap.size; omega)).trans ((cell_of_block (i := 0) hk5).trans rfl)))
      have HC1 : Hid (∀ W, Below w5.heap.size w5 W → Calls Tryz.prog 84 #[.string x.na, .pointer (some ⟨w.heap.size, 0, none⟩), .pointer (some ⟨wr.heap.size, 0, none⟩)] W fun e w' => e = .returned (.bool tw) ∧ Below W.heap.size W w') := Lib.hid (fun W h => by rw [htw]; exact HCL.out W x.na h)
      have HC2 : Hid (∀ W, Below w5.heap.size w5 W → Calls Tryz.prog 84 #[.string x.pa, .pointer (some ⟨w.heap.size, 0, none⟩), .pointer (some ⟨wr.heap.size, 0, none⟩)] W fun e w' => e = .returned (.bool hp) ∧ Below W.heap.size W w') := Lib.hid (fun W h => by rw [hhp]; exact HCL.out W x.pa h)
      have HX5 := Lib.hid hx5
      have HK5 := Lib.hid ((hb5.cell (p := ⟨w.heap.size, 0, none⟩) hlb).trans HK.out)
      have eg : ∀ args w, (callFunc 84 args).run Tryz.prog w = .ok (.enter 84 args) w := enters_of Tryz.func84 (by kernel_rfl) rfl
      obtain ⟨nb, hnb⟩ : ∃ nb, nb = nameB x.na := ⟨_, rfl⟩
      rw [← hnb] at HNM hC0
      have HW5 := Lib.hid hw5
      clear hx hc htw hhp hk5 hx5 HCL hb5 hw5 hnb
      go_upto_region 9 with (fail)
      rw [← HW5.out]
      obtain ⟨g, hgq⟩ : ∃ g, g = wr.heap.size := ⟨_, rfl⟩
      rw [← hgq] at HC1 HC2 HX5 hs5 ⊢
      have hg5 : g + 1 < w5.heap.size := by omega
      have y0 := (cell_of_block (i := 0) HX5.out).trans rfl
      have y1 := (cell_of_block (i := 1) HX5.out).trans rfl
      have y2 := (cell_of_block (i := 2) HX5.out).trans rfl
      have y3 := (cell_of_block (i := 3) HX5.out).trans rfl
      clear c0 c1 c2 c3 hgq HW5 hs5
      cases nb
      case false =>
        have hv : Hid (5 = F) := Lib.hid (hS.out 5 (by rw [hC0.out]; rfl) (by decide))
        go_wp2_with fail
        refine (HNM.out _).mono ?_
        rintro e w6 ⟨rfl, rfl⟩
        go_wp2
        go_ret
        exact ⟨ret_int hv.out, HB5.out⟩
      go_wp2_with fail
      refine (HNM.out _).mono ?_
      rintro e w6 ⟨rfl, rfl⟩
      have hC1 : Hid (ccOf x tw hp = if tw = true then 7 else if (parB x hp) = true then 9 else if (outB x.de 1 100000 || outB x.ro 0 1000000000000) = true then 1 else 0) := Lib.hid (by rw [hC0.out]; rfl)
      clear hC0
      go_wp2_with fail
      refine (HC1.out _ (Below.refl _ _)).mono ?_
      rintro e w6 ⟨rfl, hb6⟩
      have HB6 := Lib.hid (HB5.out.trans (hb6.mono HB5.out.size))
      have z1 := (hb6.cell (p := ⟨g + 1, 1, none⟩) hg5).trans y1
      have z2 := (hb6.cell (p := ⟨g + 1, 2, none⟩) hg5).trans y2
      have z3 := (hb6.cell (p := ⟨g + 1, 3, none⟩) hg5).trans y3
      have HK6 := Lib.hid ((hb6.cell (p := ⟨w.heap.size, 0, none⟩) (World.block_lt_of_cell? w5 _ HK5.out)).trans HK5.out)
      have HC26 := Lib.hid (HC2.out w6 hb6)
      have hg6 : g + 1 < w6.heap.size := Nat.lt_of_lt_of_le hg5 hb6.size
      clear hb6 y0 y1 y2 y3 HC1 HC2 HX5 HK5
      cases tw
      case true =>
        have hv : Hid (7 = F) := Lib.hid (hS.out 7 (by rw [hC1.out]; rfl) (by decide))
        go_wp2_with fail
        go_ret
        exact ⟨ret_int hv.out, HB6.out⟩
      have hC2 : Hid (ccOf x false hp = if (parB x hp) = true then 9 else if (outB x.de 1 100000 || outB x.ro 0 1000000000000) = true then 1 else 0) := Lib.hid (by rw [hC1.out]; rfl)
      clear hC1
      obtain ⟨PB, hPB⟩ : ∃ PB, PB = parB x hp := ⟨_, rfl⟩
      rw [← hPB] at hC2
      have HPB := Lib.hid hPB
      clear hPB
      go_upto_region 13 with (fail)
      go_cut [32] (fun s32 w7 => s32 = .bool PB ∧ Aside (Below w6.heap.size w6 w7))
      case first =>
        by_cases hpe : x.pa = ⟨#[]⟩
        · have hv : Hid (PB = false) := Lib.hid (by rw [HPB.out]; simp [parB, hpe])
          rw [hpe] at z1
          clear hpe
          go_wp2_with fail
          go_meet
          exact ⟨by rw [hv.out], Below.refl _ _⟩
        · have hv : Hid (PB = !hp) := Lib.hid (by rw [HPB.out]; simp [parB, hpe])
          obtain ⟨f1, f2, f3⟩ := str_emp hpe
          clear hpe
          go_wp2_with fail
          refine HC26.out.mono ?_
          rintro e w7 ⟨rfl, hb7⟩
          have HB7 := Lib.hid hb7
          clear hb7
          go_wp2_with fail
          go_meet
          exact ⟨by rw [hv.out], HB7.out⟩
      obtain ⟨rfl, B7⟩ := hcut
      obtain ⟨w7, rfl⟩ : ∃ w7, w7 = wc := ⟨_, rfl⟩
      have HB7 := Lib.hid (HB6.out.trans (B7.out.mono HB6.out.size))
      have u2 := (B7.out.cell (p := ⟨g + 1, 2, none⟩) hg6).trans z2
      have u3 := (B7.out.cell (p := ⟨g + 1, 3, none⟩) hg6).trans z3
      have HK7 := Lib.hid ((B7.out.cell (p := ⟨w.heap.size, 0, none⟩) (World.block_lt_of_cell? w6 _ HK6.out)).trans HK6.out)
      clear B7 z1 z2 z3 HK6 HC26 HPB
      cases PB
      case true =>
        have hv : Hid (9 = F) := Lib.hid (hS.out 9 (by rw [hC2.out]; rfl) (by decide))
        go_wp2_with fail
        go_ret
        exact ⟨ret_int hv.out, HB7.out⟩
      have hC3 : Hid (ccOf x false hp = if (outB x.de 1 100000 || outB x.ro 0 1000000000000) = true then 1 else 0) := Lib.hid (by rw [hC2.out]; rfl)
      clear hC2
      go_upto_region 15 with (fail)
      go_cut [43] (fun s43 w8 => s43 = .bool (outB x.de 1 100000 || outB x.ro 0 1000000000000) ∧ w7 = w8)
      case first =>
        cases o0 : outB x.de 1 100000
        case true =>
          go_wp2_with (go_at_call 20; refine (out_any _ _ _ _).mono ?_; rintro e w' ⟨rfl, rfl⟩)
          go_meet
          exact ⟨by simp [*], rfl⟩
        case false =>
          go_wp2_with (go_at_call 20; refine (out_any _ _ _ _).mono ?_; rintro e w' ⟨rfl, rfl⟩)
          go_meet
          exact ⟨by simp [*], rfl⟩
      obtain ⟨rfl, rfl⟩ := hcut
      generalize hO : (outB x.de 1 100000 || outB x.ro 0 1000000000000) = O at hC3 ⊢
      clear hO u2 u3
      cases O
      case true =>
        have hv : Hid (1 = F) := Lib.hid (hS.out 1 (by rw [hC3.out]; rfl) (by decide))
        go_wp2_with fail
        go_ret
        exact ⟨ret_int hv.out, HB7.out⟩
      have hz : Hid (ccAt l kk = 0) := Lib.hid (by rw [hat.out, hC3.out]; rfl)
      go_wp2_with fail
      go_roundg (l.length - (kk + 1))
      case measure => omega
      case rel =>
        refine ⟨kk + 1, by omega, by omega, by go_num, HB7.out, HK7.out, (show Aside _ from fun j hj => ?_)⟩
        by_cases e : j = kk
        · rw [e, hz.out]
        · exact HA.out j (by omega)
    · obtain rfl : kk = l.length := by omega
      have hltz : ¬ (l.length : Int) < (l.length : Int) := by omega
      have hz : Hid (0 = F) := Lib.hid (by rw [HF.out, FF_zero HA.out])
      go_wp2_with fail
      go_ret
      exact ⟨ret_int hz.out, HBW.out⟩
end Go.Proofs.YtehbmnkbmgnkfaaGreatDoor

/- CheckRules of the program. -/
namespace Go.Proofs.YtehbmnkbmgnkfaaGreatDoor
open Go.RowKit

set_option maxRecDepth 100000 in
set_option maxHeartbeats 4000000 in
theorem checkU_any (w : World) (l : List Crl) (v : Value) (hl : Sl w 4 encU v l) (hw : ∀ x, x ∈ l → WfU x) :
    Calls Tryz.prog 61 #[v] w fun e w' => e = .returned (.int .i64 (checkU l)) ∧ Below w.heap.size w w' := by
  obtain ⟨ao, cap, rfl, hcap, hmax, hnil, hel⟩ := hl
  unfold maxLen at hmax
  by_cases hbig : 100 < l.length
  · have hv : Hid (2 = checkU l) := Lib.hid (by simp [checkU, hbig])
    have hbz : (100 : Int) < (l.length : Int) := by omega
    clear hel
    go_enter Tryz.func61, Tryz.ntmps61
    go_wp2
    go_ret
    exact ⟨ret_int hv.out, Below.refl _ _⟩
  have hbz : ¬ (100 : Int) < (l.length : Int) := by omega
  have HF : Hid (checkU l = FF (cuAt l) l.length) := Lib.hid (by simp [checkU, hbig])
  generalize checkU l = F at HF ⊢
  have HW := Lib.hid hw
  have HEL := Lib.hid hel
  clear hw hel
  go_enter Tryz.func61, Tryz.ntmps61
  go_wp2
  go_loopg [3, 4, 10] l.length (fun gg s3 s4 s10 wr => ∃ kk : Nat, kk ≤ l.length ∧ l.length - kk ≤ gg ∧ s10 = .int .i64 kk ∧ Aside (Below w.heap.size w wr) ∧ Aside (∀ j, j < kk → cuAt l j = 0))
  case atStart => exact ⟨0, Nat.zero_le _, by omega, rfl, Below.refl _ w, fun j hj => absurd hj (Nat.not_lt_zero _)⟩
  case round =>
    obtain ⟨kk, hkk, hg, rfl, BW, A⟩ := hrel
    by_cases hlt : kk < l.length
    · have hltz : (kk : Int) < (l.length : Int) := by omega
      obtain ⟨x, hx⟩ : ∃ x, l[kk]? = some x := ⟨l[kk], by simp [hlt]⟩
      obtain ⟨p, hp⟩ : ∃ x, l[kk - 1]? = some x := ⟨l[kk - 1]'(by omega), by simp⟩
      obtain ⟨b, off, hao, hc⟩ := HEL.out kk x hx
      subst hao
      obtain ⟨b', off', hao', hc'⟩ := HEL.out (kk - 1) p hp
      simp only [Option.some.injEq, Addr.mk.injEq, and_true] at hao'
      obtain ⟨rfl, rfl⟩ := hao'
      have hlt0 := World.block_lt_of_cell? w ⟨b, off + kk * 4 + 0, none⟩ (hc 0 _ rfl)
      have c0 : wr.cell? ⟨b, off + kk * 4, none⟩ = some (.string x.pr) := (BW.out.cell (p := ⟨b, off + kk * 4 + 0, none⟩) hlt0).trans (hc 0 _ rfl)
      have p0 : wr.cell? ⟨b, off + (kk - 1) * 4, none⟩ = some (.string p.pr) := (BW.out.cell (p := ⟨b, off + (kk - 1) * 4 + 0, none⟩) hlt0).trans (hc' 0 _ rfl)
      have c1 : wr.cell? ⟨b, off + kk * 4 + 1, none⟩ = some (.int .i64 x.li) := (BW.out.cell (p := ⟨b, off + kk * 4 + 1, none⟩) hlt0).trans (hc 1 _ rfl)
      have p1 : wr.cell? ⟨b, off + (kk - 1) * 4 + 1, none⟩ = some (.int .i64 p.li) := (BW.out.cell (p := ⟨b, off + (kk - 1) * 4 + 1, none⟩) hlt0).trans (hc' 1 _ rfl)
      have c2 : wr.cell? ⟨b, off + kk * 4 + 2, none⟩ = some (.int .i64 x.st) := (BW.out.cell (p := ⟨b, off + kk * 4 + 2, none⟩) hlt0).trans (hc 2 _ rfl)
      have p2 : wr.cell? ⟨b, off + (kk - 1) * 4 + 2, none⟩ = some (.int .i64 p.st) := (BW.out.cell (p := ⟨b, off + (kk - 1) * 4 + 2, none⟩) hlt0).trans (hc' 2 _ rfl)
      have c3 : wr.cell? ⟨b, off + kk * 4 + 3, none⟩ = some (.int .i64 x.go) := (BW.out.cell (p := ⟨b, off + kk * 4 + 3, none⟩) hlt0).trans (hc 3 _ rfl)
      have p3 : wr.cell? ⟨b, off + (kk - 1) * 4 + 3, none⟩ = some (.int .i64 p.go) := (BW.out.cell (p := ⟨b, off + (kk - 1) * 4 + 3, none⟩) hlt0).trans (hc' 3 _ rfl)
      have hbw : b < wr.heap.size := Nat.lt_of_lt_of_le hlt0 BW.out.size
      have hsz : x.pr.size ≤ 9223372036854775807 := HW.out x (List.mem_of_getElem? hx)
      have hin := isReq_any x.pr
      have hszw := BW.out.size
      have hat : Hid (cuAt l kk = cuOf x p kk) := Lib.hid (by rw [cuAt, getD_of hx, getD_of hp])
      have hS : Hid (∀ z, cuOf x p kk = z → z ≠ 0 → z = F) := Lib.hid (fun z h hz => by
        rw [HF.out, FF_hit hlt A.out (by rw [hat.out, h]; exact hz), hat.out, h])
      have hC0 : Hid (cuOf x p kk = if (!reqB x.pr) = true then 3 else if (ordU x p kk) = true then 8 else if (outB x.li 0 1000000000 || outB x.st 0 1000000000 || outB x.go 0 1000000000) = true then 1 else 0) := Lib.hid rfl
      clear hx hp hc hc'
      have HB0 := Lib.hid (BW.out.alloc hszw (.cells #[.string x.pr, .int .i64 x.li, .int .i64 x.st, .int .i64 x.go] 27))
      go_upto_region 6 with (fail)
      go_cut [15] (fun s w4 => s = .bool (!reqB x.pr) ∧ w4 = (wr.alloc (.cells #[.string x.pr, .int .i64 x.li, .int .i64 x.st, .int .i64 x.go] 27)))
      case first =>
        go_wp2_with (go_at_call 63; refine (hin _ hsz).mono ?_; rintro e w' ⟨rfl, rfl⟩)
        go_meet
        exact ⟨by simp, rfl⟩
      obtain ⟨rfl, rfl⟩ := hcut
      generalize hO : (!reqB x.pr) = O at hC0 ⊢
      clear hO
      cases O
      case true =>
        have hv : Hid (3 = F) := Lib.hid (hS.out 3 (by rw [hC0.out]; rfl) (by decide))
        go_wp2
        go_ret
        exact ⟨ret_int hv.out, HB0.out⟩
      have hC1 : Hid (cuOf x p kk = if (ordU x p kk) = true then 8 else if (outB x.li 0 1000000000 || outB x.st 0 1000000000 || outB x.go 0 1000000000) = true then 1 else 0) := Lib.hid (by rw [hC0.out]; rfl)
      clear hC0
      go_upto_region 8 with (fail)
      have hor : Hid ((ordU x p kk) = (decide (0 < kk) && (Op.bytesLess x.pr.toList p.pr.toList || x.pr.toList == p.pr.toList))) := Lib.hid rfl
      generalize hOG : (ordU x p kk) = OG at hor hC1 ⊢
      have HOG := Lib.hid hOG
      clear hOG
      go_cut [20] (fun s w4 => s = .bool OG ∧ ∃ n, w4 = (wr.alloc (.cells #[.string x.pr, .int .i64 x.li, .int .i64 x.st, .int .i64 x.go] 27)).drewN n)
      case first =>
        by_cases hk0 : kk = 0
        · have hz : decide ((0 : Int) < (kk : Int)) = false := decide_eq_false (by omega)
          have hz' : ¬ (0 : Int) < (kk : Int) := by omega
          have hz2 : decide (0 < kk) = false := decide_eq_false (by omega)
          have hv : Hid (OG = false) := Lib.hid (by rw [hor.out, hz2]; rfl)
          clear hk0
          go_quiet (fail)
          go_wp2
          go_meet
          exact ⟨by rw [hv.out], _, rfl⟩
        · have hz : decide ((0 : Int) < (kk : Int)) = true := decide_eq_true (by omega)
          have hz2 : decide (0 < kk) = true := decide_eq_true (by omega)
          have ez2 : ((kk : Int) - 1).toNat = kk - 1 := by omega
          have hm1 : (kk : Int) - 1 < (l.length : Int) := by omega
          have hm2 : (0 : Int) ≤ (kk : Int) - 1 := by omega
          have hm3 : (1 : Int) ≤ (kk : Int) := by omega
          have hm4 : 0 < kk := by omega
          have hwk : IntKind.i64.wrap ((kk : Int) - 1) = (kk : Int) - 1 := IntWalk.i64_in _ (by omega)
          clear hk0
          have hv : Hid (OG = ((Op.bytesLess x.pr.toList p.pr.toList || x.pr.toList == p.pr.toList))) := Lib.hid (by rw [hor.out, hz2]; rfl)
          go_quiet (fail)
          go_wp2
          go_meet
          exact ⟨by rw [hv.out], _, rfl⟩
      obtain ⟨rfl, nq, rfl⟩ := hcut
      rw [HOG.out.symm] at hC1
      have HBn := Lib.hid (below_drewN HB0.out nq)
      rw [HOG.out.symm]
      clear hor HOG
      generalize hO : (ordU x p kk) = O at hC1 ⊢
      clear hO
      cases O
      case true =>
        have hv : Hid (8 = F) := Lib.hid (hS.out 8 (by rw [hC1.out]; rfl) (by decide))
        go_wp2
        go_ret
        exact ⟨ret_int hv.out, HBn.out⟩
      have hC2 : Hid (cuOf x p kk = if (outB x.li 0 1000000000 || outB x.st 0 1000000000 || outB x.go 0 1000000000) = true then 1 else 0) := Lib.hid (by rw [hC1.out]; rfl)
      clear hC1
      go_upto_region 10 with (fail)
      go_cut [34] (fun s w4 => s = .bool (outB x.li 0 1000000000 || outB x.st 0 1000000000 || outB x.go 0 1000000000) ∧ w4 = ((wr.alloc (.cells #[.string x.pr, .int .i64 x.li, .int .i64 x.st, .int .i64 x.go] 27)).drewN nq))
      case first =>
        cases o0 : outB x.li 0 1000000000
        case true =>
          go_wp2_with (go_at_call 20; refine (out_any _ _ _ _).mono ?_; rintro e w' ⟨rfl, rfl⟩)
          go_meet
          exact ⟨by simp [*], rfl⟩
        cases o1 : outB x.st 0 1000000000
        case true =>
          go_wp2_with (go_at_call 20; refine (out_any _ _ _ _).mono ?_; rintro e w' ⟨rfl, rfl⟩)
          go_meet
          exact ⟨by simp [*], rfl⟩
        cases o2 : outB x.go 0 1000000000
        all_goals
          go_wp2_with (go_at_call 20; refine (out_any _ _ _ _).mono ?_; rintro e w' ⟨rfl, rfl⟩)
          go_meet
          exact ⟨by simp [*], rfl⟩
      obtain ⟨rfl, rfl⟩ := hcut
      generalize hO : (outB x.li 0 1000000000 || outB x.st 0 1000000000 || outB x.go 0 1000000000) = O at hC2 ⊢
      clear hO
      cases O
      case true =>
        have hv : Hid (1 = F) := Lib.hid (hS.out 1 (by rw [hC2.out]; rfl) (by decide))
        go_wp2
        go_ret
        exact ⟨ret_int hv.out, HBn.out⟩
      have hC3 : Hid (cuOf x p kk = 0) := Lib.hid (by rw [hC2.out]; rfl)
      clear hC2
      have hz : Hid (cuAt l kk = 0) := Lib.hid (by rw [hat.out, hC3.out])
      go_wp2
      go_roundg (l.length - (kk + 1))
      case measure => omega
      case rel =>
        refine ⟨kk + 1, by omega, by omega, by go_num, HBn.out, (show Aside _ from fun j hj => ?_)⟩
        by_cases e : j = kk
        · rw [e, hz.out]
        · exact A.out j (by omega)
    · obtain rfl : kk = l.length := by omega
      have hltz : ¬ (l.length : Int) < (l.length : Int) := by omega
      have hz : Hid (0 = F) := Lib.hid (by rw [HF.out, FF_zero A.out])
      go_wp2
      go_ret
      exact ⟨ret_int hz.out, BW.out⟩
end Go.Proofs.YtehbmnkbmgnkfaaGreatDoor

/- CheckReleases of the program. -/
namespace Go.Proofs.YtehbmnkbmgnkfaaGreatDoor
open Go.RowKit

set_option maxRecDepth 100000 in
set_option maxHeartbeats 4000000 in
theorem checkL_any (w : World) (l : List Rel) (v : Value) (hl : Sl w 4 encL v l) (hw : ∀ x, x ∈ l → WfL x) :
    Calls Tryz.prog 62 #[v] w fun e w' => e = .returned (.int .i64 (checkL l)) ∧ Below w.heap.size w w' := by
  obtain ⟨ao, cap, rfl, hcap, hmax, hnil, hel⟩ := hl
  unfold maxLen at hmax
  by_cases hbig : 1000 < l.length
  · have hv : Hid (2 = checkL l) := Lib.hid (by simp [checkL, hbig])
    have hbz : (1000 : Int) < (l.length : Int) := by omega
    clear hel
    go_enter Tryz.func62, Tryz.ntmps62
    go_wp2
    go_ret
    exact ⟨ret_int hv.out, Below.refl _ _⟩
  have hbz : ¬ (1000 : Int) < (l.length : Int) := by omega
  have HF : Hid (checkL l = FF (clAt l) l.length) := Lib.hid (by simp [checkL, hbig])
  generalize checkL l = F at HF ⊢
  have HW := Lib.hid hw
  have HEL := Lib.hid hel
  clear hw hel
  go_enter Tryz.func62, Tryz.ntmps62
  go_wp2
  go_loopg [3, 4, 10] l.length (fun gg s3 s4 s10 wr => ∃ kk : Nat, kk ≤ l.length ∧ l.length - kk ≤ gg ∧ s10 = .int .i64 kk ∧ Aside (Below w.heap.size w wr) ∧ Aside (∀ j, j < kk → clAt l j = 0))
  case atStart => exact ⟨0, Nat.zero_le _, by omega, rfl, Below.refl _ w, fun j hj => absurd hj (Nat.not_lt_zero _)⟩
  case round =>
    obtain ⟨kk, hkk, hg, rfl, BW, A⟩ := hrel
    by_cases hlt : kk < l.length
    · have hltz : (kk : Int) < (l.length : Int) := by omega
      obtain ⟨x, hx⟩ : ∃ x, l[kk]? = some x := ⟨l[kk], by simp [hlt]⟩
      obtain ⟨p, hp⟩ : ∃ x, l[kk - 1]? = some x := ⟨l[kk - 1]'(by omega), by simp⟩
      obtain ⟨b, off, hao, hc⟩ := HEL.out kk x hx
      subst hao
      obtain ⟨b', off', hao', hc'⟩ := HEL.out (kk - 1) p hp
      simp only [Option.some.injEq, Addr.mk.injEq, and_true] at hao'
      obtain ⟨rfl, rfl⟩ := hao'
      have hlt0 := World.block_lt_of_cell? w ⟨b, off + kk * 4 + 0, none⟩ (hc 0 _ rfl)
      have c0 : wr.cell? ⟨b, off + kk * 4, none⟩ = some (.string x.ke) := (BW.out.cell (p := ⟨b, off + kk * 4 + 0, none⟩) hlt0).trans (hc 0 _ rfl)
      have p0 : wr.cell? ⟨b, off + (kk - 1) * 4, none⟩ = some (.string p.ke) := (BW.out.cell (p := ⟨b, off + (kk - 1) * 4 + 0, none⟩) hlt0).trans (hc' 0 _ rfl)
      have c1 : wr.cell? ⟨b, off + kk * 4 + 1, none⟩ = some (.int .i64 x.ti) := (BW.out.cell (p := ⟨b, off + kk * 4 + 1, none⟩) hlt0).trans (hc 1 _ rfl)
      have p1 : wr.cell? ⟨b, off + (kk - 1) * 4 + 1, none⟩ = some (.int .i64 p.ti) := (BW.out.cell (p := ⟨b, off + (kk - 1) * 4 + 1, none⟩) hlt0).trans (hc' 1 _ rfl)
      have c2 : wr.cell? ⟨b, off + kk * 4 + 2, none⟩ = some (.int .i64 x.si) := (BW.out.cell (p := ⟨b, off + kk * 4 + 2, none⟩) hlt0).trans (hc 2 _ rfl)
      have p2 : wr.cell? ⟨b, off + (kk - 1) * 4 + 2, none⟩ = some (.int .i64 p.si) := (BW.out.cell (p := ⟨b, off + (kk - 1) * 4 + 2, none⟩) hlt0).trans (hc' 2 _ rfl)
      have c3 : wr.cell? ⟨b, off + kk * 4 + 3, none⟩ = some (.bool x.go) := (BW.out.cell (p := ⟨b, off + kk * 4 + 3, none⟩) hlt0).trans (hc 3 _ rfl)
      have p3 : wr.cell? ⟨b, off + (kk - 1) * 4 + 3, none⟩ = some (.bool p.go) := (BW.out.cell (p := ⟨b, off + (kk - 1) * 4 + 3, none⟩) hlt0).trans (hc' 3 _ rfl)
      have hbw : b < wr.heap.size := Nat.lt_of_lt_of_le hlt0 BW.out.size
      have hsz : x.ke.size ≤ 9223372036854775807 := HW.out x (List.mem_of_getElem? hx)
      have hin := isReq_any x.ke
      have hszw := BW.out.size
      have hat : Hid (clAt l kk = clOf x p kk) := Lib.hid (by rw [clAt, getD_of hx, getD_of hp])
      have hS : Hid (∀ z, clOf x p kk = z → z ≠ 0 → z = F) := Lib.hid (fun z h hz => by
        rw [HF.out, FF_hit hlt A.out (by rw [hat.out, h]; exact hz), hat.out, h])
      have hC0 : Hid (clOf x p kk = if (!reqB x.ke) = true then 3 else if (outB x.ti 0 1000000000000) = true then 1 else if (x.go && x.si != 0) = true then 3 else if (!x.go && outB x.si 1 1000000000) = true then 1 else if (ordL x p kk) = true then 8 else 0) := Lib.hid rfl
      clear hx hp hc hc'
      have HB0 := Lib.hid (BW.out.alloc hszw (.cells #[.string x.ke, .int .i64 x.ti, .int .i64 x.si, .bool x.go] 43))
      go_upto_region 6 with (fail)
      go_cut [15] (fun s w4 => s = .bool (!reqB x.ke) ∧ w4 = (wr.alloc (.cells #[.string x.ke, .int .i64 x.ti, .int .i64 x.si, .bool x.go] 43)))
      case first =>
        go_wp2_with (go_at_call 63; refine (hin _ hsz).mono ?_; rintro e w' ⟨rfl, rfl⟩)
        go_meet
        exact ⟨by simp, rfl⟩
      obtain ⟨rfl, rfl⟩ := hcut
      generalize hO : (!reqB x.ke) = O at hC0 ⊢
      clear hO
      cases O
      case true =>
        have hv : Hid (3 = F) := Lib.hid (hS.out 3 (by rw [hC0.out]; rfl) (by decide))
        go_wp2
        go_ret
        exact ⟨ret_int hv.out, HB0.out⟩
      have hC1 : Hid (clOf x p kk = if (outB x.ti 0 1000000000000) = true then 1 else if (x.go && x.si != 0) = true then 3 else if (!x.go && outB x.si 1 1000000000) = true then 1 else if (ordL x p kk) = true then 8 else 0) := Lib.hid (by rw [hC0.out]; rfl)
      clear hC0
      go_upto_region 8 with (fail)
      go_cut [20] (fun s w4 => s = .bool (outB x.ti 0 1000000000000) ∧ w4 = (wr.alloc (.cells #[.string x.ke, .int .i64 x.ti, .int .i64 x.si, .bool x.go] 43)))
      case first =>
        cases o0 : outB x.ti 0 1000000000000
        all_goals
          go_wp2_with (go_at_call 20; refine (out_any _ _ _ _).mono ?_; rintro e w' ⟨rfl, rfl⟩)
          go_meet
          exact ⟨by simp [*], rfl⟩
      obtain ⟨rfl, rfl⟩ := hcut
      generalize hO : (outB x.ti 0 1000000000000) = O at hC1 ⊢
      clear hO
      cases O
      case true =>
        have hv : Hid (1 = F) := Lib.hid (hS.out 1 (by rw [hC1.out]; rfl) (by decide))
        go_wp2
        go_ret
        exact ⟨ret_int hv.out, HB0.out⟩
      have hC2 : Hid (clOf x p kk = if (x.go && x.si != 0) = true then 3 else if (!x.go && outB x.si 1 1000000000) = true then 1 else if (ordL x p kk) = true then 8 else 0) := Lib.hid (by rw [hC1.out]; rfl)
      clear hC1
      go_upto_region 10 with (fail)
      go_cut [24] (fun s w4 => s = .bool (x.go && x.si != 0) ∧ w4 = (wr.alloc (.cells #[.string x.ke, .int .i64 x.ti, .int .i64 x.si, .bool x.go] 43)))
      case first =>
        cases g0 : x.go
        all_goals
          rw [g0] at c3
          cases o0 : (x.si != 0)
          all_goals
            go_wp2_with (go_at_call 20; refine (out_any _ _ _ _).mono ?_; rintro e w' ⟨rfl, rfl⟩)
            go_meet
            exact ⟨by first | (simp [*]; done) | (rw [g0]; simp [*]), by rw [g0]⟩
      obtain ⟨rfl, rfl⟩ := hcut
      generalize hO : (x.go && x.si != 0) = O at hC2 ⊢
      clear hO
      cases O
      case true =>
        have hv : Hid (3 = F) := Lib.hid (hS.out 3 (by rw [hC2.out]; rfl) (by decide))
        go_wp2
        go_ret
        exact ⟨ret_int hv.out, HB0.out⟩
      have hC3 : Hid (clOf x p kk = if (!x.go && outB x.si 1 1000000000) = true then 1 else if (ordL x p kk) = true then 8 else 0) := Lib.hid (by rw [hC2.out]; rfl)
      clear hC2
      go_upto_region 12 with (fail)
      go_cut [32] (fun s w4 => s = .bool (!x.go && outB x.si 1 1000000000) ∧ w4 = (wr.alloc (.cells #[.string x.ke, .int .i64 x.ti, .int .i64 x.si, .bool x.go] 43)))
      case first =>
        cases g0 : x.go
        all_goals
          rw [g0] at c3
          cases o0 : (outB x.si 1 1000000000)
          all_goals
            go_wp2_with (go_at_call 20; refine (out_any _ _ _ _).mono ?_; rintro e w' ⟨rfl, rfl⟩)
            go_meet
            exact ⟨by first | (simp [*]; done) | (rw [g0]; simp [*]), by rw [g0]⟩
      obtain ⟨rfl, rfl⟩ := hcut
      generalize hO : (!x.go && outB x.si 1 1000000000) = O at hC3 ⊢
      clear hO
      cases O
      case true =>
        have hv : Hid (1 = F) := Lib.hid (hS.out 1 (by rw [hC3.out]; rfl) (by decide))
        go_wp2
        go_ret
        exact ⟨ret_int hv.out, HB0.out⟩
      have hC4 : Hid (clOf x p kk = if (ordL x p kk) = true then 8 else 0) := Lib.hid (by rw [hC3.out]; rfl)
      clear hC3
      go_upto_region 14 with (fail)
      have hor : Hid ((ordL x p kk) = (decide (0 < kk) && (Op.bytesLess x.ke.toList p.ke.toList || ((x.ke.toList == p.ke.toList) && decide (x.ti ≤ p.ti))))) := Lib.hid rfl
      generalize hOG : (ordL x p kk) = OG at hor hC4 ⊢
      have HOG := Lib.hid hOG
      clear hOG
      go_cut [41] (fun s w4 => s = .bool OG ∧ ∃ n, w4 = (wr.alloc (.cells #[.string x.ke, .int .i64 x.ti, .int .i64 x.si, .bool x.go] 43)).drewN n)
      case first =>
        by_cases hk0 : kk = 0
        · have hz : decide ((0 : Int) < (kk : Int)) = false := decide_eq_false (by omega)
          have hz' : ¬ (0 : Int) < (kk : Int) := by omega
          have hz2 : decide (0 < kk) = false := decide_eq_false (by omega)
          have hv : Hid (OG = false) := Lib.hid (by rw [hor.out, hz2]; rfl)
          clear hk0
          go_quiet (fail)
          go_wp2
          go_meet
          exact ⟨by rw [hv.out], _, rfl⟩
        · have hz : decide ((0 : Int) < (kk : Int)) = true := decide_eq_true (by omega)
          have hz2 : decide (0 < kk) = true := decide_eq_true (by omega)
          have ez2 : ((kk : Int) - 1).toNat = kk - 1 := by omega
          have hm1 : (kk : Int) - 1 < (l.length : Int) := by omega
          have hm2 : (0 : Int) ≤ (kk : Int) - 1 := by omega
          have hm3 : (1 : Int) ≤ (kk : Int) := by omega
          have hm4 : 0 < kk := by omega
          have hwk : IntKind.i64.wrap ((kk : Int) - 1) = (kk : Int) - 1 := IntWalk.i64_in _ (by omega)
          clear hk0
          cases q1 : Op.bytesLess x.ke.toList p.ke.toList
          · cases q2 : (x.ke.toList == p.ke.toList)
            · have hv : Hid (OG = false) := Lib.hid (by rw [hor.out, hz2, q1, q2]; rfl)
              go_quiet (fail)
              go_wp2
              go_meet
              exact ⟨by rw [hv.out], _, rfl⟩
            · have hv : Hid (OG = decide (x.ti ≤ p.ti)) := Lib.hid (by rw [hor.out, hz2, q1, q2]; rfl)
              go_quiet (fail)
              go_wp2
              go_meet
              exact ⟨by rw [hv.out], _, rfl⟩
          · have hv : Hid (OG = true) := Lib.hid (by rw [hor.out, hz2, q1]; rfl)
            go_quiet (fail)
            go_wp2
            go_meet
            exact ⟨by rw [hv.out], _, rfl⟩
      obtain ⟨rfl, nq, rfl⟩ := hcut
      rw [HOG.out.symm] at hC4
      have HBn := Lib.hid (below_drewN HB0.out nq)
      rw [HOG.out.symm]
      clear hor HOG
      generalize hO : (ordL x p kk) = O at hC4 ⊢
      clear hO
      cases O
      case true =>
        have hv : Hid (8 = F) := Lib.hid (hS.out 8 (by rw [hC4.out]; rfl) (by decide))
        go_wp2
        go_ret
        exact ⟨ret_int hv.out, HBn.out⟩
      have hC5 : Hid (clOf x p kk = 0) := Lib.hid (by rw [hC4.out]; rfl)
      clear hC4
      have hz : Hid (clAt l kk = 0) := Lib.hid (by rw [hat.out, hC5.out])
      go_wp2
      go_roundg (l.length - (kk + 1))
      case measure => omega
      case rel =>
        refine ⟨kk + 1, by omega, by omega, by go_num, HBn.out, (show Aside _ from fun j hj => ?_)⟩
        by_cases e : j = kk
        · rw [e, hz.out]
        · exact A.out j (by omega)
    · obtain rfl : kk = l.length := by omega
      have hltz : ¬ (l.length : Int) < (l.length : Int) := by omega
      have hz : Hid (0 = F) := Lib.hid (by rw [HF.out, FF_zero A.out])
      go_wp2
      go_ret
      exact ⟨ret_int hz.out, BW.out⟩
end Go.Proofs.YtehbmnkbmgnkfaaGreatDoor

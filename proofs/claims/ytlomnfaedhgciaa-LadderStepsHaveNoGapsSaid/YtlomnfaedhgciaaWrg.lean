/- Wrong of the program. -/
import Derived.Test.YtlomnfaedhgciaaWrgD
import Derived.Test.YtlomnfaedhgciaaFst
import Derived.Test.YtlomnfaedhgciaaRen
namespace Go.Proofs.Ytlomnfaedhgciaa
open Go.RowKit

theorem Sl.dropA {α : Type} {w : World} {k : Nat} {enc : α → List Value} {l : List α} {b off cap : Nat} (h : Sl w k enc (.slice (some ⟨b, off, none⟩) l.length cap) l) (i : Nat) (hi : i ≤ l.length) :
    ∃ A : Addr, (if cap = i then (some ⟨b, off, none⟩ : Option Addr) else some ⟨b, off + i * k, none⟩) = some A ∧ Sl w k enc (.slice (some A) (l.length - i) (cap - i)) (l.drop i) := by
  obtain ⟨ao, cap', he, h2, h3, h4, hel⟩ := h
  simp only [Value.slice.injEq, true_and] at he
  obtain ⟨rfl, rfl⟩ := he
  by_cases e : cap = i
  · refine ⟨⟨b, off, none⟩, by rw [if_pos e], some ⟨b, off, none⟩, cap - i, by rw [List.length_drop], by rw [List.length_drop]; omega, by omega, fun h => by simp at h, fun j x hx => ?_⟩
    have : (l.drop i)[j]? = none := by rw [List.getElem?_eq_none]; rw [List.length_drop]; omega
    rw [this] at hx; cases hx
  · refine ⟨⟨b, off + i * k, none⟩, by rw [if_neg e], some ⟨b, off + i * k, none⟩, cap - i, by rw [List.length_drop], by rw [List.length_drop]; omega, by omega, fun h => by simp at h, fun j x hx => ⟨b, off + i * k, rfl, fun t u hu => ?_⟩⟩
    rw [List.getElem?_drop] at hx
    obtain ⟨b', off', hb, hc⟩ := hel _ x hx
    simp only [Option.some.injEq, Addr.mk.injEq, and_true] at hb
    obtain ⟨rfl, rfl⟩ := hb
    have := hc t u hu
    rw [← this, Nat.add_mul, ← Nat.add_assoc]

theorem firstF_pair (a b : Int) : firstF [a, b] = if a ≠ 0 then a else b := by
  by_cases h : a = 0
  · by_cases h2 : b = 0 <;> simp [firstF, h, h2]
  · simp [firstF, h]

theorem tallC_any (r o : Rng) (B : Nat) (W : World) (h : W.heap[B]? = some (.cells #[.string r.na, .int .i64 r.ra, .int .i64 r.he, .int .i64 r.qu] 47 (0, 0))) :
    Calls Try.prog 22 #[.agg #[.string o.na, .int .i64 o.ra, .int .i64 o.he, .int .i64 o.qu], .pointer (some ⟨B, 0, none⟩)] W fun e w' => e = .returned (.bool (decide (o.he < r.he))) ∧ Below W.heap.size W w' := by
  have c2 := (cell_of_block (i := 2) h).trans rfl
  have hlt := lt_of_block h
  clear h
  go_enter Try.func22, Try.ntmps22
  go_wp2
  go_ret
  exact ⟨rfl, (Below.refl _ _).alloc (Nat.le_refl _) _⟩

set_option maxRecDepth 100000 in
set_option maxHeartbeats 4000000 in
theorem wrong_any (w : World) (l : List Rng) (v : Value) (n d : Int) (hl : Sl w 4 encR v l) (hw : ∀ x, x ∈ l → WfR x) :
    Calls Try.prog 7 #[v, .agg #[.int .i64 n, .int .i64 d]] w (SlPost w 2 encW (wrgL l n d) (rmF l n d)) := by
  have HR := Lib.hid (fun (W : World) (hb : Below w.heap.size w W) => checkRen_any W l v (hl.below hb (Nat.le_refl _)) hw)
  have HM := Lib.hid (fun (W : World) => mostFault_any n d W)
  have HN := Lib.hid (fun (w2 : World) => first_any (w2.alloc (.cells #[.int .i64 (checkR l), .int .i64 (mostF n d)] 26)) [checkR l, mostF n d] _ (Sl.fresh (enc := encI) (k := 1) (fun _ => rfl) w2 26 _ [checkR l, mostF n d] (by simp [maxLen])))
  have HF : Hid (rmF l n d = if checkR l ≠ 0 then checkR l else mostF n d) := Lib.hid rfl
  rw [firstF_pair] at HN
  have HZ := Lib.hid (fun (h : rmF l n d = 0) => rmF_zero h)
  have HL : Hid (wrgL l n d = if rmF l n d ≠ 0 then [] else wrgA l n d l.length) := Lib.hid rfl
  obtain ⟨F, hF⟩ : ∃ F, F = rmF l n d := ⟨_, rfl⟩
  obtain ⟨RL, hRL⟩ : ∃ RL, RL = wrgL l n d := ⟨_, rfl⟩
  rw [← hF] at HF HZ HL ⊢
  rw [← hRL] at HL ⊢
  rw [← HF.out] at HN
  have HCK := Lib.hid (fun (h : checkR l = 0) => checkR_zero h)
  have HMK := Lib.hid (fun (h : mostF n d = 0) => mostF_zero h)
  generalize hr1 : checkR l = r1 at HR HN HZ HCK
  generalize hr2 : mostF n d = r2 at HM HN HZ HMK
  have HSL := Lib.hid hl
  have HK := Lib.hid (block_new w (.cells #[.int .i64 n, .int .i64 d] 24))
  have HB := Lib.hid ((Below.refl w.heap.size w).alloc (Nat.le_refl _) (.cells #[.int .i64 n, .int .i64 d] 24))
  obtain ⟨w1, hw1⟩ : ∃ w1, w1 = w.alloc (.cells #[.int .i64 n, .int .i64 d] 24) := ⟨_, rfl⟩
  rw [← hw1] at HK HB
  have hlt := lt_of_block HK.out
  have HSS : Hid (∀ W : World, Below w1.heap.size w1 W → (W.cell? ⟨w.heap.size, 0, none⟩ = some (.int .i64 n) ∧ W.cell? ⟨w.heap.size, 1, none⟩ = some (.int .i64 d))) := Lib.hid (fun W hb =>
    ⟨(hb.cell (p := ⟨w.heap.size, 0, none⟩) hlt).trans ((cell_of_block (i := 0) HK.out).trans rfl), (hb.cell (p := ⟨w.heap.size, 1, none⟩) hlt).trans ((cell_of_block (i := 1) HK.out).trans rfl)⟩)
  have HW1 := Lib.hid hw1
  have HRR := Lib.hid (fun (W : World) (hb : Below w1.heap.size w1 W) => HR.out W (HB.out.thru hb))
  obtain ⟨ao, cap, rfl, hcap, hmax, hnil, hel⟩ := hl
  unfold maxLen at hmax
  clear hw1 hF hRL hw HR HF hel hr1 hr2
  go_enter Try.func7, Try.ntmps7
  go_upto_region 1 with (fail)
  rw [← HW1.out]
  go_cut [6] (fun s6 w4 => s6 = .int .i64 F ∧ Aside (Below w1.heap.size w1 w4))
  case first =>
    have hbc : Below w1.heap.size w1 w1.drew := (Below.refl _ w1).drew
    go_region_held3 (fun w' => w'.cell? ⟨w.heap.size, 0, none⟩ = some (.int .i64 n) ∧ w'.cell? ⟨w.heap.size, 1, none⟩ = some (.int .i64 d))
      (first | exact HSS.out _ hbc | exact HSS.out _ (hbc.alloc hbc.size _) | fail "keep")
      (first | (go_at_call 16; refine (HRR.out _ hbc).mono ?_; rintro e w' ⟨rfl, hb⟩; replace hbc := hbc.thru hb; clear hb)
             | (go_at_call 17; refine (HM.out _).mono ?_; rintro e w' ⟨rfl, hb⟩; replace hbc := hbc.thru hb; clear hb)
             | (go_at_call 15; refine (HN.out _).mono ?_; rintro e w4 ⟨rfl, rfl⟩) | fail "arms")
    all_goals
      go_wp2
      go_meet
      exact ⟨rfl, hbc.alloc hbc.size _⟩
  obtain ⟨rfl, BC⟩ := hcut
  cases e1 : (F != 0)
  case true =>
    have hne : F ≠ 0 := by simpa using e1
    have hv2 : Hid (RL = []) := Lib.hid (by rw [HL.out, if_pos hne])
    clear hne
    go_wp2
    go_ret2
    exact SlPost.mk rfl (by rw [hv2.out]; exact Sl.nil) (HB.out.thru BC.out)
  obtain rfl : F = 0 := by simpa using e1
  have hv2 : Hid (RL = wrgA l n d l.length) := Lib.hid (by rw [HL.out]; rfl)
  obtain ⟨hz1, hz2⟩ := HZ.out rfl
  have hc1 := HCK.out hz1
  have hc2 := HMK.out hz2
  obtain ⟨hlen, _, hrng⟩ := hc1
  obtain ⟨hn0, hd0, _⟩ := hc2
  have HRNG := Lib.hid (fun x hx => (hrng x hx).2.1)
  have HBC := Lib.hid (HB.out.thru BC.out)
  have hSLc := HSL.out.below HBC.out (Nat.le_refl _)
  have HSLC := Lib.hid hSLc
  obtain ⟨_, _, he, _, _, _, hel⟩ := hSLc
  simp only [Value.slice.injEq, true_and] at he
  obtain ⟨rfl, rfl⟩ := he
  have HEL := Lib.hid hel
  have HRB := Lib.hid ((BC.out.block w.heap.size hlt).trans HK.out)
  have hrbl := lt_of_block HRB.out
  have HSC := Lib.hid (fun (W : World) (hb : Below wc.heap.size wc W) (r : Rng) => sensible_any W l _ r (HSLC.out.below hb (Nat.le_refl _)))
  clear hel HSL HRR HM HN HZ HCK HMK HL HSS HW1 HK hlt hrng hz1 hz2 BC e1
  obtain ⟨wb, rfl⟩ : ∃ wb, wb = wc := ⟨_, rfl⟩
  go_wp2
  go_loopg [7, 8, 9, 21] l.length (fun gg s7 _ _ s21 wr => ∃ k : Nat, k ≤ l.length ∧ l.length - k ≤ gg ∧ s21 = .int .i64 k ∧ Aside (Own wr wb.heap.size 35 2 encW s7 (wrgA l n d k)) ∧ Aside (Below wb.heap.size wb wr))
  case atStart => exact ⟨0, Nat.zero_le _, by omega, rfl, (show Own _ _ _ _ _ _ _ from Own.nil), Below.refl _ wb⟩
  case round =>
    obtain ⟨k, hk, hg, rfl, OW, BW⟩ := hrel
    have HOW := Lib.hid OW.out
    obtain ⟨oo, oL, ocap, rfl⟩ := Own.slv encW_len OW.out
    by_cases hlt : k < l.length
    · have hltz : (k : Int) < (l.length : Int) := by omega
      obtain ⟨x, hx⟩ : ∃ x, l[k]? = some x := ⟨l[k], by simp [hlt]⟩
      obtain ⟨y, hy⟩ : ∃ y, l[k - 1]? = some y := ⟨l[k - 1]'(by omega), by simp⟩
      obtain ⟨b, off, hao, hc⟩ := HEL.out k x hx
      subst hao
      obtain ⟨b', off', hao', hd⟩ := HEL.out (k - 1) y hy
      simp only [Option.some.injEq, Addr.mk.injEq, and_true] at hao'
      obtain ⟨rfl, rfl⟩ := hao'
      have hblt : b < wb.heap.size := World.block_lt_of_cell? wb ⟨b, off + k * 4 + 0, none⟩ (hc 0 _ rfl)
      have c0 : wr.cell? ⟨b, off + k * 4, none⟩ = some (.string x.na) := (BW.out.cell (p := ⟨b, off + k * 4 + 0, none⟩) hblt).trans (hc 0 _ rfl)
      have c1 := (BW.out.cell (p := ⟨b, off + k * 4 + 1, none⟩) hblt).trans (hc 1 _ rfl)
      have c2 := (BW.out.cell (p := ⟨b, off + k * 4 + 2, none⟩) hblt).trans (hc 2 _ rfl)
      have c3 := (BW.out.cell (p := ⟨b, off + k * 4 + 3, none⟩) hblt).trans (hc 3 _ rfl)
      have hy1 : wb.cell? ⟨b, off + (k - 1) * 4 + 1, none⟩ = some (.int .i64 y.ra) := hd 1 _ rfl
      have HY1 := Lib.hid hy1
      have hxr := HRNG.out x (List.mem_of_getElem? hx)
      have hyr := HRNG.out y (List.mem_of_getElem? hy)
      have hszw := BW.out.size
      have hbw : b < wr.heap.size := by omega
      have HBX := Lib.hid (BW.out.alloc hszw (.cells #[.string x.na, .int .i64 x.ra, .int .i64 x.he, .int .i64 x.qu] 47))
      have HKX := Lib.hid (block_new wr (.cells #[.string x.na, .int .i64 x.ra, .int .i64 x.he, .int .i64 x.qu] 47))
      obtain ⟨A, hA, hsd⟩ := HSLC.out.dropA (k + 1) (by omega)
      have HSD := Lib.hid hsd
      have hwl := wrgA_len l n d k
      have HGX : Hid (l.getD k default = x) := Lib.hid (getD_of hx)
      have HGY : Hid (l.getD (k - 1) default = y) := Lib.hid (getD_of hy)
      have HS1 := Lib.hid (HSC.out (wr.alloc (.cells #[.string x.na, .int .i64 x.ra, .int .i64 x.he, .int .i64 x.qu] 47)) HBX.out x)
      have HW0 : Hid (wrgA l n d (k + 1) = wrgA l n d k ++ wrg1 l k ++ wrg2 l k ++ wrg3 l n d k) := Lib.hid rfl
      have HW1 : Hid (wrg1 l k = if senB l x then [] else [⟨1, k⟩]) := Lib.hid (by rw [wrg1, HGX.out])
      have HW2 : Hid (wrg2 l k = if tallB l k then [⟨2, k⟩] else []) := Lib.hid rfl
      have HW3 : Hid (wrg3 l n d k = if gapB l n d k then [⟨3, k⟩] else []) := Lib.hid rfl
      have HTB : Hid (tallB l k = (l.drop (k + 1)).any fun o => decide (o.he < x.he)) := Lib.hid (by rw [tallB, HGX.out])
      have HGB : Hid (gapB l n d k = (decide (0 < k) && farB y.ra x.ra n d)) := Lib.hid (by rw [gapB, HGX.out, HGY.out])
      obtain ⟨sb, hsb⟩ : ∃ z, z = senB l x := ⟨_, rfl⟩
      obtain ⟨tb, htb⟩ : ∃ z, z = tallB l k := ⟨_, rfl⟩
      obtain ⟨gb, hgb⟩ : ∃ z, z = gapB l n d k := ⟨_, rfl⟩
      rw [← hsb] at HS1 HW1
      rw [← htb] at HW2 HTB
      rw [← hgb] at HW3 HGB
      have hl1 : (wrgA l n d k ++ wrg1 l k).length ≤ 3 * k + 1 := by rw [HW1.out]; simp only [List.length_append]; split <;> simp <;> omega
      have hl2 : (wrgA l n d k ++ wrg1 l k ++ wrg2 l k).length ≤ 3 * k + 2 := by rw [HW2.out]; simp only [List.length_append] at hl1 ⊢; split <;> simp <;> omega
      have HL0 : Hid (((wrgA l n d k).length + 1) * 16 ≤ 140737488355328) := Lib.hid (by omega)
      have HL1 : Hid (((wrgA l n d k ++ wrg1 l k).length + 1) * 16 ≤ 140737488355328) := Lib.hid (by omega)
      have HL2 : Hid (((wrgA l n d k ++ wrg1 l k ++ wrg2 l k).length + 1) * 16 ≤ 140737488355328) := Lib.hid (by omega)
      clear hx hy hc hd hy1 hsd OW hsb htb hgb hl1 hl2 hwl
      go_upto_if 29 with (go_at_call 20; refine HS1.out.mono ?_; rintro e w2 ⟨rfl, hb2⟩; have HB2 := Lib.hid (HBX.out.thru hb2); have HK2 := Lib.hid ((hb2.block _ (lt_of_block HKX.out)).trans HKX.out); have HO2 := Lib.hid ((HOW.out.al (.cells #[.string x.na, .int .i64 x.ra, .int .i64 x.he, .int .i64 x.qu] 47)).below hb2 (Nat.le_refl _)); clear hb2)
      go_cut [7] (fun s7 w5 => Aside (Own w5 wb.heap.size 35 2 encW s7 (wrgA l n d k ++ wrg1 l k)) ∧ Aside (Below wb.heap.size wb w5) ∧ Aside (w5.heap[wr.heap.size]? = some (.cells #[.string x.na, .int .i64 x.ra, .int .i64 x.he, .int .i64 x.qu] 47)))
      case first =>
        cases sb
        case false =>
          go_wp2_with (at_builtin; refine wpList_pushK rfl _ _ 30 rfl slW rfl rfl ⟨1, k⟩ rfl rfl rfl HO2.out rfl HL0.out HB2.out.size ?_; intro v5 w5 ho5 hb5 hk5; obtain ⟨ao5, L5, cp5, rfl⟩ := Own.slv encW_len ho5; have HO5 := Lib.hid ho5; have HB5 := Lib.hid (HB2.out.trans hb5); have HK5 := Lib.hid (hk5 _ _ _ _ HK2.out (by decide)); clear ho5 hb5 hk5)
          go_meet
          exact ⟨by rw [HW1.out]; exact HO5.out, HB5.out, HK5.out⟩
        case true =>
          go_wp2
          go_meet
          exact ⟨(show Own _ _ _ _ _ _ _ by rw [HW1.out]; simpa using HO2.out), HB2.out, HK2.out⟩
      obtain ⟨O3, B3, K3⟩ := hcut
      obtain ⟨w3, rfl⟩ : ∃ w3, w3 = wc := ⟨_, rfl⟩
      have HO3 := Lib.hid O3.out
      obtain ⟨ao3, L3, cp3, rfl⟩ := Own.slv encW_len O3.out
      have HB3 := Lib.hid B3.out
      have HK3 := Lib.hid K3.out
      have hw3 := lt_of_block K3.out
      have HANY : Hid (Calls Try.prog 21 #[.slice (some A) (l.length - (k + 1)) (cap - (k + 1)), .func (.func 22) #[] #[.pointer (some ⟨wr.heap.size, 0, none⟩)]] w3 fun e w' => e = .returned (.bool tb) ∧ Below w3.heap.size w3 w') := Lib.hid (by
        rw [HTB.out]
        exact anyR 22 _ (fun o => decide (o.he < x.he)) w3 (l.drop (k + 1)) _ (HSD.out.below HB3.out (Nat.le_refl _)) (enters_of Try.func22 (by kernel_rfl) rfl)
          (fun W o _ hb => tallC_any x o wr.heap.size W ((hb.block _ (lt_of_block HK3.out)).trans HK3.out)))
      have hk1 : IntKind.i64.wrap ((k : Int) + 1) = (k : Int) + 1 := IntWalk.i64_in _ (by omega)
      have hk2 : (0 : Int) ≤ (k : Int) + 1 := by omega
      have hk3 : (k : Int) + 1 ≤ (l.length : Int) := by omega
      have hk4 : k + 1 ≤ cap := by omega
      clear O3 B3 K3 c0 c1 c2 c3 HTB HSD HS1 HBX HKX
      go_upto_if 40 with (go_at_call 21; refine HANY.out.mono ?_; rintro e w4 ⟨rfl, hb4⟩; have HB4 := Lib.hid (HB3.out.thru hb4); have HK4 := Lib.hid ((hb4.block _ hw3).trans HK3.out); have HO4 := Lib.hid (HO3.out.below hb4 (Nat.le_refl _)); clear hb4)
      go_cut [7] (fun s7 w5 => Aside (Own w5 wb.heap.size 35 2 encW s7 (wrgA l n d k ++ wrg1 l k ++ wrg2 l k)) ∧ Aside (Below wb.heap.size wb w5) ∧ Aside (w5.heap[wr.heap.size]? = some (.cells #[.string x.na, .int .i64 x.ra, .int .i64 x.he, .int .i64 x.qu] 47)))
      case first =>
        cases tb
        case true =>
          go_wp2_with (at_builtin; refine wpList_pushK rfl _ _ 30 rfl slW rfl rfl ⟨2, k⟩ rfl rfl rfl HO4.out rfl HL1.out HB4.out.size ?_; intro v5 w5 ho5 hb5 hk5; obtain ⟨ao5, L5, cp5, rfl⟩ := Own.slv encW_len ho5; have HO5 := Lib.hid ho5; have HB5 := Lib.hid (HB4.out.trans hb5); have HK5 := Lib.hid (hk5 _ _ _ _ HK4.out (by decide)); clear ho5 hb5 hk5)
          go_meet
          exact ⟨by rw [HW2.out]; exact HO5.out, HB5.out, HK5.out⟩
        case false =>
          go_wp2
          go_meet
          exact ⟨(show Own _ _ _ _ _ _ _ by rw [HW2.out]; simpa using HO4.out), HB4.out, HK4.out⟩
      obtain ⟨O6, B6, K6⟩ := hcut
      obtain ⟨w6, rfl⟩ : ∃ w6, w6 = wc := ⟨_, rfl⟩
      have HO6 := Lib.hid O6.out
      obtain ⟨ao6, L6, cp6, rfl⟩ := Own.slv encW_len O6.out
      have HB6 := Lib.hid B6.out
      have hrb6 := (B6.out.block w.heap.size hrbl).trans HRB.out
      have hyc : w6.cell? ⟨b, off + (k - 1) * 4 + 1, none⟩ = some (.int .i64 y.ra) := (B6.out.cell (p := ⟨b, off + (k - 1) * 4 + 1, none⟩) hblt).trans HY1.out
      have hxc := (cell_of_block (i := 1) K6.out).trans rfl
      have hn6 := (cell_of_block (i := 0) hrb6).trans rfl
      have hd6 := (cell_of_block (i := 1) hrb6).trans rfl
      have hl6 := lt_of_block K6.out
      have hl7 := lt_of_block hrb6
      have hl8 : b < w6.heap.size := by have := HB6.out.size; omega
      clear O6 B6 K6 hrb6 HANY hk1 hk2 hk3 hk4
      go_upto_region 12 with (fail)
      go_cut [59] (fun s59 w5 => s59 = .bool gb ∧ Aside (Below w6.heap.size w6 w5))
      case first =>
        by_cases hk0 : k = 0
        · have hz : decide ((0 : Int) < (k : Int)) = false := decide_eq_false (by omega)
          have hz' : ¬ (0 : Int) < (k : Int) := by omega
          have hzn : decide (0 < k) = false := decide_eq_false (by omega)
          have hgv : Hid (false = gb) := Lib.hid (by rw [HGB.out, decide_eq_false (by omega)]; rfl)
          clear hk0
          go_quiet (fail)
          go_wp2
          go_meet
          exact ⟨by rw [← hgv.out], below_drewN (Below.refl _ _) _⟩
        · have hz : decide ((0 : Int) < (k : Int)) = true := decide_eq_true (by omega)
          have hgv : Hid (farB y.ra x.ra n d = gb) := Lib.hid (by rw [HGB.out, decide_eq_true (by omega)]; rfl)
          have ez2 : ((k : Int) - 1).toNat = k - 1 := by omega
          have hm1 : (k : Int) - 1 < (l.length : Int) := by omega
          have hm2 : (0 : Int) ≤ (k : Int) - 1 := by omega
          have hm3 : (1 : Int) ≤ (k : Int) := by omega
          have hm4 : 0 < k := by omega
          have hwk : IntKind.i64.wrap ((k : Int) - 1) = (k : Int) - 1 := IntWalk.i64_in _ (by omega)
          have HFA := Lib.hid (fun W => farther_any y.ra x.ra n d W (by omega) (by omega) (by omega) (by omega))
          rw [hgv.out] at HFA
          have hbc : Below w6.heap.size w6 w6.drew := (Below.refl _ w6).drew
          clear hk0
          go_region_held3 (fun w' => w'.cell? ⟨b, off + (k - 1) * 4 + 1, none⟩ = some (.int .i64 y.ra) ∧ w'.cell? ⟨wr.heap.size, 1, none⟩ = some (.int .i64 x.ra) ∧ w'.cell? ⟨w.heap.size, 0, none⟩ = some (.int .i64 n) ∧ w'.cell? ⟨w.heap.size, 1, none⟩ = some (.int .i64 d))
            (first | exact ⟨(hbc.cell (p := ⟨b, off + (k - 1) * 4 + 1, none⟩) hl8).trans hyc, (hbc.cell (p := ⟨wr.heap.size, 1, none⟩) hl6).trans hxc, (hbc.cell (p := ⟨w.heap.size, 0, none⟩) hl7).trans hn6, (hbc.cell (p := ⟨w.heap.size, 1, none⟩) hl7).trans hd6⟩ | fail "keep")
            (first | (go_at_call 18; refine (HFA.out _).mono ?_; rintro e w' ⟨rfl, hb⟩; replace hbc := hbc.thru hb; clear hb) | fail "arms")
          all_goals
            go_wp2
            go_meet
            exact ⟨rfl, hbc⟩
      obtain ⟨rfl, B7⟩ := hcut
      have HB7 := Lib.hid (HB6.out.thru B7.out)
      have HO7 := Lib.hid (HO6.out.below B7.out (Nat.le_refl _))
      clear B7 hyc hxc hn6 hd6
      cases gb
      case true =>
        have HE : Hid (wrgA l n d (k + 1) = wrgA l n d k ++ wrg1 l k ++ wrg2 l k ++ [⟨3, k⟩]) := Lib.hid (by rw [HW0.out, HW3.out]; rfl)
        go_wp2_with (at_builtin; refine wpList_pushK rfl _ _ 30 rfl slW rfl rfl ⟨3, k⟩ rfl rfl rfl HO7.out rfl HL2.out HB7.out.size ?_; intro v5 w5 ho5 hb5 hk5; obtain ⟨ao5, L5, cp5, rfl⟩ := Own.slv encW_len ho5; have HO8 := Lib.hid ho5; have HB8 := Lib.hid (HB7.out.trans hb5); clear ho5 hb5 hk5)
        go_roundg (l.length - (k + 1))
        case measure => omega
        case rel => exact ⟨k + 1, by omega, by omega, by go_num, (show Own _ _ _ _ _ _ _ by rw [HE.out]; exact HO8.out), HB8.out⟩
      case false =>
        have HE : Hid (wrgA l n d (k + 1) = wrgA l n d k ++ wrg1 l k ++ wrg2 l k) := Lib.hid (by rw [HW0.out, HW3.out]; simp)
        go_wp2
        go_roundg (l.length - (k + 1))
        case measure => omega
        case rel => exact ⟨k + 1, by omega, by omega, by go_num, (show Own _ _ _ _ _ _ _ by rw [HE.out]; exact HO7.out), HB7.out⟩
    · obtain rfl : k = l.length := by omega
      have HS := Lib.hid (HOW.out.sl encW_len)
      have HBF := Lib.hid (HBC.out.thru BW.out)
      go_wp2
      go_ret2
      exact SlPost.mk rfl (by rw [hv2.out]; exact HS.out) HBF.out
end Go.Proofs.Ytlomnfaedhgciaa

/- The law: gets that come later change nothing before. -/
import Derived.Test.YtgohddfnhofjhaaGreatDoorLaterPG1
import Derived.Test.YtgohddfnhofjhaaGreatDoorB26
import Derived.Test.YtgohddfnhofjhaaGreatDoorB27
namespace Go.Proofs.YtgohddfnhofjhaaGreatDoor
open Go.RowKit

theorem checkS_take {C : List Cch} {R : List Crl} {E : List Rel} {P : List Pur} {L : List Gt} (h : checkS C R E P L = 0) (k : Nat) : checkS C R E P (L.take k) = 0 := by
  unfold checkS at h ⊢
  by_cases hd : checkD C R E P = 0
  · rw [if_neg (by simp [hd])] at h ⊢
    unfold checkN at h ⊢
    by_cases hl : 1000 < L.length
    · rw [if_pos hl] at h; cases h
    · rw [if_neg hl] at h
      rw [if_neg (by rw [List.length_take]; omega)]
      refine FF_zero fun j hj => ?_
      rw [List.length_take] at hj
      have h1 := FF_eq_zero h j (by omega)
      unfold gnAt at h1 ⊢
      rw [take_gD (L := L) (k := k) (by omega), take_gD (L := L) (k := k) (by omega)]
      exact h1
  · rw [if_pos hd] at h; exact absurd h hd
set_option maxRecDepth 100000 in
set_option maxHeartbeats 8000000 in
theorem laterGets_any (w : World) (C : List Cch) (R : List Crl) (E : List Rel) (P : List Pur) (L : List Gt) (vc vr ve vp vl : Value) (k : Int) (h : InS w C R E P L vc vr ve vp vl) (hw : WfS C R E P L) (hk : -9223372036854775808 ≤ k ∧ k ≤ 9223372036854775807) (m : Int) (hm : w.cell? ⟨0, 0, none⟩ = some (.int .i64 m)) :
    Calls Tryz.prog 4 #[.agg #[vc, vr, ve, vp], vl, .int .i64 k] w fun e' w' => e' = .returned (.bool true) ∧ Below w.heap.size w w' := by
  have h0 := World.block_lt_of_cell? w _ hm
  obtain ⟨w2, hw2⟩ : ∃ w2, w2 = w.alloc (.cells #[vc, vr, ve, vp] 27) := ⟨_, rfl⟩
  have hb2 : Below w.heap.size w w2 := by rw [hw2]; exact (Below.refl _ w).alloc (Nat.le_refl _) _
  have hnb : w2.heap[w.heap.size]? = some (.cells #[vc, vr, ve, vp] 27 (0, 0)) := by rw [hw2]; exact block_new w _
  have hlt : w.heap.size < w2.heap.size := (Array.getElem?_eq_some_iff.1 hnb).1
  have h2 := h.below hb2
  have H1 := Lib.hid (Serve_any w2 C R E P L vc vr ve vp vl h2 hw)
  have H5 := Lib.hid (fun (W : World) (hW : Below w.heap.size w W) => awakeE_any W m ((hW.cell (p := ⟨0, 0, none⟩) h0).trans hm))
  have HV : Hid (checkS C R E P L = 0 → checkS C R E P L = 0) := Lib.hid id
  have HK := Lib.hid (fun (W : World) (hl : L.length ≤ 1000) => below_any k ((L.length : Int) + 1) W (by omega) (by omega) hk)
  obtain ⟨lo, lc, rfl, hlc, hlm, hln, hlel⟩ := h2.l
  have H1' := Lib.hid (fun (W : World) (hW : Below w2.heap.size w2 W) (n : Nat) (hn : n ≤ L.length) => Serve_any W C R E P (L.take n) vc vr ve vp (.slice lo n lc) ⟨(h2.below hW).c, (h2.below hW).r, (h2.below hW).e, (h2.below hW).p, (h2.below hW).l.take rfl n hn⟩ ⟨hw.c, hw.r, hw.e, hw.p, fun x hx => hw.l x (List.mem_of_mem_take hx)⟩)
  unfold maxLen at hlm
  have HLL := Lib.hid hlel
  have HQ := Lib.hid (fun (W : World) (hW : Below w2.heap.size w2 W) => (hW.block _ hlt).trans hnb)
  have q0 : w2.cell? ⟨w.heap.size, 0, none⟩ = some vc := cellF hnb 0 rfl
  have q1 : w2.cell? ⟨w.heap.size, 1, none⟩ = some vr := cellF hnb 1 rfl
  have q2 : w2.cell? ⟨w.heap.size, 2, none⟩ = some ve := cellF hnb 2 rfl
  have q3 : w2.cell? ⟨w.heap.size, 3, none⟩ = some vp := cellF hnb 3 rfl
  have HW2 := Lib.hid hw2
  have HB2 := Lib.hid hb2
  clear h h2 hw hm hw2 hb2 hnb hlel hk hln
  obtain ⟨D0, hD0⟩ : ∃ D0, D0 = w.heap.size := ⟨_, rfl⟩
  have HD := Lib.hid hD0
  rw [← hD0] at HQ q0 q1 q2 q3
  clear hD0
  obtain ⟨S, hS0⟩ : ∃ S, S = checkS C R E P L := ⟨_, rfl⟩
  rw [← hS0] at H1 HV
  go_enter Tryz.func4, Tryz.ntmps4
  go_upto_region 1 with (fail)
  rw [← HW2.out, ← HD.out]
  have HS0 := Lib.hid hS0
  clear hS0
  go_upto_region 2 with (go_at_call 10; (with_reducible refine H1.out.mono ?_); rintro e w3 ⟨⟨v, rfl, l, hs, hl1, hl2⟩, hb3⟩; have HS := Lib.hid hs; have HB3 := Lib.hid hb3; have HL1 := Lib.hid hl1; have HL2 := Lib.hid hl2; clear hs hb3 hl1 hl2 q0 q1 q2 q3)
  have HB3' := Lib.hid (HB2.out.thru HB3.out)
  by_cases hS : S = 0
  case neg =>
    obtain rfl := HL1.out hS
    obtain ⟨a1, c1, rfl, -⟩ := HS.out
    have hne : (S != 0) = true := by simpa using hS
    clear hS
    go_wp2_with (go_at_call 11; (with_reducible refine (H5.out w3 HB3'.out).mono ?_); rintro e w6 ⟨rfl, hb6⟩; have HB6 := Lib.hid (HB3'.out.thru hb6); clear hb6)
    go_ret
    exact ⟨rfl, HB6.out⟩
  subst hS
  have hcs := HS0.out.symm
  have hv := val_of hcs
  obtain ⟨X, hE, rfl⟩ := HL2.out rfl
  have hgl : X.go.length = L.length := hE.inv.le.2.2.1
  have hl1000 := hv.l
  have HKK := Lib.hid (HK.out w3 hl1000)
  have HCT := Lib.hid (fun (n : Nat) => checkS_take hcs n)
  have HLT : Hid (∀ (n : Nat) (Y : Xd), n ≤ L.length → EndX C R E P (L.take n) 1152921504606846976 Y → Y.go.length = n ∧ ∀ g, g < n → (n = L.length ∨ (Y.G g).ti < (L.getD n default).ti) → X.G g = Y.G g) := Lib.hid fun n Y hn hY => by
    refine ⟨by rw [hY.inv.le.2.2.1, List.length_take]; omega, fun g hg hc => ?_⟩
    by_cases e : n = L.length
    · subst e
      rw [List.take_length] at hY
      rw [hE.uniq hY]
    · rcases hc with hc | hc
      · exact absurd hc e
      · exact later_same hv (by omega) hE hY hg hc
  obtain ⟨ao, cap, hvv, hcap, hmax, -, hel⟩ := HS.out
  unfold maxLen at hmax
  rw [hgl] at hvv hcap
  subst hvv
  have HEL := Lib.hid hel
  have hww : IntKind.i64.wrap ((L.length : Int) + 1) = (L.length : Int) + 1 := IntWalk.i64_in _ (by omega)
  have hQ3 := HQ.out w3 HB3.out
  have r0 : w3.cell? ⟨D0, 0, none⟩ = some vc := cellF hQ3 0 rfl
  have r1 : w3.cell? ⟨D0, 1, none⟩ = some vr := cellF hQ3 1 rfl
  have r2 : w3.cell? ⟨D0, 2, none⟩ = some ve := cellF hQ3 2 rfl
  have r3 : w3.cell? ⟨D0, 3, none⟩ = some vp := cellF hQ3 3 rfl
  clear hel hv hE HL1 HL2 HV HS H1 hcs HS0 HK hQ3
  go_upto_region 5 with (go_at_call 16; (with_reducible refine HKK.out.mono ?_); rintro e w4 ⟨⟨z, rfl, hz0, hz1⟩, rfl⟩)
  obtain ⟨n, rfl⟩ : ∃ n : Nat, z = (n : Int) := ⟨z.toNat, by omega⟩
  have hnl : n ≤ L.length := by omega
  have hnlz : (n : Int) ≤ (L.length : Int) := by omega
  have hncz : (n : Int) ≤ (lc : Int) := by omega
  have hn0 : (0 : Int) ≤ (n : Int) := by omega
  have hS2 := H1'.out w3 HB3.out n hnl
  rw [HCT.out n] at hS2
  have HS2 := Lib.hid (fun (W : World) (hW : Below w3.heap.size w3 W) => (by
    have h := H1'.out W (HB3.out.thru hW) n hnl
    rw [HCT.out n] at h
    exact h : Calls Tryz.prog 10 #[.agg #[vc, vr, ve, vp], .slice lo n lc] W fun e w' => (∃ v, e = .returned (.tuple #[v, .int .i64 0]) ∧ ∃ l, Sl w' 5 encN v l ∧ ((0 : Int) ≠ 0 → l = []) ∧ ((0 : Int) = 0 → ∃ X, EndX C R E P (L.take n) 1152921504606846976 X ∧ l = X.go)) ∧ Below W.heap.size W w'))
  have HR : Hid (∀ W, Below w3.heap.size w3 W → W.cell? ⟨D0, 0, none⟩ = some vc ∧ W.cell? ⟨D0, 1, none⟩ = some vr ∧ W.cell? ⟨D0, 2, none⟩ = some ve ∧ W.cell? ⟨D0, 3, none⟩ = some vp) := Lib.hid fun W hW => by
    have h3 := HQ.out W (HB3.out.thru hW)
    exact ⟨cellF h3 0 rfl, cellF h3 1 rfl, cellF h3 2 rfl, cellF h3 3 rfl⟩
  clear hS2 H1' HKK
  have HQ0 : Below w3.heap.size w3 w3.drew := (Below.refl _ w3).drew
  go_region_held3 (fun w' => w'.cell? ⟨D0, 0, none⟩ = some vc ∧ w'.cell? ⟨D0, 1, none⟩ = some vr ∧ w'.cell? ⟨D0, 2, none⟩ = some ve ∧ w'.cell? ⟨D0, 3, none⟩ = some vp)
    (first | exact HR.out _ HQ0 | fail)
    (first | (go_at_call 10; (with_reducible refine (HS2.out _ HQ0).mono ?_); rintro e w' ⟨⟨v, rfl, l, hs, -, hl2⟩, hb⟩; have HS := Lib.hid hs; have HL2 := Lib.hid hl2; have HQ0 := HQ0.trans (hb.mono HQ0.size); clear hs hl2 hb) | fail)
  obtain ⟨Y, hY, rfl⟩ := HL2.out (by trivial)
  obtain ⟨hyl, heq⟩ := HLT.out n Y hnl hY
  obtain ⟨ao2, cap2, hv2, hcap2, hmax2, -, hel2⟩ := HS.out
  rw [hyl] at hv2 hcap2
  subst hv2
  unfold maxLen at hmax2
  have HEL2 := Lib.hid hel2
  have HEQ := Lib.hid heq
  have HYL := Lib.hid hyl
  have HQ9 := Lib.hid HQ0
  have n1 : ((n : Int) != (n : Int)) = false := by simp
  clear heq hel2 hyl hY HL2 HQ0 r0 r1 r2 r3 HS HLT HCT
  go_wp2_with (go_at_call 11; (with_reducible refine (H5.out _ (HB3'.out.thru HQ9.out)).mono ?_); rintro e w6 ⟨rfl, hb6⟩; have HB7 := Lib.hid hb6; clear hb6)
  have HB6 : Hid (Below w3.heap.size w3 w6) := Lib.hid (HQ9.out.thru HB7.out)
  go_loopg [10, 11, 60] n (fun gg s10 s11 s60 wr => ∃ (kk : Nat), kk ≤ n ∧ n - kk ≤ gg ∧ s60 = .int .i64 kk ∧ Aside (Below w6.heap.size w6 wr))
  case atStart => exact ⟨0, Nat.zero_le _, by omega, rfl, Below.refl _ _⟩
  case round =>
    obtain ⟨wi, rfl⟩ : ∃ wi : World, wi = wr := ⟨_, rfl⟩
    obtain ⟨kk, hkk, hg, rfl, BW⟩ := hrel
    have HB3i : Hid (Below w3.heap.size w3 wi) := Lib.hid (HB6.out.thru BW.out)
    by_cases hlt2 : kk < n
    · have hltz : (kk : Int) < (n : Int) := by omega
      obtain ⟨y, hyk⟩ : ∃ y, y = Y.G kk := ⟨_, rfl⟩
      obtain ⟨x, hxk⟩ : ∃ x, x = X.G kk := ⟨_, rfl⟩
      have hye : Y.go[kk]? = some y := by have := HYL.out; rw [hyk]; unfold Xd.G; rw [getD_at (List.getElem?_eq_getElem (by omega : kk < Y.go.length))]; exact List.getElem?_eq_getElem _
      have hxe : X.go[kk]? = some x := by rw [hxk]; unfold Xd.G; rw [getD_at (List.getElem?_eq_getElem (by omega : kk < X.go.length))]; exact List.getElem?_eq_getElem _
      have heq := HEQ.out kk hlt2
      rw [← hyk, ← hxk] at heq
      obtain ⟨b, off, rfl, hc⟩ := HEL.out kk x hxe
      obtain ⟨b2, off2, rfl, hc2⟩ := HEL2.out kk y hye
      have hlb := World.block_lt_of_cell? w3 _ (hc 0 _ rfl)
      have hlb2 := World.block_lt_of_cell? w' _ (hc2 0 _ rfl)
      have HB2i : Hid (Below w'.heap.size w' wi) := Lib.hid (HB7.out.thru BW.out)
      have c0 : wi.cell? ⟨b, off + kk * 5, none⟩ = some (.int .i64 x.ti) := by have h := (HB3i.out.cell (p := ⟨b, off + kk * 5 + 0, none⟩) hlb).trans (hc 0 _ rfl); simpa using h
      have c1 : wi.cell? ⟨b, off + kk * 5 + 1, none⟩ = some (.int .i64 x.ve) := (HB3i.out.cell (p := ⟨b, off + kk * 5 + 1, none⟩) hlb).trans (hc 1 _ rfl)
      have c2 : wi.cell? ⟨b, off + kk * 5 + 2, none⟩ = some (.int .i64 x.bo) := (HB3i.out.cell (p := ⟨b, off + kk * 5 + 2, none⟩) hlb).trans (hc 2 _ rfl)
      have c3 : wi.cell? ⟨b, off + kk * 5 + 3, none⟩ = some (.string x.fr) := (HB3i.out.cell (p := ⟨b, off + kk * 5 + 3, none⟩) hlb).trans (hc 3 _ rfl)
      have c4 : wi.cell? ⟨b, off + kk * 5 + 4, none⟩ = some (.int .i64 x.ho) := (HB3i.out.cell (p := ⟨b, off + kk * 5 + 4, none⟩) hlb).trans (hc 4 _ rfl)
      have e0 : wi.cell? ⟨b2, off2 + kk * 5, none⟩ = some (.int .i64 y.ti) := by have h := (HB2i.out.cell (p := ⟨b2, off2 + kk * 5 + 0, none⟩) hlb2).trans (hc2 0 _ rfl); simpa using h
      have e1 : wi.cell? ⟨b2, off2 + kk * 5 + 1, none⟩ = some (.int .i64 y.ve) := (HB2i.out.cell (p := ⟨b2, off2 + kk * 5 + 1, none⟩) hlb2).trans (hc2 1 _ rfl)
      have e2 : wi.cell? ⟨b2, off2 + kk * 5 + 2, none⟩ = some (.int .i64 y.bo) := (HB2i.out.cell (p := ⟨b2, off2 + kk * 5 + 2, none⟩) hlb2).trans (hc2 2 _ rfl)
      have e3 : wi.cell? ⟨b2, off2 + kk * 5 + 3, none⟩ = some (.string y.fr) := (HB2i.out.cell (p := ⟨b2, off2 + kk * 5 + 3, none⟩) hlb2).trans (hc2 3 _ rfl)
      have e4 : wi.cell? ⟨b2, off2 + kk * 5 + 4, none⟩ = some (.int .i64 y.ho) := (HB2i.out.cell (p := ⟨b2, off2 + kk * 5 + 4, none⟩) hlb2).trans (hc2 4 _ rfl)
      obtain ⟨wq, hwq⟩ : ∃ wq, wq = wi.alloc (.cells #[.int .i64 y.ti, .int .i64 y.ve, .int .i64 y.bo, .string y.fr, .int .i64 y.ho] 35) := ⟨_, rfl⟩
      have hbq : Below wi.heap.size wi wq := by rw [hwq]; exact (Below.refl _ wi).alloc (Nat.le_refl _) _
      obtain ⟨N, hN⟩ : ∃ N, N = wi.heap.size := ⟨_, rfl⟩
      have hnq : wq.heap[N]? = some (.cells #[.int .i64 y.ti, .int .i64 y.ve, .int .i64 y.bo, .string y.fr, .int .i64 y.ho] 35 (0, 0)) := by rw [hN, hwq]; exact block_new wi _
      have y0 : wq.cell? ⟨N, 0, none⟩ = some (.int .i64 y.ti) := cellF hnq 0 rfl
      have y1 : wq.cell? ⟨N, 1, none⟩ = some (.int .i64 y.ve) := cellF hnq 1 rfl
      have y2 : wq.cell? ⟨N, 2, none⟩ = some (.int .i64 y.bo) := cellF hnq 2 rfl
      have y3 : wq.cell? ⟨N, 3, none⟩ = some (.string y.fr) := cellF hnq 3 rfl
      have y4 : wq.cell? ⟨N, 4, none⟩ = some (.int .i64 y.ho) := cellF hnq 4 rfl
      have hbi : b < wi.heap.size := Nat.lt_of_lt_of_le hlb HB3i.out.size
      have d0 : wq.cell? ⟨b, off + kk * 5, none⟩ = some (.int .i64 x.ti) := (hbq.cell (p := ⟨b, off + kk * 5, none⟩) hbi).trans c0
      have d1 : wq.cell? ⟨b, off + kk * 5 + 1, none⟩ = some (.int .i64 x.ve) := (hbq.cell (p := ⟨b, off + kk * 5 + 1, none⟩) hbi).trans c1
      have d2 : wq.cell? ⟨b, off + kk * 5 + 2, none⟩ = some (.int .i64 x.bo) := (hbq.cell (p := ⟨b, off + kk * 5 + 2, none⟩) hbi).trans c2
      have d3 : wq.cell? ⟨b, off + kk * 5 + 3, none⟩ = some (.string x.fr) := (hbq.cell (p := ⟨b, off + kk * 5 + 3, none⟩) hbi).trans c3
      have d4 : wq.cell? ⟨b, off + kk * 5 + 4, none⟩ = some (.int .i64 x.ho) := (hbq.cell (p := ⟨b, off + kk * 5 + 4, none⟩) hbi).trans c4
      have HWQ := Lib.hid hwq
      have HN := Lib.hid hN
      have HBQ := Lib.hid (BW.out.trans (hbq.mono BW.out.size))
      have HNQ : Hid (n < L.length → ∃ (l : Gt) (b' off' : Nat), lo = some ⟨b', off', none⟩ ∧ L.getD n default = l ∧ wq.cell? ⟨b', off' + n * 3, none⟩ = some (.int .i64 l.ti)) := Lib.hid fun hn => by
        obtain ⟨l, hl⟩ : ∃ l, L[n]? = some l := ⟨_, List.getElem?_eq_getElem hn⟩
        obtain ⟨b', off', e, hcl⟩ := HLL.out n l hl
        have hb' := World.block_lt_of_cell? w2 _ (hcl 0 _ rfl)
        refine ⟨l, b', off', e, getD_at hl, ?_⟩
        have h := (((HB3.out.thru HB3i.out).thru hbq).cell (p := ⟨b', off' + n * 3 + 0, none⟩) hb').trans (hcl 0 _ rfl)
        simpa using h
      clear hwq hN hnq hbq hc hc2 hyk hxk hye hxe
      by_cases hn : n < L.length
      · obtain ⟨l, b', off', rfl, hld, l0⟩ := HNQ.out hn
        rw [hld] at heq
        have hnn : ((n : Int) == (L.length : Int)) = false := by rw [beq_eq_false_iff_ne]; omega
        have hnz : (n : Int) < (L.length : Int) := by omega
        by_cases htt : y.ti < l.ti
        · obtain rfl : x = y := heq (.inr htt)
          have hg := guardGn
          have hne := fun w => neqSameGn x w
          clear heq hld
          go_upto_region 11 with (fail)
          rw [← HWQ.out, ← HN.out]
          go_quiet (fail)
          go_upto_region 12 with (fail)
          go_quiet (fail)
          go_wp2_with fail
          go_roundg (n - (kk + 1))
          case measure => omega
          case rel => exact ⟨kk + 1, by omega, by omega, by go_num, below_drewN HBQ.out _⟩
        · clear heq hld
          go_upto_region 11 with (fail)
          rw [← HWQ.out, ← HN.out]
          go_quiet (fail)
          go_wp2_with fail
          go_roundg (n - (kk + 1))
          case measure => omega
          case rel => exact ⟨kk + 1, by omega, by omega, by go_num, below_drewN HBQ.out _⟩
      · have hne' : n = L.length := by omega
        obtain rfl : x = y := heq (.inl hne')
        have hnn : ((n : Int) == (L.length : Int)) = true := by rw [hne']; exact beq_self_eq_true _
        have hg := guardGn
        have hne := fun w => neqSameGn x w
        clear heq hne'
        go_upto_region 11 with (fail)
        rw [← HWQ.out, ← HN.out]
        go_quiet (fail)
        go_upto_region 12 with (fail)
        go_quiet (fail)
        go_wp2_with fail
        go_roundg (n - (kk + 1))
        case measure => omega
        case rel => exact ⟨kk + 1, by omega, by omega, by go_num, below_drewN HBQ.out _⟩
    · obtain rfl : kk = n := by omega
      have hltz : ¬ (kk : Int) < (kk : Int) := by omega
      go_wp2_with fail
      go_ret
      exact ⟨rfl, (HB2.out.thru HB3.out).thru HB3i.out⟩
end Go.Proofs.YtgohddfnhofjhaaGreatDoor

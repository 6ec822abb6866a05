/- The law: Loads and Oldest are as specified. -/
import Derived.Test.YtgohddfnhofjhaaGreatDoorC21
import Derived.Laws.StructEq
import Derived.Test.YtgohddfnhofjhaaGreatDoorC30
import Derived.Test.YtgohddfnhofjhaaGreatDoorC31
namespace Go.Proofs.YtgohddfnhofjhaaGreatDoor
open Go.RowKit
theorem stoodLd : Tryz.prog.stoodInHeld 50 = false := by kernel_rfl
theorem guardLd : Tryz.prog.eqGuardType Tryz.prog.depth 50 = false := by kernel_rfl
theorem neqSameLd (x : Ldd) (w : World) : (binOp .neq 50 (.agg #[.int .i64 x.ca, .int .i64 x.fr, .int .i64 x.sl, .int .i64 x.wt, .int .i64 x.ak, .int .i64 x.bs]) (.agg #[.int .i64 x.ca, .int .i64 x.fr, .int .i64 x.sl, .int .i64 x.wt, .int .i64 x.ak, .int .i64 x.bs])).run Tryz.prog w = .ok (.bool false) w := by
 have h1 := stoodLd
 simp [go_sem, h1]
set_option maxHeartbeats 1000000 in
theorem equalSameLd (w : World) (l : List Ldd) (v u : Value) (hl : Sl w 6 encD v l) (hm : Sl w 6 encD u l) :
 Calls Tryz.prog 22 #[v, u] w fun e w' => e = .returned (.bool true) ∧ Below w.heap.size w w' := by
 obtain ⟨ao, cap, rfl, hcap, hmax, hnil, hel⟩ := hl
 obtain ⟨bo, bap, rfl, hbap, hbax, hbil, hem⟩ := hm
 unfold maxLen at hmax hbax
 go_enter Tryz.func22, Tryz.ntmps22
 go_wp2
 go_loopg [5, 13] l.length (fun gg _ s13 wr => ∃ kk : Nat, kk ≤ l.length ∧ l.length - kk ≤ gg ∧ s13 = .int .i64 kk ∧ (∃ n, wr = w.drewN n))
 case atStart => exact ⟨0, Nat.zero_le _, by omega, rfl, ⟨0, rfl⟩⟩
 case round =>
  obtain ⟨kk, hkk, hg, rfl, ⟨n, rfl⟩⟩ := hrel
  by_cases hlt : kk < l.length
  ·have hltz : (kk : Int) < (l.length : Int) := by omega
   obtain ⟨x, hx⟩ : ∃ x, l[kk]? = some x := ⟨l[kk], by simp [hlt]⟩
   obtain ⟨b, off, rfl, hc⟩ := hel kk x hx
   obtain ⟨b', off', rfl, hd⟩ := hem kk x hx
   have c0 : w.cell? ⟨b, off + kk * 6, none⟩ = _ := hc 0 _ rfl
   have d0 : w.cell? ⟨b', off' + kk * 6, none⟩ = _ := hd 0 _ rfl
   have c1 := hc 1 _ rfl
   have c2 := hc 2 _ rfl
   have c3 := hc 3 _ rfl
   have c4 := hc 4 _ rfl
   have c5 := hc 5 _ rfl
   have d1 := hd 1 _ rfl
   have d2 := hd 2 _ rfl
   have d3 := hd 3 _ rfl
   have d4 := hd 4 _ rfl
   have d5 := hd 5 _ rfl
   have hg := guardLd
   have hne := fun w => neqSameLd x w
   clear hx hc hd hel hem
   go_upto_region 6 with (fail)
   go_quiet (fail)
   go_wp2
   go_roundg (l.length - (kk + 1))
   case measure => omega
   case rel => exact ⟨kk + 1, by omega, by omega, by go_num, ⟨_, rfl⟩⟩
  ·have hltz : ¬ (kk : Int) < (l.length : Int) := by omega
   clear hel hem
   go_wp2
   go_ret
   exact ⟨rfl, below_drewN (Below.refl _ _) _⟩
set_option maxRecDepth 100000 in
set_option maxHeartbeats 4000000 in
theorem loadsMatch_any (w : World) (C : List Cch) (R : List Crl) (E : List Rel) (P : List Pur) (L : List Gt) (vc vr ve vp vl : Value) (h : InS w C R E P L vc vr ve vp vl) (hw : WfS C R E P L) (m : Int) (hm : w.cell? ⟨0, 0, none⟩ = some (.int .i64 m)) :
 Calls Tryz.prog 7 #[.agg #[vc, vr, ve, vp], vl] w fun e' w' => e' = .returned (.bool true) ∧ Below w.heap.size w w' := by
 have h0 := World.block_lt_of_cell? w _ hm
 obtain ⟨w2, hw2⟩ : ∃ w2, w2 = w.alloc (.cells #[vc, vr, ve, vp] 27) := ⟨_, rfl⟩
 have hb2 : Below w.heap.size w w2 := by rw [hw2]; exact (Below.refl _ w).alloc (Nat.le_refl _) _
 have hnb : w2.heap[w.heap.size]? = some (.cells #[vc, vr, ve, vp] 27 (0, 0)) := by rw [hw2]; exact block_new w _
 have hlt : w.heap.size < w2.heap.size := (Array.getElem?_eq_some_iff.1 hnb).1
 have h2 := h.below hb2
 have H1 := Lib.hid (Loads_any w2 C R E P L vc vr ve vp vl h2 hw)
 have H2 := Lib.hid (fun (W : World) (hW : Below w2.heap.size w2 W) => LoadsR_any W C R E P L vc vr ve vp vl (h2.below hW) hw)
 have H3 := Lib.hid (fun (W : World) (hW : Below w2.heap.size w2 W) => Oldest_any W C R E P L vc vr ve vp vl (h2.below hW) hw)
 have H4 := Lib.hid (fun (W : World) (hW : Below w2.heap.size w2 W) => OldestR_any W C R E P L vc vr ve vp vl (h2.below hW) hw)
 have H5 := Lib.hid (fun (W : World) (hW : Below w.heap.size w W) => awakeE_any W m ((hW.cell (p := ⟨0, 0, none⟩) h0).trans hm))
 have HQ : Hid (∀ W : World, Below w2.heap.size w2 W → W.cell? ⟨w.heap.size, 0, none⟩ = some vc ∧ W.cell? ⟨w.heap.size, 1, none⟩ = some vr ∧ W.cell? ⟨w.heap.size, 2, none⟩ = some ve ∧ W.cell? ⟨w.heap.size, 3, none⟩ = some vp) := Lib.hid fun W hW => by
  have h1 := (hW.block _ hlt).trans hnb
  exact ⟨cellF h1 0 rfl, cellF h1 1 rfl, cellF h1 2 rfl, cellF h1 3 rfl⟩
 obtain ⟨q0, q1, q2, q3⟩ := HQ.out w2 (Below.refl _ _)
 have HW2 := Lib.hid hw2
 have HB2 := Lib.hid hb2
 clear h h2 hw hm hw2 hb2 hnb hlt
 generalize oldB C R E P L = ob at H3 H4
 generalize checkS C R E P L = S at H1 H2 H3 H4 ⊢
 go_enter Tryz.func7, Tryz.ntmps7
 go_upto_region 1 with (fail)
 rw [← HW2.out]
 go_upto_region 2 with (go_at_call 17; (with_reducible refine H1.out.mono ?_); rintro e w3 ⟨⟨v, rfl, l, hs, hl1, hl2⟩, hb3⟩; have HS := Lib.hid hs; have HB3 := Lib.hid hb3; have HL1 := Lib.hid hl1; have HL2 := Lib.hid hl2; obtain ⟨r0, r1, r2, r3⟩ := HQ.out w3 hb3; clear hs hb3 hl1 hl2 q0 q1 q2 q3)
 have H2' := Lib.hid (H2.out w3 HB3.out)
 go_upto_region 3 with (go_at_call 21; (with_reducible refine H2'.out.mono ?_); rintro e w4 ⟨⟨u, rfl, l', hs, hl1, hl2⟩, hb4⟩; have HT := Lib.hid hs; have HB4 := Lib.hid hb4; have HM1 := Lib.hid hl1; have HM2 := Lib.hid hl2; clear hs hb4 hl1 hl2 r0 r1 r2 r3)
 have hll : l = l' := by
  by_cases hS : S = 0
  ·obtain ⟨X, hX, rfl⟩ := HL2.out hS
   obtain ⟨X', hX', rfl⟩ := HM2.out hS
   rw [hX.uniq hX']
  ·rw [HL1.out hS, HM1.out hS]
 subst hll
 have HEQ := Lib.hid (equalSameLd w4 l v u (HS.out.below HB4.out (Nat.le_refl _)) HT.out)
 have HBQ4 := Lib.hid (HB3.out.thru HB4.out)
 clear H1 H2 H2' HL1 HL2 HM1 HM2 HS HT
 go_upto_region 5 with (go_at_call 22; (with_reducible refine HEQ.out.mono ?_); rintro e w5 ⟨rfl, hb5⟩; have HB5 := Lib.hid (HBQ4.out.thru hb5); clear hb5)
 obtain ⟨r0, r1, r2, r3⟩ := HQ.out w5 HB5.out
 have H3' := Lib.hid (H3.out w5 HB5.out)
 go_upto_region 6 with (go_at_call 23; (with_reducible refine H3'.out.mono ?_); rintro e w6 ⟨⟨n, rfl, hn1, hn2⟩, hb6⟩; have HB6 := Lib.hid (HB5.out.thru hb6); have HN1 := Lib.hid hn1; have HN2 := Lib.hid hn2; clear hb6 hn1 hn2 r0 r1 r2 r3)
 obtain ⟨r0, r1, r2, r3⟩ := HQ.out w6 HB6.out
 have H4' := Lib.hid (H4.out w6 HB6.out)
 go_upto_region 7 with (go_at_call 24; (with_reducible refine H4'.out.mono ?_); rintro e w7 ⟨⟨n', rfl, hn1, hn2⟩, hb7⟩; have HB7 := Lib.hid (HB6.out.thru hb7); have HK1 := Lib.hid hn1; have HK2 := Lib.hid hn2; clear hb7 hn1 hn2 r0 r1 r2 r3)
 have hnn : n = n' := by
  by_cases hS : S = 0
  ·obtain ⟨X, hX, rfl⟩ := HN2.out hS
   obtain ⟨X', hX', rfl⟩ := HK2.out hS
   rw [hX.uniq hX']
  ·rw [HN1.out hS, HK1.out hS]
 subst hnn
 have HB7' := Lib.hid (HB2.out.thru HB7.out)
 have H6 := Lib.hid (H5.out w7 HB7'.out)
 clear H3 H4 H3' H4' HN1 HN2 HK1 HK2
 go_wp2_with (first
  | (go_at_call 11; (with_reducible refine H6.out.mono ?_); rintro e w8 ⟨rfl, hb8⟩; have HB8 := Lib.hid (HB7'.out.thru hb8); clear hb8)
  | fail)
 go_ret
 exact ⟨rfl, HB8.out⟩
end Go.Proofs.YtgohddfnhofjhaaGreatDoor

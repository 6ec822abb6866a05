/- choose and Best of the program. -/
import Derived.Test.YtfkmdojnkdoffaaBstW
import Derived.Deep.RegionHeld3
namespace Go.Proofs.Ytfkmdojnkdoffaa
open Go.RowKit

/-- A slice that reads as the best choice, and what it is worth. -/
def ChoP (w : World) (n m : Nat) (f : List Int → Int) : Ending → World → Prop := fun e w' => ∃ v B, e = .returned (.tuple #[v, .int .i64 (f B)]) ∧ Sl w' 1 encI v B ∧ Below w.heap.size w w' ∧ bestW f n m B
theorem ChoP.mk {w w' : World} {n m : Nat} {f : List Int → Int} {v : Value} {B : List Int} (hs : Sl w' 1 encI v B) (hb : Below w.heap.size w w') (h : bestW f n m B) : ChoP w n m f (.returned (.tuple #[v, .int .i64 (f B)])) w' := ⟨v, B, rfl, hs, hb, h⟩

set_option maxRecDepth 100000 in
set_option maxHeartbeats 4000000 in
theorem choose_any (w : World) (n m p q : Nat) (hn : n ≤ 100) (hm : m ≤ 100) (f : List Int → Int) (hf : f [] = 0)
    (hval : ∀ (W : World) (v : Value) (L : List Int), Below w.heap.size w W → Sl W 1 encI v L → okW n m L → Calls Try.prog 22 #[v, .pointer (some ⟨p, 0, none⟩), .pointer (some ⟨q, 0, none⟩)] W fun e w' => e = .returned (.int .i64 (f L)) ∧ Below W.heap.size W w') :
    Calls Try.prog 21 #[.int .i64 n, .int .i64 m, fnV p q] w (ChoP w n m f) := by
  have hbA : Below w.heap.size w (w.alloc (.cells #[.int .i64 n, .int .i64 m, fnV p q, .slice none 0 0, .int .i64 0] 72)) := (Below.refl _ _).alloc (Nat.le_refl _) _
  have HFR := Lib.hid (fromW_any w n m p q hn hm f w.heap.size (Nat.le_refl _) hval (n + 1) 0 _ (.slice none 0 0) [] [] (by omega) (by omega) hbA
    ⟨_, by rw [hf]; exact block_new w _, Sl.nil, .nil _⟩ Sl.nil (.nil _) (okW_nil n m) (fun j hj => by simp at hj) (okW_nil n m))
  have HBA := Lib.hid hbA
  clear hval hbA hf
  go_enter Try.func21, Try.ntmps21
  go_wp2_with fail
  refine HFR.out.mono ?_
  rintro e w2 ⟨B, rfl, hC, hB, hU, hV, hO⟩
  obtain ⟨vb, hk, hs, _⟩ := hC
  obtain ⟨bo, bL, bcap, rfl⟩ : ∃ ao L cap, vb = .slice ao L cap := by obtain ⟨ao, cap, rfl, _⟩ := hs; exact ⟨_, _, _, rfl⟩
  have g3 := (cell_of_block (i := 3) hk).trans rfl
  have g4 := (cell_of_block (i := 4) hk).trans rfl
  have hlt := lt_of_blk hk
  have HS := Lib.hid hs
  have HBST := Lib.hid (hV.best hB)
  have HB3 : Hid (Below w.heap.size w w2) := Lib.hid (HBA.out.trans (hO.toBelow (by simp) (Nat.le_refl _)))
  clear hs hk hV hB hU hO
  go_wp2_with fail
  go_quiet (fail)
  go_wp2
  go_ret2
  exact ChoP.mk HS.out (below_drewN HB3.out _) HBST.out

def bestFa (l : List Rng) (c : List Vw) (m : Int) : Int := if checkRV l c ≠ 0 then checkRV l c else if outB m 0 100 = true then 1 else if 14 < l.length then 2 else 0
/-- The best choice, what it is worth, and the fault. -/
def BsP (w : World) (l : List Rng) (c : List Vw) (m : Int) : Ending → World → Prop := fun e w' => ∃ v B z, e = .returned (.tuple #[v, .int .i64 z, .int .i64 (bestFa l c m)]) ∧ Sl w' 1 encI v B ∧ Below w.heap.size w w' ∧
  (bestFa l c m = 0 → bestW (wOf l c) l.length m.toNat B ∧ z = wOf l c B) ∧ (bestFa l c m ≠ 0 → B = [] ∧ z = 0)
theorem BsP.bad {w w' : World} {l : List Rng} {c : List Vw} {m F : Int} (hF : F = bestFa l c m) (h0 : F ≠ 0) (hb : Below w.heap.size w w') : BsP w l c m (.returned (.tuple #[.slice none 0 0, .int .i64 0, .int .i64 F])) w' :=
  ⟨_, [], 0, by rw [hF], Sl.nil, hb, fun h => absurd h (by rw [← hF]; exact h0), fun _ => ⟨rfl, rfl⟩⟩
theorem BsP.good {w w' : World} {l : List Rng} {c : List Vw} {m F z : Int} {v : Value} {B : List Int} (hF : F = bestFa l c m) (h0 : F = 0) (hs : Sl w' 1 encI v B) (hb : Below w.heap.size w w') (hB : bestW (wOf l c) l.length m.toNat B) (hz : z = wOf l c B) : BsP w l c m (.returned (.tuple #[v, .int .i64 z, .int .i64 F])) w' :=
  ⟨v, B, z, by rw [hF], hs, hb, fun _ => ⟨hB, hz⟩, fun h => absurd (hF.symm.trans h0) h⟩
theorem wtA_nil (l : List Rng) (hl : l = []) (c : List Vw) : ∀ k, wtA l c k = 0
  | 0 => rfl
  | k + 1 => by
    subst hl
    unfold wtA
    rw [wtA_nil [] rfl c k]
    simp [wt1, takesR, tkA]
theorem wOf_nil (l : List Rng) (c : List Vw) : wOf l c [] = 0 := wtA_nil _ rfl c _

set_option maxRecDepth 100000 in
set_option maxHeartbeats 4000000 in
theorem Best_any (w : World) (l : List Rng) (u : Value) (c : List Vw) (v : Value) (m : Int) (hl : Sl w 4 encR u l) (hw : ∀ x, x ∈ l → WfR x) (hc : Sl w 3 encV v c) :
    Calls Try.prog 6 #[u, v, .int .i64 m] w (BsP w l c m) := by
  have B0 : Below w.heap.size w (w.alloc (.cells #[u] 22)) := (Below.refl _ _).alloc (Nat.le_refl _) _
  have K0 := block_new w (.cells #[u] 22)
  have hsz : (w.alloc (.cells #[u] 22)).heap.size = w.heap.size + 1 := by simp
  have K1 := block_new (w.alloc (.cells #[u] 22)) (.cells #[v] 23)
  rw [hsz] at K1
  obtain ⟨w2, hw2⟩ : ∃ w2, w2 = (w.alloc (.cells #[u] 22)).alloc (.cells #[v] 23) := ⟨_, rfl⟩
  have HB2 : Hid (Below w.heap.size w w2) := Lib.hid (by rw [hw2]; exact B0.alloc (by simp) _)
  have HK0 : Hid (w2.heap[w.heap.size]? = some (.cells #[u] 22 (0, 0))) := Lib.hid (by rw [hw2, Below.heap_alloc _ _ _ (by simp)]; exact K0)
  have HK1 : Hid (w2.heap[w.heap.size + 1]? = some (.cells #[v] 23 (0, 0))) := Lib.hid (by rw [hw2]; exact K1)
  have HW2 := Lib.hid hw2
  have HL := Lib.hid (hl.below HB2.out (Nat.le_refl _))
  have HC := Lib.hid (hc.below HB2.out (Nat.le_refl _))
  have t1 := Lib.hid (fun (W : World) (hb : Below w2.heap.size w2 W) => checkRen_any W l u (HL.out.below hb (Nat.le_refl _)) hw)
  have t2 := Lib.hid (fun (W : World) (hb : Below w2.heap.size w2 W) => checkCrowd_any W c v (HC.out.below hb (Nat.le_refl _)))
  have HN := Lib.hid (fun (w2 : World) => first_any (w2.alloc (.cells #[.int .i64 (checkR l), .int .i64 (checkV c)] 25)) [checkR l, checkV c] _ (Sl.fresh (enc := encI) (k := 1) (fun _ => rfl) w2 25 _ [checkR l, checkV c] (by simp [maxLen])))
  rw [firstF_two] at HN
  have HF : Hid (bestFa l c m = if checkRV l c ≠ 0 then checkRV l c else if outB m 0 100 = true then 1 else if 14 < l.length then 2 else 0) := Lib.hid rfl
  have HZ := Lib.hid (fun (h : checkRV l c = 0) => And.intro (checkR_zero (checkRV_zero h).1) (checkV_zero (checkRV_zero h).2))
  obtain ⟨r, hr⟩ : ∃ r, r = checkRV l c := ⟨_, rfl⟩
  rw [← hr] at HN HF HZ
  generalize checkR l = r1 at t1 HN
  generalize checkV c = r2 at t2 HN
  have HLw := Lib.hid hl
  have HCw := Lib.hid hc
  obtain ⟨uo, ucap, rfl, huc, hum, _, _⟩ := hl
  obtain ⟨vo, vcap, rfl, _, _, _, _⟩ := hc
  unfold maxLen at hum
  have hl0 := lt_of_blk HK0.out
  have hl1 := lt_of_blk HK1.out
  have HSS : Hid (∀ W : World, Below w2.heap.size w2 W → (W.cell? ⟨w.heap.size, 0, none⟩ = some (.slice uo l.length ucap) ∧ W.cell? ⟨w.heap.size + 1, 0, none⟩ = some (.slice vo c.length vcap))) := Lib.hid (fun W hb =>
    ⟨(hb.cell (p := ⟨w.heap.size, 0, none⟩) hl0).trans ((cell_of_block (i := 0) HK0.out).trans rfl), (hb.cell (p := ⟨w.heap.size + 1, 0, none⟩) hl1).trans ((cell_of_block (i := 0) HK1.out).trans rfl)⟩)
  clear hr hw2 B0 K0 K1 hsz hw
  go_enter Try.func6, Try.ntmps6
  go_upto_region 1 with (fail)
  rw [← HW2.out]
  have hbc : Below w2.heap.size w2 w2.drew := (Below.refl _ w2).drew
  go_cut [9] (fun s9 wc => s9 = .int .i64 r ∧ Aside (Below w2.heap.size w2 wc))
  case first =>
    go_region_held3 (fun W => W.cell? ⟨w.heap.size, 0, none⟩ = some (.slice uo l.length ucap) ∧ W.cell? ⟨w.heap.size + 1, 0, none⟩ = some (.slice vo c.length vcap))
      (first | exact HSS.out _ hbc | exact HSS.out _ (hbc.alloc hbc.size _) | fail "keep")
      (first | (go_at_call 18; ((with_reducible refine (t1.out _ hbc).mono ?_); rintro e w' ⟨rfl, hb⟩; replace hbc := hbc.thru hb; clear hb))
             | (go_at_call 19; ((with_reducible refine (t2.out _ hbc).mono ?_); rintro e w' ⟨rfl, hb⟩; replace hbc := hbc.thru hb; clear hb))
             | (go_at_call 17; (refine (HN.out _).mono ?_; rintro e w' ⟨rfl, rfl⟩; replace hbc := hbc.alloc hbc.size (.cells #[.int .i64 r1, .int .i64 r2] 25))) | fail "arms")
    all_goals
      go_wp2
      go_meet
      exact ⟨rfl, hbc⟩
  obtain ⟨rfl, HBq⟩ := hcut
  have hB3 := HBq.out
  clear HBq
  obtain ⟨w3, hw3⟩ : ∃ w3, w3 = wc := ⟨_, rfl⟩
  rw [← hw3] at hB3 ⊢
  have HB3 := Lib.hid hB3
  clear hw3 hB3 hbc
  cases e1 : (r != 0)
  case true =>
    have hr0 : r ≠ 0 := by simpa using e1
    have hv : Hid (r = bestFa l c m) := Lib.hid (by rw [HF.out, if_pos hr0])
    have HR0 := Lib.hid hr0
    clear hr0
    go_wp2
    go_ret3
    exact BsP.bad hv.out HR0.out (HB2.out.thru HB3.out)
  obtain rfl : r = 0 := by simpa using e1
  have HF2 : Hid (bestFa l c m = if outB m 0 100 = true then 1 else if 14 < l.length then 2 else 0) := Lib.hid (by rw [HF.out]; rfl)
  obtain ⟨⟨hln, _, hgood⟩, hlc, hvs⟩ := HZ.out rfl
  have HQU : Hid (∀ x, x ∈ l → 0 ≤ x.qu ∧ x.qu ≤ 1000000) := Lib.hid (fun x hx => (hgood x hx).2.2.2)
  have HVV : Hid (∀ v, v ∈ c → 1 ≤ v.we ∧ v.we ≤ 1000000) := Lib.hid (fun v hv => (hvs v hv).2.2)
  clear HF HZ hgood hvs e1
  cases o1 : outB m 0 100
  case true =>
    have hv : Hid (1 = bestFa l c m) := Lib.hid (by rw [HF2.out, o1]; rfl)
    go_wp2_with (go_at_call 20; refine (out_any _ _ _ _).mono ?_; rintro e w' ⟨rfl, rfl⟩)
    go_ret3
    exact BsP.bad hv.out (by decide) (HB2.out.thru HB3.out)
  have hm := outB_no o1
  have hc0 := (HSS.out _ HB3.out).1
  have hc1 := (HSS.out _ HB3.out).2
  have hl0' := Nat.lt_of_lt_of_le hl0 HB3.out.size
  have hl1' := Nat.lt_of_lt_of_le hl1 HB3.out.size
  by_cases h14 : 14 < l.length
  · have h14z : (14 : Int) < (l.length : Int) := by omega
    have hv : Hid (2 = bestFa l c m) := Lib.hid (by rw [HF2.out, o1, if_neg (by simp), if_pos h14])
    go_wp2_with (go_at_call 20; refine (out_any _ _ _ _).mono ?_; rintro e w' ⟨rfl, rfl⟩)
    go_ret3
    exact BsP.bad hv.out (by decide) (HB2.out.thru HB3.out)
  have h14z : ¬ (14 : Int) < (l.length : Int) := by omega
  have hv : Hid (0 = bestFa l c m) := Lib.hid (by rw [HF2.out, o1, if_neg (by simp), if_neg h14])
  obtain ⟨M, rfl⟩ := Int.eq_ofNat_of_zero_le hm.1
  have HCH := Lib.hid (choose_any w3 l.length M w.heap.size (w.heap.size + 1) (by omega) (by omega) (wOf l c) (wOf_nil l c) (fun W v L hb hs hok =>
    value_any l c L _ _ v W w.heap.size (w.heap.size + 1) ((HL.out.below HB3.out (Nat.le_refl _)).below hb (Nat.le_refl _)) ((HC.out.below HB3.out (Nat.le_refl _)).below hb (Nat.le_refl _)) hs hok.rng (by have := hok.cnt; omega)
      ((hb.block _ hl0').trans ((HB3.out.block _ hl0).trans HK0.out)) ((hb.block _ hl1').trans ((HB3.out.block _ hl1).trans HK1.out)) HQU.out HVV.out hlc))
  clear HF2 t1 t2 HN HQU HVV HSS h14
  go_wp2_with (first | (go_at_call 20; refine (out_any _ _ _ _).mono ?_; rintro e w' ⟨rfl, rfl⟩) | (go_at_call 21; refine HCH.out.mono ?_; rintro e w4 ⟨vb, B, rfl, hs, hb, hbst⟩; have HS4 := Lib.hid hs; have HB4 := Lib.hid hb; have HBS := Lib.hid hbst; clear hs hb hbst))
  go_ret3
  exact BsP.good hv.out rfl HS4.out ((HB2.out.thru HB3.out).thru HB4.out) HBS.out rfl
end Go.Proofs.Ytfkmdojnkdoffaa

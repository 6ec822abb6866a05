/- Steps of the program. -/
import Derived.Test.YtlomnfaedhgciaaStpD
import Derived.Test.YtlomnfaedhgciaaWrg
import Derived.Test.YtlomnfaedhgciaaTkIn
namespace Go.Proofs.Ytlomnfaedhgciaa
open Go.RowKit

/-- Is there a way? -/
def stpB (l : List Rng) (n d : Int) : Bool := if rmF l n d = 0 ∧ 0 < l.length ∧ lf (nrB l n d) l.length 0 < 1000 then true else false
def stpL (l : List Rng) (n d : Int) : List Int := if rmF l n d = 0 ∧ 0 < l.length ∧ lf (nrB l n d) l.length 0 < 1000 then pathL (nrB l n d) l.length (lf (nrB l n d) l.length 0) else []
/-- A slice that reads as l, a bool and a fault. -/
def SlP3 (w : World) (l : List Int) (b : Bool) (f : Int) : Ending → World → Prop :=
  fun e w' => ∃ v', e = .returned (.tuple #[v', .bool b, .int .i64 f]) ∧ Sl w' 1 encI v' l ∧ Below w.heap.size w w'
theorem SlP3.mk {w w' : World} {l : List Int} {f f' : Int} {b b' : Bool} {v' : Value} (hf : f' = f) (hb' : b = b') (hs : Sl w' 1 encI v' l) (hb : Below w.heap.size w w') :
    SlP3 w l b f (.returned (.tuple #[v', .bool b', .int .i64 f'])) w' := ⟨v', by rw [hf, hb'], hs, hb⟩

theorem two_made (w : World) (m : List Int) : Arr ((w.alloc (.cells (m.map (Value.int .i64)).toArray 3)).alloc (.cells (m.map (Value.int .i64)).toArray 3)) w.heap.size m ∧
    Arr ((w.alloc (.cells (m.map (Value.int .i64)).toArray 3)).alloc (.cells (m.map (Value.int .i64)).toArray 3)) (w.heap.size + 1) m := by
  refine ⟨(Arr.made w m).below ((Below.refl _ _).alloc (Nat.le_refl _) _), ?_⟩
  have h := Arr.made (w.alloc (.cells (m.map (Value.int .i64)).toArray 3)) m
  rwa [show (w.alloc (.cells (m.map (Value.int .i64)).toArray 3)).heap.size = w.heap.size + 1 by simp] at h

theorem zeros_eq (n : Nat) : ((List.replicate n (0 : Int)).map (Value.int .i64)).toArray = Array.replicate n (Value.int .i64 0) := by simp

/-- What the slot of a guard that may not have run holds. -/
def K75 (v : Value) : Prop := v = undef ∨ v = .bool true ∨ v = .bool false
/-- Both arrays, when numbers from i on are done. -/
def MS (nr : Nat → Nat → Bool) (N : Nat) (wb : World) (bm bn i : Nat) (w : World) : Prop :=
  ∃ mx nl : List Int, Arr w bm mx ∧ Arr w bn nl ∧ mx.length = N ∧ nl.length = N ∧ (∀ j, i ≤ j → j < N → mx[j]? = some (manyA (lf nr N j))) ∧ (∀ j, j < i → j < N → mx[j]? = some 0) ∧
    (∀ j, i ≤ j → j + 1 < N → lf nr N j < 1000 → nl[j]? = some ((nx nr N j : Nat) : Int)) ∧ Below wb.heap.size wb w
/-- Both arrays, when of number q those below m have been tried. -/
def MI (nr : Nat → Nat → Bool) (N : Nat) (wb : World) (bm bn q m : Nat) (w : World) : Prop :=
  ∃ mx nl : List Int, Arr w bm mx ∧ Arr w bn nl ∧ mx.length = N ∧ nl.length = N ∧ (∀ j, q < j → j < N → mx[j]? = some (manyA (lf nr N j))) ∧ (∀ j, j < q → j < N → mx[j]? = some 0) ∧
    mx[q]? = some (manyA (lfA nr (lf nr N) q m)) ∧ (lfA nr (lf nr N) q m < 1000 → nl[q]? = some ((nxA nr (lf nr N) q m : Nat) : Int)) ∧ (∀ j, q < j → j + 1 < N → lf nr N j < 1000 → nl[j]? = some ((nx nr N j : Nat) : Int)) ∧ Below wb.heap.size wb w
theorem MS.toMI {nr : Nat → Nat → Bool} {N : Nat} {wb w : World} {bm bn q : Nat} (h : MS nr N wb bm bn (q + 1) w) (hq : q < N) : MI nr N wb bm bn q (q + 1) w := by
  obtain ⟨mx, nl, h1, h2, h3, h4, h5, h6, h7, h8⟩ := h
  have e := lfA_init nr (lf nr N) q (q + 1) (Nat.le_refl _)
  refine ⟨mx, nl, h1, h2, h3, h4, fun j hj => h5 j (by omega), fun j hj => h6 j (by omega), ?_, fun h => by omega, fun j hj => h7 j (by omega), h8⟩
  rw [e]
  exact h6 q (by omega) hq
theorem MI.toMS {nr : Nat → Nat → Bool} {N : Nat} {wb w : World} {bm bn q : Nat} (h : MI nr N wb bm bn q N w) (hq : q + 1 < N) : MS nr N wb bm bn q w := by
  obtain ⟨mx, nl, h1, h2, h3, h4, h5, h6, h7, h8, h9, h10⟩ := h
  rw [← lf_eq hq] at h7 h8
  refine ⟨mx, nl, h1, h2, h3, h4, fun j hj hjN => ?_, h6, fun j hj hjN hl => ?_, h10⟩
  · by_cases e : j = q
    · subst e; exact h7
    · exact h5 j (by omega) hjN
  · by_cases e : j = q
    · subst e; exact h8 hl
    · exact h9 j (by omega) hjN hl
theorem MI.below {nr : Nat → Nat → Bool} {N : Nat} {wb w w' : World} {bm bn q m : Nat} (h : MI nr N wb bm bn q m w) (hb : Below w.heap.size w w') : MI nr N wb bm bn q m w' := by
  obtain ⟨mx, nl, h1, h2, h3, h4, h5, h6, h7, h8, h9, h10⟩ := h
  exact ⟨mx, nl, h1.below hb, h2.below hb, h3, h4, h5, h6, h7, h8, h9, h10.trans (hb.mono h10.size)⟩
theorem manyA_lt {a : Nat} (h : a < 1000) : manyA a = (a : Int) + 1 := by unfold manyA; rw [if_pos h]
theorem manyA_ge {a : Nat} (h : ¬ a < 1000) : manyA a = 0 := by unfold manyA; rw [if_neg h]
theorem MI.skip {nr : Nat → Nat → Bool} {N : Nat} {wb w w' : World} {bm bn q m : Nat} (h : MI nr N wb bm bn q m w) (hb : Below w.heap.size w w') (hno : ¬ (nr q m = true ∧ lf nr N m + 1 < lfA nr (lf nr N) q m)) : MI nr N wb bm bn q (m + 1) w' := by
  obtain ⟨mx, nl, h1, h2, h3, h4, h5, h6, h7, h8, h9, h10⟩ := h
  have e1 : lfA nr (lf nr N) q (m + 1) = lfA nr (lf nr N) q m := by
    show (if q < m ∧ nr q m = true then min (lfA nr (lf nr N) q m) (lf nr N m + 1) else lfA nr (lf nr N) q m) = _
    split
    · rename_i hc
      have : ¬ lf nr N m + 1 < lfA nr (lf nr N) q m := fun h => hno ⟨hc.2, h⟩
      omega
    · rfl
  have e2 : nxA nr (lf nr N) q (m + 1) = nxA nr (lf nr N) q m := by
    show (if q < m ∧ nr q m = true ∧ lf nr N m + 1 < lfA nr (lf nr N) q m then m else nxA nr (lf nr N) q m) = _
    rw [if_neg (fun h => hno h.2)]
  refine ⟨mx, nl, h1.below hb, h2.below hb, h3, h4, h5, h6, by rw [e1]; exact h7, by rw [e1, e2]; exact h8, h9, h10.trans (hb.mono h10.size)⟩
theorem MI.take {nr : Nat → Nat → Bool} {N : Nat} {wb w : World} {bm bn q m : Nat} (h : MI nr N wb bm bn q m w) (hqm : q < m) (hm : m < N) (hne : bm ≠ bn) (hbm : wb.heap.size ≤ bm) (hbn : wb.heap.size ≤ bn) (hyes : nr q m = true ∧ lf nr N m + 1 < lfA nr (lf nr N) q m) :
    MI nr N wb bm bn q (m + 1) ((w.setCell ⟨bm, q, none⟩ (.int .i64 ((lf nr N m : Int) + 1 + 1))).setCell ⟨bn, q, none⟩ (.int .i64 (m : Int))) := by
  obtain ⟨mx, nl, h1, h2, h3, h4, h5, h6, h7, h8, h9, h10⟩ := h
  have e1 : lfA nr (lf nr N) q (m + 1) = lf nr N m + 1 := by
    show (if q < m ∧ nr q m = true then min (lfA nr (lf nr N) q m) (lf nr N m + 1) else lfA nr (lf nr N) q m) = _
    rw [if_pos ⟨hqm, hyes.1⟩]; omega
  have e2 : nxA nr (lf nr N) q (m + 1) = m := by
    show (if q < m ∧ nr q m = true ∧ lf nr N m + 1 < lfA nr (lf nr N) q m then m else nxA nr (lf nr N) q m) = _
    rw [if_pos ⟨hqm, hyes⟩]
  have h11 := lfA_le nr (lf nr N) q m
  refine ⟨mx.set q ((lf nr N m : Int) + 1 + 1), nl.set q (m : Int), (h1.set q _).other hne q _, (h2.other (Ne.symm hne) q _).set q _, by simpa using h3, by simpa using h4, fun j hj hjN => ?_, fun j hj hjN => ?_, ?_, fun _ => ?_, fun j hj hjN hl => ?_, (h10.setCell hbm _).setCell hbn _⟩
  · rw [List.getElem?_set_ne (by omega)]; exact h5 j hj hjN
  · rw [List.getElem?_set_ne (by omega)]; exact h6 j hj hjN
  · rw [List.getElem?_set_self (by omega), e1]
    unfold manyA
    rw [if_pos (by omega)]
    simp
  · rw [List.getElem?_set_self (by omega), e2]
  · rw [List.getElem?_set_ne (by omega)]; exact h9 j hj hjN hl

set_option maxRecDepth 100000 in
set_option maxHeartbeats 4000000 in
theorem steps_any (w : World) (l : List Rng) (v : Value) (n d : Int) (hl : Sl w 4 encR v l) (hw : ∀ x, x ∈ l → WfR x) :
    Calls Try.prog 5 #[v, .agg #[.int .i64 n, .int .i64 d]] w (SlP3 w (stpL l n d) (stpB l n d) (rmF l n d)) := by
  have HR := Lib.hid (fun (W : World) (hb : Below w.heap.size w W) => checkRen_any W l v (hl.below hb (Nat.le_refl _)) hw)
  have HM := Lib.hid (fun (W : World) => mostFault_any n d W)
  have HN := Lib.hid (fun (w2 : World) => first_any (w2.alloc (.cells #[.int .i64 (checkR l), .int .i64 (mostF n d)] 26)) [checkR l, mostF n d] _ (Sl.fresh (enc := encI) (k := 1) (fun _ => rfl) w2 26 _ [checkR l, mostF n d] (by simp [maxLen])))
  have HF : Hid (rmF l n d = if checkR l ≠ 0 then checkR l else mostF n d) := Lib.hid rfl
  rw [firstF_pair] at HN
  have HZ := Lib.hid (fun (h : rmF l n d = 0) => rmF_zero h)
  have HL : Hid (rmF l n d ≠ 0 → stpB l n d = false ∧ stpL l n d = []) := Lib.hid (fun h => ⟨by unfold stpB; rw [if_neg (fun h2 => h h2.1)], by unfold stpL; rw [if_neg (fun h2 => h h2.1)]⟩)
  obtain ⟨F, hF⟩ : ∃ F, F = rmF l n d := ⟨_, rfl⟩
  rw [← hF] at HF HZ HL ⊢
  rw [← HF.out] at HN
  have HCK := Lib.hid (fun (h : checkR l = 0) => checkR_zero h)
  have HMK := Lib.hid (fun (h : mostF n d = 0) => mostF_zero h)
  have hFz : F = 0 → rmF l n d = 0 := fun h => by rw [← hF]; exact h
  generalize hr1 : checkR l = r1 at HR HN HZ HCK
  generalize hr2 : mostF n d = r2 at HM HN HZ HMK
  have HSL := Lib.hid hl
  have HK := Lib.hid (block_new w (.cells #[.int .i64 n, .int .i64 d] 24))
  have HB := Lib.hid ((Below.refl w.heap.size w).alloc (Nat.le_refl _) (.cells #[.int .i64 n, .int .i64 d] 24))
  obtain ⟨w1, hw1⟩ : ∃ w1, w1 = w.alloc (.cells #[.int .i64 n, .int .i64 d] 24) := ⟨_, rfl⟩
  rw [← hw1] at HK HB
  have hlt := lt_of_block HK.out
  have HSS : Hid (∀ W : World, Below w1.heap.size w1 W → (W.cell? ⟨w.heap.size, 0, none⟩ = some (.int .i64 n) ∧ W.cell? ⟨w.heap.size, 1, none⟩ = some (.int .i64 d))) := Lib.hid (fun W hb =>
    ⟨(hb.cell (p := ⟨w.heap.size, 0, none⟩) hlt).trans ((cell_of_block (i := 0) HK.out).trans rfl), (hb.cell (p := ⟨w.heap.size, 1, none⟩) hlt).trans ((cell_of_block (i := 1) HK.out).trans rfl)⟩)
  have HW1 := Lib.hid hw1
  have HRR := Lib.hid (fun (W : World) (hb : Below w1.heap.size w1 W) => HR.out W (HB.out.thru hb))
  obtain ⟨ao, cap, rfl, hcap, hmax, hnil, hel⟩ := hl
  unfold maxLen at hmax
  clear hw1 hF hw HR HF hel hr1 hr2
  go_enter Try.func5, Try.ntmps5
  go_upto_region 1 with (fail)
  rw [← HW1.out]
  go_cut [7, 75] (fun s7 s75 w4 => s7 = .int .i64 F ∧ Aside (Below w1.heap.size w1 w4) ∧ Aside (K75 s75))
  case first =>
    have hbc : Below w1.heap.size w1 w1.drew := (Below.refl _ w1).drew
    go_region_held3 (fun w' => w'.cell? ⟨w.heap.size, 0, none⟩ = some (.int .i64 n) ∧ w'.cell? ⟨w.heap.size, 1, none⟩ = some (.int .i64 d))
      (first | exact HSS.out _ hbc | exact HSS.out _ (hbc.alloc hbc.size _) | fail "keep")
      (first | (go_at_call 16; refine (HRR.out _ hbc).mono ?_; rintro e w' ⟨rfl, hb⟩; replace hbc := hbc.thru hb; clear hb)
             | (go_at_call 17; refine (HM.out _).mono ?_; rintro e w' ⟨rfl, hb⟩; replace hbc := hbc.thru hb; clear hb)
             | (go_at_call 15; refine (HN.out _).mono ?_; rintro e w4 ⟨rfl, rfl⟩) | fail "arms")
    all_goals
      go_wp2
      go_meet
      exact ⟨rfl, hbc.alloc hbc.size _, (show K75 _ from .inl rfl)⟩
  obtain ⟨rfl, BC, HK0⟩ := hcut
  cases e1 : (F != 0)
  case true =>
    have hne : F ≠ 0 := by simpa using e1
    have hv2 := Lib.hid (HL.out hne)
    clear hne
    go_wp2
    go_ret3
    exact SlP3.mk rfl hv2.out.1 (by rw [hv2.out.2]; exact Sl.nil) (HB.out.thru BC.out)
  obtain rfl : F = 0 := by simpa using e1
  have hFz := hFz rfl
  obtain ⟨hz1, hz2⟩ := HZ.out rfl
  have hc1 := HCK.out hz1
  have hc2 := HMK.out hz2
  obtain ⟨hlen, _, hrng⟩ := hc1
  obtain ⟨hn0, hd0, _⟩ := hc2
  have HRNG := Lib.hid (fun x hx => (hrng x hx).2.1)
  have HBC := Lib.hid (HB.out.thru BC.out)
  by_cases hN0 : l.length = 0
  · have hN0' : ((l.length : Int) == 0) = true := by simpa using hN0
    have hv2 : Hid (stpB l n d = false ∧ stpL l n d = []) := Lib.hid ⟨by unfold stpB; rw [if_neg (fun h2 => by omega)], by unfold stpL; rw [if_neg (fun h2 => by omega)]⟩
    clear hN0
    go_wp2
    go_ret3
    exact SlP3.mk rfl hv2.out.1 (by rw [hv2.out.2]; exact Sl.nil) HBC.out
  have hN0' : ((l.length : Int) == 0) = false := by simpa using hN0
  have hmk := make_ints l.length (by omega)
  have hSLc := HSL.out.below HBC.out (Nat.le_refl _)
  obtain ⟨_, _, he, _, _, _, hel⟩ := hSLc
  simp only [Value.slice.injEq, true_and] at he
  obtain ⟨rfl, rfl⟩ := he
  have HEL := Lib.hid hel
  have HRB := Lib.hid ((BC.out.block w.heap.size hlt).trans HK.out)
  have hrbl := lt_of_block HRB.out
  have HHZ : Hid (rmF l n d = 0) := Lib.hid hFz
  clear hel HRR HM HN HCK HMK HL HSS HW1 HK hlt hrng hz1 hz2 BC e1
  obtain ⟨wb, rfl⟩ : ∃ wb, wb = wc := ⟨_, rfl⟩
  go_upto_region 7 with (fail)
  go_cut [9, 10, 75] (fun s9 s10 s75 w4 => ∃ bm bn : Nat, s9 = .slice (some ⟨bm, 0, none⟩) l.length l.length ∧ s10 = .slice (some ⟨bn, 0, none⟩) l.length l.length ∧ Aside (bm ≠ bn) ∧ Aside (wb.heap.size ≤ bm) ∧ Aside (wb.heap.size ≤ bn) ∧ Aside (Arr w4 bm (List.replicate l.length 0)) ∧ Aside (Arr w4 bn (List.replicate l.length 0)) ∧ Aside (Below wb.heap.size wb w4) ∧ Aside (K75 s75))
  case first =>
    have hB2 := Lib.hid ((((Below.refl wb.heap.size wb).alloc (Nat.le_refl _) (.cells (Array.replicate l.length (Value.int .i64 0)) 3)).alloc (by simp) (.cells (Array.replicate l.length (Value.int .i64 0)) 3)).drew)
    have hM2 := Lib.hid (two_made wb (List.replicate l.length 0))
    rw [zeros_eq] at hM2
    go_region
    all_goals
      go_wp2
      go_meet
    · exact ⟨wb.heap.size, wb.heap.size + 1, rfl, rfl, (show _ ≠ _ by omega), (show _ ≤ _ by omega), (show _ ≤ _ by omega), hM2.out.1, hM2.out.2, hB2.out, HK0.out⟩
    · exact ⟨wb.heap.size + 1, wb.heap.size, rfl, rfl, (show _ ≠ _ by omega), (show _ ≤ _ by omega), (show _ ≤ _ by omega), hM2.out.2, hM2.out.1, hB2.out, HK0.out⟩
  obtain ⟨bm, bn, rfl, rfl, HNE, HBM, HBN, HA1, HA2, HBW, HK1⟩ := hcut
  obtain ⟨wd, rfl⟩ : ∃ wd, wd = wc := ⟨_, rfl⟩
  have HSC : Hid (MS (nrB l n d) l.length wb bm bn (l.length - 1) (wd.setCell ⟨bm, l.length - 1, none⟩ (.int .i64 1))) := Lib.hid (by
    refine ⟨(List.replicate l.length 0).set (l.length - 1) 1, List.replicate l.length 0, HA1.out.set _ _, HA2.out.other (Ne.symm HNE.out) _ _, by simp, by simp, fun j h1 h2 => ?_, fun j h1 h2 => ?_, fun j h1 h2 => by omega, HBW.out.setCell HBM.out _⟩
    · have e : j = l.length - 1 := by omega
      rw [lf_last (by omega), e, List.getElem?_set_self (by simp; omega)]
      rfl
    · rw [List.getElem?_set_ne (by omega)]; simp [h2])
  have a1 := HA1.out.cell (i := l.length - 1) (x := 0) (by rw [List.getElem?_replicate, if_pos (by omega)])
  have z1 := HA1.out.free (l.length - 1)
  have hlm := HA1.out.lt
  have hn1 : IntKind.i64.wrap ((l.length : Int) - 1) = (l.length : Int) - 1 := IntWalk.i64_in _ (by omega)
  have hn2 : ((l.length : Int) - 1).toNat = l.length - 1 := by omega
  have hn3 : (0 : Int) ≤ (l.length : Int) - 1 := by omega
  have hn4 : (l.length : Int) - 1 < (l.length : Int) := by omega
  have hn5 : (1 : Int) ≤ (l.length : Int) := by omega
  go_wp2
  clear a1 z1 hlm hn1 hn2 hn3 hn4
  have HSG := Lib.hid (fun W (hb : Below wb.heap.size wb W) => (HSL.out.below HBC.out (Nat.le_refl _)).below hb (Nat.le_refl _))
  go_loopg [11, 12, 75] l.length (fun gg s11 _ s75 wr => ∃ (i : Nat) (z : Int), i ≤ l.length - 1 ∧ i ≤ gg ∧ s11 = .int .i64 z ∧ -1 ≤ z ∧ z ≤ 100 ∧ Aside (z = (i : Int) - 1) ∧ Aside (MS (nrB l n d) l.length wb bm bn i wr) ∧ Aside (K75 s75))
  case atStart => exact ⟨l.length - 1, (l.length : Int) - 2, Nat.le_refl _, by omega, by go_num, by omega, by omega, (show _ = _ by omega), HSC.out, HK1.out⟩
  case round =>
    obtain ⟨i, z, hi, hg, rfl, hz1, hz2, HZI, HM, H75⟩ := hrel
    have hzi := HZI.out
    cases i with
    | zero =>
      obtain rfl : z = -1 := by omega
      clear HZI hzi hz1 hz2
      obtain ⟨mx, nl, h1, h2, h3, h4, h5, _, h7, h8⟩ := HM.out
      have cm := h1.cell (h5 0 (Nat.le_refl _) (by omega))
      have hl1 := h1.lt
      have HA2' := Lib.hid h2
      have HNL := Lib.hid h7
      have HB8 := Lib.hid h8
      clear h1 h2 h3 h4 h5 h7 h8 HM
      by_cases h0 : lf (nrB l n d) l.length 0 < 1000
      · have hv2 : Hid (stpB l n d = true ∧ stpL l n d = pathL (nrB l n d) l.length (lf (nrB l n d) l.length 0)) := Lib.hid ⟨by unfold stpB; rw [if_pos ⟨HHZ.out, by omega, h0⟩], by unfold stpL; rw [if_pos ⟨HHZ.out, by omega, h0⟩]⟩
        have HOKI := Lib.hid (fun j hj => itN_ok (nr := nrB l n d) (N := l.length) (by omega) h0 j hj)
        have HEND := Lib.hid (fun j hj => itN_end (nr := nrB l n d) (N := l.length) (by omega) h0 (j := j) hj)
        rw [manyA_lt h0] at cm
        have hlb := lf_bd (nr := nrB l n d) (N := l.length) l.length 0 (by omega)
        obtain ⟨T, hT⟩ : ∃ T, T = lf (nrB l n d) l.length 0 := ⟨_, rfl⟩
        rw [← hT] at cm h0 hv2 HOKI HEND hlb
        have HTT := Lib.hid hT
        have hT1 : T ≤ 100 := by omega
        have hd0 : ((T : Int) + 1 == 0) = false := by simp; omega
        have hn1 : IntKind.i64.wrap ((l.length : Int) - 1) = (l.length : Int) - 1 := IntWalk.i64_in _ (by omega)
        have HOL := Lib.hid (show Own (wr.alloc (.cells #[.int .i64 0] 3)) wr.heap.size 3 1 encI (.slice (some ⟨wr.heap.size, 0, none⟩) 1 1) [0] from World.ownsRow_lit wr #[.int .i64 0] 1 (Nat.le_refl _) (by simp [maxLen]) rfl)
        have HA3 := Lib.hid (HA2'.out.below ((Below.refl _ _).alloc (Nat.le_refl _) (.cells #[.int .i64 0] 3)))
        have hbn := HA2'.out.lt
        clear hT hlb
        obtain ⟨wo, rfl⟩ : ∃ wo, wo = wr := ⟨_, rfl⟩
        go_wp2
        go_loopg [13, 14] T (fun gg s13 s14 wr => ∃ j : Nat, j ≤ T ∧ T - j ≤ gg ∧ s14 = .int .i64 (itN (nrB l n d) l.length j) ∧ Aside (Own wr wo.heap.size 3 1 encI s13 (pathL (nrB l n d) l.length j)) ∧ Aside (Below wo.heap.size wo wr))
        case atStart => exact ⟨0, Nat.zero_le _, by omega, rfl, HOL.out, (Below.refl _ _).alloc (Nat.le_refl _) _⟩
        obtain ⟨j, hj, hgj, rfl, HO, HW⟩ := hrel
        have HOO := Lib.hid HO.out
        obtain ⟨ao5, L5, cp5, rfl⟩ := Own.slv encI_len HO.out
        have hok := HOKI.out j hj
        have hend := HEND.out j hj
        have HPL := Lib.hid (pathL_len (nrB l n d) l.length j)
        have HPN : Hid (pathL (nrB l n d) l.length (j + 1) = pathL (nrB l n d) l.length j ++ [(itN (nrB l n d) l.length (j + 1) : Int)]) := Lib.hid rfl
        have HITN : Hid (itN (nrB l n d) l.length (j + 1) = nx (nrB l n d) l.length (itN (nrB l n d) l.length j)) := Lib.hid rfl
        obtain ⟨hok1, hok2⟩ := hok
        by_cases hjT : j < T
        · have hi1 := hend.2 hjT
          have hcn := HNL.out (itN (nrB l n d) l.length j) (Nat.zero_le _) hi1 (by omega)
          rw [← HITN.out] at hcn
          have cn := (HW.out.cell (p := ⟨bn, itN (nrB l n d) l.length j, none⟩) hbn).trans (HA2'.out.cell hcn)
          have hbw := HW.out.size
          have hbn2 : bn < wr.heap.size := by omega
          have hcnt : Hid (((pathL (nrB l n d) l.length j).length + 1) * 8 ≤ 140737488355328) := Lib.hid (by rw [HPL.out]; omega)
          generalize itN (nrB l n d) l.length j = I at hok1 hi1 cn
          obtain ⟨I2, hI2⟩ : ∃ I2, I2 = itN (nrB l n d) l.length (j + 1) := ⟨_, rfl⟩
          rw [← hI2] at cn HPN
          have HI2 := Lib.hid hI2
          clear hI2
          have hIz : (I : Int) < (l.length : Int) - 1 := by omega
          have hIz2 : (I : Int) < (l.length : Int) := by omega
          clear hend hok2 hcn HO HITN
          go_wp2_with (at_builtin; refine wpList_push rfl _ _ 25 rfl slI rfl rfl (I2 : Int) rfl rfl rfl HOO.out rfl hcnt.out hbw ?_; intro v5 w5 ho5 hb5; obtain ⟨ao6, L6, cp6, rfl⟩ := Own.slv encI_len ho5; have HO5 := Lib.hid ho5; have HB5 := Lib.hid (HW.out.trans hb5); clear ho5 hb5)
          go_roundg (T - (j + 1))
          case measure => omega
          case rel => exact ⟨j + 1, by omega, by omega, by rw [HI2.out], (show Own _ _ _ _ _ _ _ by rw [HPN.out]; exact HO5.out), HB5.out⟩
        · obtain rfl : j = T := by omega
          have hi1 : ¬ itN (nrB l n d) l.length j + 1 < l.length := fun h => hjT (hend.1 h)
          have HS := Lib.hid (HOO.out.sl encI_len)
          have HBF := Lib.hid (HBC.out.thru ((HB8.out).thru HW.out))
          have hIz : ¬ ((itN (nrB l n d) l.length j : Nat) : Int) < (l.length : Int) - 1 := by omega
          clear hend HO
          go_wp2
          go_ret3
          exact SlP3.mk rfl hv2.out.1 (by rw [hv2.out.2]; exact HS.out) HBF.out
      · have hv2 : Hid (stpB l n d = false ∧ stpL l n d = []) := Lib.hid ⟨by unfold stpB; rw [if_neg (fun h => h0 h.2.2)], by unfold stpL; rw [if_neg (fun h => h0 h.2.2)]⟩
        rw [manyA_ge h0] at cm
        clear h0
        go_wp2
        go_ret3
        exact SlP3.mk rfl hv2.out.1 (by rw [hv2.out.2]; exact Sl.nil) (HBC.out.thru HB8.out)
    | succ q =>
      obtain rfl : z = q := by omega
      clear HZI hzi hz1 hz2
      have hq : q + 1 < l.length := by omega
      obtain ⟨x, hx⟩ : ∃ x, l[q]? = some x := ⟨l[q]'(by omega), by simp⟩
      obtain ⟨b, off, hao, hc⟩ := HEL.out q x hx
      subst hao
      have hblt : b < wb.heap.size := World.block_lt_of_cell? wb ⟨b, off + q * 4 + 0, none⟩ (hc 0 _ rfl)
      have hx1 : wb.cell? ⟨b, off + q * 4 + 1, none⟩ = some (.int .i64 x.ra) := hc 1 _ rfl
      have HX1 := Lib.hid hx1
      have hxr := HRNG.out x (List.mem_of_getElem? hx)
      have HGX : Hid (l.getD q default = x) := Lib.hid (getD_of hx)
      have HMI := Lib.hid (HM.out.toMI (by omega))
      clear hx hc hx1 HM
      obtain ⟨wo, rfl⟩ : ∃ wo, wo = wr := ⟨_, rfl⟩
      go_wp2
      go_loopg [12, 75] l.length (fun gg s12 s75 wr => ∃ m : Nat, q + 1 ≤ m ∧ m ≤ l.length ∧ l.length - m ≤ gg ∧ s12 = .int .i64 m ∧ Aside (MI (nrB l n d) l.length wb bm bn q m wr) ∧ Aside (K75 s75))
      case atStart => exact ⟨q + 1, Nat.le_refl _, by omega, by omega, by go_num, HMI.out, H75.out⟩
      obtain ⟨m, hqm, hm, hgm, rfl, HI, H75⟩ := hrel
      by_cases hml : m < l.length
      · have hmz : (m : Int) < (l.length : Int) := by omega
        have hqz : (q : Int) < (l.length : Int) := by omega
        obtain ⟨y, hy⟩ : ∃ y, l[m]? = some y := ⟨l[m], by simp [hml]⟩
        obtain ⟨b', off', hao', hd⟩ := HEL.out m y hy
        simp only [Option.some.injEq, Addr.mk.injEq, and_true] at hao'
        obtain ⟨rfl, rfl⟩ := hao'
        have hyr := HRNG.out y (List.mem_of_getElem? hy)
        have HNR : Hid (nrB l n d q m = !farB x.ra y.ra n d) := Lib.hid (by unfold nrB; rw [HGX.out, getD_of hy])
        obtain ⟨mx, nl, h1, h2, h3, h4, h5, h6, h7, h8, h9, h10⟩ := HI.out
        have ym : wr.cell? ⟨b, off + m * 4 + 1, none⟩ = some (.int .i64 y.ra) := (h10.cell (p := ⟨b, off + m * 4 + 1, none⟩) hblt).trans (hd 1 _ rfl)
        have xm : wr.cell? ⟨b, off + q * 4 + 1, none⟩ = some (.int .i64 x.ra) := (h10.cell (p := ⟨b, off + q * 4 + 1, none⟩) hblt).trans HX1.out
        have hrb := (h10.block w.heap.size hrbl).trans HRB.out
        have g0 := (cell_of_block (i := 0) hrb).trans rfl
        have g1 := (cell_of_block (i := 1) hrb).trans rfl
        have hl1 := lt_of_block hrb
        have hl2 : b < wr.heap.size := by have := h10.size; omega
        have hl3 := h1.lt
        have cm := h1.cell (h5 m (by omega) hml)
        have cq := h1.cell h7
        have hLb := lf_bd (nr := nrB l n d) (N := l.length) (l.length - m) m (Nat.le_refl _)
        have hA1 := lfA_le (nrB l n d) (lf (nrB l n d) l.length) q m
        have HSK := Lib.hid (fun (w' : World) (hb : Below wr.heap.size wr w') (h : ¬ (nrB l n d q m = true ∧ lf (nrB l n d) l.length m + 1 < lfA (nrB l n d) (lf (nrB l n d) l.length) q m)) => HI.out.skip hb h)
        have HTK := Lib.hid (fun (w' : World) (hb : Below wr.heap.size wr w') (h : nrB l n d q m = true ∧ lf (nrB l n d) l.length m + 1 < lfA (nrB l n d) (lf (nrB l n d) l.length) q m) => (HI.out.below hb).take (by omega) hml HNE.out HBM.out HBN.out h)
        have HIB := Lib.hid (fun (w' : World) (hb : Below wr.heap.size wr w') => HI.out.below hb)
        obtain ⟨L, hL⟩ : ∃ L, L = lf (nrB l n d) l.length m := ⟨_, rfl⟩
        obtain ⟨a, hA⟩ : ∃ a, a = lfA (nrB l n d) (lf (nrB l n d) l.length) q m := ⟨_, rfl⟩
        rw [← hL] at cm hLb HSK HTK
        rw [← hA] at cq hA1 HSK HTK
        have HLL := Lib.hid hL
        clear hy hd h1 h2 h3 h4 h5 h6 h7 h8 h9 h10 hrb hL hA HI HMI
        obtain ⟨fb, hfb⟩ : ∃ fb, fb = farB x.ra y.ra n d := ⟨_, rfl⟩
        rw [← hfb] at HNR
        rw [HNR.out] at HSK HTK
        have HFA : Hid (∀ W : World, Calls Try.prog 18 #[.int .i64 x.ra, .int .i64 y.ra, .agg #[.int .i64 n, .int .i64 d]] W fun e w' => e = .returned (.bool fb) ∧ Below W.heap.size W w') := Lib.hid (fun W => by
          rw [hfb]
          exact farther_any x.ra y.ra n d W (by omega) (by omega) (by omega) (by omega))
        clear hfb HNR
        go_upto_region 15 with (fail)
        go_cut [75, 87] (fun s75 s87 w4 => s87 = .bool (!fb && decide (L + 1 < a)) ∧ Aside (Below wr.heap.size wr w4) ∧ Aside (K75 s75))
        case first =>
          by_cases hL1 : L < 1000
          · rw [manyA_lt hL1] at cm
            have d1 : decide ((0 : Int) < (L : Int) + 1) = true := decide_eq_true (by omega)
            have d1' : (0 : Int) < (L : Int) + 1 := by omega
            have hbc : Below wr.heap.size wr wr.drew := (Below.refl _ wr).drew
            by_cases hA2 : a < 1000
            · rw [manyA_lt hA2] at cq
              have d2 : ((a : Int) + 1 == 0) = false := by simp; omega
              have hwr : IntKind.i64.wrap ((L : Int) + 1 + 1) = (L : Int) + 1 + 1 := IntWalk.i64_in _ (by omega)
              have hdd : Hid (decide ((L : Int) + 1 < (a : Int)) = decide (L + 1 < a)) := Lib.hid (by rw [Bool.eq_iff_iff]; simp; omega)
              cases fb
              case true =>
                refine wp_region_held_drew (S := (fun w' => w'.cell? ⟨bm, m, none⟩ = some (.int .i64 ((L : Int) + 1)) ∧ w'.cell? ⟨bm, q, none⟩ = some (.int .i64 ((a : Int) + 1)) ∧ w'.cell? ⟨b, off + q * 4 + 1, none⟩ = some (.int .i64 x.ra) ∧ w'.cell? ⟨b, off + m * 4 + 1, none⟩ = some (.int .i64 y.ra) ∧ w'.cell? ⟨w.heap.size, 0, none⟩ = some (.int .i64 n) ∧ w'.cell? ⟨w.heap.size, 1, none⟩ = some (.int .i64 d))) (by kernel_rfl) (by exact ⟨(hbc.cell (p := ⟨bm, m, none⟩) hl3).trans cm, (hbc.cell (p := ⟨bm, q, none⟩) hl3).trans cq, (hbc.cell (p := ⟨b, off + q * 4 + 1, none⟩) hl2).trans xm, (hbc.cell (p := ⟨b, off + m * 4 + 1, none⟩) hl2).trans ym, (hbc.cell (p := ⟨w.heap.size, 0, none⟩) hl1).trans g0, (hbc.cell (p := ⟨w.heap.size, 1, none⟩) hl1).trans g1⟩) (fun hHeld => ?_)
                refine takeIn (v := ?_) 0 49 rfl rfl (by kernel_rfl) (by kernel_rfl) (by kernel_rfl) (fun _ _ _ h => h) hHeld (by rfl) ?_ ?_
                rotate_left
                · (intro w' hSw; (try dsimp only at hSw); go_simp) <;> with_reducible rfl
                try simp only [Act.put, List.setIfInBounds_toArray, List.set_cons_zero, List.set_cons_succ]
                refine takeIn (v := ?_) 1 50 rfl rfl (by kernel_rfl) (by kernel_rfl) (by kernel_rfl) (fun _ _ _ h => h) hHeld (by rfl) ?_ ?_
                rotate_left
                · (intro w' hSw; (try dsimp only at hSw); go_simp) <;> with_reducible rfl
                try simp only [Act.put, List.setIfInBounds_toArray, List.set_cons_zero, List.set_cons_succ]
                refine takeIn (v := ?_) 2 51 rfl rfl (by kernel_rfl) (by kernel_rfl) (by kernel_rfl) (fun _ _ _ h => h) hHeld (by rfl) ?_ ?_
                rotate_left
                · (intro w' hSw; (try dsimp only at hSw); go_simp) <;> with_reducible rfl
                try simp only [Act.put, List.setIfInBounds_toArray, List.set_cons_zero, List.set_cons_succ]
                refine takeIn (v := ?_) 3 52 rfl rfl (by kernel_rfl) (by kernel_rfl) (by kernel_rfl) (fun _ _ _ h => h) hHeld (by rfl) ?_ ?_
                rotate_left
                · (intro w' hSw; (try dsimp only at hSw); go_simp) <;> with_reducible rfl
                try simp only [Act.put, List.setIfInBounds_toArray, List.set_cons_zero, List.set_cons_succ]
                refine takeIn (v := ?_) 4 53 rfl rfl (by kernel_rfl) (by kernel_rfl) (by kernel_rfl) (fun _ _ _ h => h) hHeld (by rfl) ?_ ?_
                rotate_left
                · (intro w' hSw; (try dsimp only at hSw); go_simp) <;> with_reducible rfl
                try simp only [Act.put, List.setIfInBounds_toArray, List.set_cons_zero, List.set_cons_succ]
                refine takeIn (v := ?_) 5 54 rfl rfl (by kernel_rfl) (by kernel_rfl) (by kernel_rfl) (fun _ _ _ h => h) hHeld (by rfl) ?_ ?_
                rotate_left
                · (intro w' hSw; (try dsimp only at hSw); go_simp) <;> with_reducible rfl
                try simp only [Act.put, List.setIfInBounds_toArray, List.set_cons_zero, List.set_cons_succ]
                refine takeIn (v := ?_) 6 55 rfl rfl (by kernel_rfl) (by kernel_rfl) (by kernel_rfl) (fun _ _ _ h => h) hHeld (by rfl) ?_ ?_
                rotate_left
                · (intro w' hSw; (try dsimp only at hSw); go_simp) <;> with_reducible rfl
                try simp only [Act.put, List.setIfInBounds_toArray, List.set_cons_zero, List.set_cons_succ]
                refine takeIn (v := ?_) 7 56 rfl rfl (by kernel_rfl) (by kernel_rfl) (by kernel_rfl) (fun _ _ _ h => h) hHeld (by rfl) ?_ ?_
                rotate_left
                · (intro w' hSw; (try dsimp only at hSw); go_simp) <;> with_reducible rfl
                try simp only [Act.put, List.setIfInBounds_toArray, List.set_cons_zero, List.set_cons_succ]
                refine takeIn (v := ?_) 8 57 rfl rfl (by kernel_rfl) (by kernel_rfl) (by kernel_rfl) (fun _ _ _ h => h) hHeld (by rfl) ?_ ?_
                rotate_left
                · (intro w' hSw; (try dsimp only at hSw); go_simp) <;> with_reducible rfl
                try simp only [Act.put, List.setIfInBounds_toArray, List.set_cons_zero, List.set_cons_succ]
                refine takeIn (v := ?_) 9 58 rfl rfl (by kernel_rfl) (by kernel_rfl) (by kernel_rfl) (fun _ _ _ h => h) hHeld (by rfl) ?_ ?_
                rotate_left
                · (intro w' hSw; (try dsimp only at hSw); go_simp) <;> with_reducible rfl
                try simp only [Act.put, List.setIfInBounds_toArray, List.set_cons_zero, List.set_cons_succ]
                refine takeIn (v := ?_) 10 59 rfl rfl (by kernel_rfl) (by kernel_rfl) (by kernel_rfl) (fun _ _ _ h => h) hHeld (by rfl) ?_ ?_
                rotate_left
                · (intro w' hSw; (try dsimp only at hSw); go_simp) <;> with_reducible rfl
                try simp only [Act.put, List.setIfInBounds_toArray, List.set_cons_zero, List.set_cons_succ]
                refine takeIn (v := ?_) 11 60 rfl rfl (by kernel_rfl) (by kernel_rfl) (by kernel_rfl) (fun _ _ _ h => h) hHeld (by rfl) ?_ ?_
                rotate_left
                · (intro w' hSw; (try dsimp only at hSw); go_simp) <;> with_reducible rfl
                try simp only [Act.put, List.setIfInBounds_toArray, List.set_cons_zero, List.set_cons_succ]
                refine takeIn (v := ?_) 12 61 rfl rfl (by kernel_rfl) (by kernel_rfl) (by kernel_rfl) (fun _ _ _ h => h) hHeld (by rfl) ?_ ?_
                rotate_left
                · (intro w' hSw; (try dsimp only at hSw); go_simp) <;> with_reducible rfl
                try simp only [Act.put, List.setIfInBounds_toArray, List.set_cons_zero, List.set_cons_succ]
                refine takeIn (v := ?_) 13 62 rfl rfl (by kernel_rfl) (by kernel_rfl) (by kernel_rfl) (fun _ _ _ h => h) hHeld (by rfl) ?_ ?_
                rotate_left
                · (intro w' hSw; (try dsimp only at hSw); go_simp) <;> with_reducible rfl
                try simp only [Act.put, List.setIfInBounds_toArray, List.set_cons_zero, List.set_cons_succ]
                refine takeIn (v := ?_) 14 63 rfl rfl (by kernel_rfl) (by kernel_rfl) (by kernel_rfl) (fun _ _ _ h => h) hHeld (by rfl) ?_ ?_
                rotate_left
                · (intro w' hSw; (try dsimp only at hSw); go_simp) <;> with_reducible rfl
                try simp only [Act.put, List.setIfInBounds_toArray, List.set_cons_zero, List.set_cons_succ]
                refine takeIn (v := ?_) 15 64 rfl rfl (by kernel_rfl) (by kernel_rfl) (by kernel_rfl) (fun _ _ _ h => h) hHeld (by rfl) ?_ ?_
                rotate_left
                · (intro w' hSw; (try dsimp only at hSw); go_simp) <;> with_reducible rfl
                try simp only [Act.put, List.setIfInBounds_toArray, List.set_cons_zero, List.set_cons_succ]
                refine takeIn (v := ?_) 16 65 rfl rfl (by kernel_rfl) (by kernel_rfl) (by kernel_rfl) (fun _ _ _ h => h) hHeld (by rfl) ?_ ?_
                rotate_left
                · (intro w' hSw; (try dsimp only at hSw); go_simp) <;> with_reducible rfl
                try simp only [Act.put, List.setIfInBounds_toArray, List.set_cons_zero, List.set_cons_succ]
                refine callIn (f := 18) (args := #[.int .i64 x.ra, .int .i64 y.ra, .agg #[.int .i64 n, .int .i64 d]]) 17 66 rfl rfl (by kernel_rfl) (by rfl) (by go_simp) ?_
                clear hHeld
                refine (HFA.out _).mono ?_
                rintro e w2 ⟨rfl, hb⟩
                replace hbc := hbc.thru hb
                clear hb
                have hHeld : (fun w' => w'.cell? ⟨bm, m, none⟩ = some (.int .i64 ((L : Int) + 1)) ∧ w'.cell? ⟨bm, q, none⟩ = some (.int .i64 ((a : Int) + 1)) ∧ w'.cell? ⟨b, off + q * 4 + 1, none⟩ = some (.int .i64 x.ra) ∧ w'.cell? ⟨b, off + m * 4 + 1, none⟩ = some (.int .i64 y.ra) ∧ w'.cell? ⟨w.heap.size, 0, none⟩ = some (.int .i64 n) ∧ w'.cell? ⟨w.heap.size, 1, none⟩ = some (.int .i64 d)) w2 := by exact ⟨(hbc.cell (p := ⟨bm, m, none⟩) hl3).trans cm, (hbc.cell (p := ⟨bm, q, none⟩) hl3).trans cq, (hbc.cell (p := ⟨b, off + q * 4 + 1, none⟩) hl2).trans xm, (hbc.cell (p := ⟨b, off + m * 4 + 1, none⟩) hl2).trans ym, (hbc.cell (p := ⟨w.heap.size, 0, none⟩) hl1).trans g0, (hbc.cell (p := ⟨w.heap.size, 1, none⟩) hl1).trans g1⟩
                refine ⟨_, rfl, hHeld, ?_⟩
                try simp only [Act.put, List.setIfInBounds_toArray, List.set_cons_zero, List.set_cons_succ]
                refine takeIn (v := ?_) 18 67 rfl rfl (by kernel_rfl) (by kernel_rfl) (by kernel_rfl) (fun _ _ _ h => h) hHeld (by rfl) ?_ ?_
                rotate_left
                · (intro w' hSw; (try dsimp only at hSw); go_simp) <;> with_reducible rfl
                try simp only [Act.put, List.setIfInBounds_toArray, List.set_cons_zero, List.set_cons_succ]
                refine takeIn (v := ?_) 19 68 rfl rfl (by kernel_rfl) (by kernel_rfl) (by kernel_rfl) (fun _ _ _ h => h) hHeld (by rfl) ?_ ?_
                rotate_left
                · (intro w' hSw; (try dsimp only at hSw); go_simp) <;> with_reducible rfl
                try simp only [Act.put, List.setIfInBounds_toArray, List.set_cons_zero, List.set_cons_succ]
                refine takeIn (v := ?_) 20 69 rfl rfl (by kernel_rfl) (by kernel_rfl) (by kernel_rfl) (fun _ _ _ h => h) hHeld (by rfl) ?_ ?_
                rotate_left
                · (intro w' hSw; (try dsimp only at hSw); go_simp) <;> with_reducible rfl
                try simp only [Act.put, List.setIfInBounds_toArray, List.set_cons_zero, List.set_cons_succ]
                refine takeOut 21 70 rfl rfl (by kernel_rfl) (by kernel_rfl) (by kernel_rfl) (fun _ _ _ h => h) hHeld (by rfl) ?_
                try simp only [Act.put, List.setIfInBounds_toArray, List.set_cons_zero, List.set_cons_succ]
                refine takeOut 22 71 rfl rfl (by kernel_rfl) (by kernel_rfl) (by kernel_rfl) (fun _ _ _ h => h) hHeld (by rfl) ?_
                try simp only [Act.put, List.setIfInBounds_toArray, List.set_cons_zero, List.set_cons_succ]
                refine takeOut 23 72 rfl rfl (by kernel_rfl) (by kernel_rfl) (by kernel_rfl) (fun _ _ _ h => h) hHeld (by rfl) ?_
                try simp only [Act.put, List.setIfInBounds_toArray, List.set_cons_zero, List.set_cons_succ]
                refine takeOut 24 73 rfl rfl (by kernel_rfl) (by kernel_rfl) (by kernel_rfl) (fun _ _ _ h => h) hHeld (by rfl) ?_
                try simp only [Act.put, List.setIfInBounds_toArray, List.set_cons_zero, List.set_cons_succ]
                refine takeOut 25 74 rfl rfl (by kernel_rfl) (by kernel_rfl) (by kernel_rfl) (fun _ _ _ h => h) hHeld (by rfl) ?_
                try simp only [Act.put, List.setIfInBounds_toArray, List.set_cons_zero, List.set_cons_succ]
                refine takeOut 26 75 rfl rfl (by kernel_rfl) (by kernel_rfl) (by kernel_rfl) (fun _ _ _ h => h) hHeld (by rfl) ?_
                try simp only [Act.put, List.setIfInBounds_toArray, List.set_cons_zero, List.set_cons_succ]
                refine takeOut 27 76 rfl rfl (by kernel_rfl) (by kernel_rfl) (by kernel_rfl) (fun _ _ _ h => h) hHeld (by rfl) ?_
                try simp only [Act.put, List.setIfInBounds_toArray, List.set_cons_zero, List.set_cons_succ]
                refine takeOut 28 77 rfl rfl (by kernel_rfl) (by kernel_rfl) (by kernel_rfl) (fun _ _ _ h => h) hHeld (by rfl) ?_
                try simp only [Act.put, List.setIfInBounds_toArray, List.set_cons_zero, List.set_cons_succ]
                refine takeOut 29 78 rfl rfl (by kernel_rfl) (by kernel_rfl) (by kernel_rfl) (fun _ _ _ h => h) hHeld (by rfl) ?_
                try simp only [Act.put, List.setIfInBounds_toArray, List.set_cons_zero, List.set_cons_succ]
                refine takeOut 30 79 rfl rfl (by kernel_rfl) (by kernel_rfl) (by kernel_rfl) (fun _ _ _ h => h) hHeld (by rfl) ?_
                try simp only [Act.put, List.setIfInBounds_toArray, List.set_cons_zero, List.set_cons_succ]
                refine takeOut 31 80 rfl rfl (by kernel_rfl) (by kernel_rfl) (by kernel_rfl) (fun _ _ _ h => h) hHeld (by rfl) ?_
                try simp only [Act.put, List.setIfInBounds_toArray, List.set_cons_zero, List.set_cons_succ]
                refine takeOut 32 81 rfl rfl (by kernel_rfl) (by kernel_rfl) (by kernel_rfl) (fun _ _ _ h => h) hHeld (by rfl) ?_
                try simp only [Act.put, List.setIfInBounds_toArray, List.set_cons_zero, List.set_cons_succ]
                refine takeOut 33 82 rfl rfl (by kernel_rfl) (by kernel_rfl) (by kernel_rfl) (fun _ _ _ h => h) hHeld (by rfl) ?_
                try simp only [Act.put, List.setIfInBounds_toArray, List.set_cons_zero, List.set_cons_succ]
                refine takeOut 34 83 rfl rfl (by kernel_rfl) (by kernel_rfl) (by kernel_rfl) (fun _ _ _ h => h) hHeld (by rfl) ?_
                try simp only [Act.put, List.setIfInBounds_toArray, List.set_cons_zero, List.set_cons_succ]
                refine takeOut 35 84 rfl rfl (by kernel_rfl) (by kernel_rfl) (by kernel_rfl) (fun _ _ _ h => h) hHeld (by rfl) ?_
                try simp only [Act.put, List.setIfInBounds_toArray, List.set_cons_zero, List.set_cons_succ]
                refine takeOut 36 85 rfl rfl (by kernel_rfl) (by kernel_rfl) (by kernel_rfl) (fun _ _ _ h => h) hHeld (by rfl) ?_
                try simp only [Act.put, List.setIfInBounds_toArray, List.set_cons_zero, List.set_cons_succ]
                refine takeOut 37 86 rfl rfl (by kernel_rfl) (by kernel_rfl) (by kernel_rfl) (fun _ _ _ h => h) hHeld (by rfl) ?_
                try simp only [Act.put, List.setIfInBounds_toArray, List.set_cons_zero, List.set_cons_succ]
                refine takeIn (v := ?_) 38 87 rfl rfl (by kernel_rfl) (by kernel_rfl) (by kernel_rfl) (fun _ _ _ h => h) hHeld (by rfl) ?_ ?_
                rotate_left
                · (intro w' hSw; (try dsimp only at hSw); go_simp) <;> with_reducible rfl
                try simp only [Act.put, List.setIfInBounds_toArray, List.set_cons_zero, List.set_cons_succ]
                refine wpAnyH_done (by kernel_rfl) ?_ _
                go_wp2
                go_meet
                exact ⟨rfl, hbc, (show K75 _ from .inl rfl)⟩
              case false =>
                first
                | (go_region_held3 (fun w' => w'.cell? ⟨bm, m, none⟩ = some (.int .i64 ((L : Int) + 1)) ∧ w'.cell? ⟨bm, q, none⟩ = some (.int .i64 ((a : Int) + 1)) ∧ w'.cell? ⟨b, off + q * 4 + 1, none⟩ = some (.int .i64 x.ra) ∧ w'.cell? ⟨b, off + m * 4 + 1, none⟩ = some (.int .i64 y.ra) ∧ w'.cell? ⟨w.heap.size, 0, none⟩ = some (.int .i64 n) ∧ w'.cell? ⟨w.heap.size, 1, none⟩ = some (.int .i64 d))
                    (first | exact ⟨(hbc.cell (p := ⟨bm, m, none⟩) hl3).trans cm, (hbc.cell (p := ⟨bm, q, none⟩) hl3).trans cq, (hbc.cell (p := ⟨b, off + q * 4 + 1, none⟩) hl2).trans xm, (hbc.cell (p := ⟨b, off + m * 4 + 1, none⟩) hl2).trans ym, (hbc.cell (p := ⟨w.heap.size, 0, none⟩) hl1).trans g0, (hbc.cell (p := ⟨w.heap.size, 1, none⟩) hl1).trans g1⟩ | fail "keep")
                    (first | (go_at_call 18; refine (HFA.out _).mono ?_; rintro e w' ⟨rfl, hb⟩; replace hbc := hbc.thru hb; clear hb) | fail "arms"))
                | fail "held3"
                all_goals
                  go_wp2
                  go_meet
                  exact ⟨by first | rfl | (rw [hdd.out]; rfl) | (rw [hdd.out]; simp), hbc, (show K75 _ from .inr (.inr rfl))⟩
            · rw [manyA_ge hA2] at cq
              have hdd : decide (L + 1 < a) = true := decide_eq_true (by omega)
              cases fb
              case true =>
                refine wp_region_held_drew (S := (fun w' => w'.cell? ⟨bm, m, none⟩ = some (.int .i64 ((L : Int) + 1)) ∧ w'.cell? ⟨bm, q, none⟩ = some (.int .i64 0) ∧ w'.cell? ⟨b, off + q * 4 + 1, none⟩ = some (.int .i64 x.ra) ∧ w'.cell? ⟨b, off + m * 4 + 1, none⟩ = some (.int .i64 y.ra) ∧ w'.cell? ⟨w.heap.size, 0, none⟩ = some (.int .i64 n) ∧ w'.cell? ⟨w.heap.size, 1, none⟩ = some (.int .i64 d))) (by kernel_rfl) (by exact ⟨(hbc.cell (p := ⟨bm, m, none⟩) hl3).trans cm, (hbc.cell (p := ⟨bm, q, none⟩) hl3).trans cq, (hbc.cell (p := ⟨b, off + q * 4 + 1, none⟩) hl2).trans xm, (hbc.cell (p := ⟨b, off + m * 4 + 1, none⟩) hl2).trans ym, (hbc.cell (p := ⟨w.heap.size, 0, none⟩) hl1).trans g0, (hbc.cell (p := ⟨w.heap.size, 1, none⟩) hl1).trans g1⟩) (fun hHeld => ?_)
                refine takeIn (v := ?_) 0 49 rfl rfl (by kernel_rfl) (by kernel_rfl) (by kernel_rfl) (fun _ _ _ h => h) hHeld (by rfl) ?_ ?_
                rotate_left
                · (intro w' hSw; (try dsimp only at hSw); go_simp) <;> with_reducible rfl
                try simp only [Act.put, List.setIfInBounds_toArray, List.set_cons_zero, List.set_cons_succ]
                refine takeIn (v := ?_) 1 50 rfl rfl (by kernel_rfl) (by kernel_rfl) (by kernel_rfl) (fun _ _ _ h => h) hHeld (by rfl) ?_ ?_
                rotate_left
                · (intro w' hSw; (try dsimp only at hSw); go_simp) <;> with_reducible rfl
                try simp only [Act.put, List.setIfInBounds_toArray, List.set_cons_zero, List.set_cons_succ]
                refine takeIn (v := ?_) 2 51 rfl rfl (by kernel_rfl) (by kernel_rfl) (by kernel_rfl) (fun _ _ _ h => h) hHeld (by rfl) ?_ ?_
                rotate_left
                · (intro w' hSw; (try dsimp only at hSw); go_simp) <;> with_reducible rfl
                try simp only [Act.put, List.setIfInBounds_toArray, List.set_cons_zero, List.set_cons_succ]
                refine takeIn (v := ?_) 3 52 rfl rfl (by kernel_rfl) (by kernel_rfl) (by kernel_rfl) (fun _ _ _ h => h) hHeld (by rfl) ?_ ?_
                rotate_left
                · (intro w' hSw; (try dsimp only at hSw); go_simp) <;> with_reducible rfl
                try simp only [Act.put, List.setIfInBounds_toArray, List.set_cons_zero, List.set_cons_succ]
                refine takeIn (v := ?_) 4 53 rfl rfl (by kernel_rfl) (by kernel_rfl) (by kernel_rfl) (fun _ _ _ h => h) hHeld (by rfl) ?_ ?_
                rotate_left
                · (intro w' hSw; (try dsimp only at hSw); go_simp) <;> with_reducible rfl
                try simp only [Act.put, List.setIfInBounds_toArray, List.set_cons_zero, List.set_cons_succ]
                refine takeIn (v := ?_) 5 54 rfl rfl (by kernel_rfl) (by kernel_rfl) (by kernel_rfl) (fun _ _ _ h => h) hHeld (by rfl) ?_ ?_
                rotate_left
                · (intro w' hSw; (try dsimp only at hSw); go_simp) <;> with_reducible rfl
                try simp only [Act.put, List.setIfInBounds_toArray, List.set_cons_zero, List.set_cons_succ]
                refine takeIn (v := ?_) 6 55 rfl rfl (by kernel_rfl) (by kernel_rfl) (by kernel_rfl) (fun _ _ _ h => h) hHeld (by rfl) ?_ ?_
                rotate_left
                · (intro w' hSw; (try dsimp only at hSw); go_simp) <;> with_reducible rfl
                try simp only [Act.put, List.setIfInBounds_toArray, List.set_cons_zero, List.set_cons_succ]
                refine takeIn (v := ?_) 7 56 rfl rfl (by kernel_rfl) (by kernel_rfl) (by kernel_rfl) (fun _ _ _ h => h) hHeld (by rfl) ?_ ?_
                rotate_left
                · (intro w' hSw; (try dsimp only at hSw); go_simp) <;> with_reducible rfl
                try simp only [Act.put, List.setIfInBounds_toArray, List.set_cons_zero, List.set_cons_succ]
                refine takeIn (v := ?_) 8 57 rfl rfl (by kernel_rfl) (by kernel_rfl) (by kernel_rfl) (fun _ _ _ h => h) hHeld (by rfl) ?_ ?_
                rotate_left
                · (intro w' hSw; (try dsimp only at hSw); go_simp) <;> with_reducible rfl
                try simp only [Act.put, List.setIfInBounds_toArray, List.set_cons_zero, List.set_cons_succ]
                refine takeIn (v := ?_) 9 58 rfl rfl (by kernel_rfl) (by kernel_rfl) (by kernel_rfl) (fun _ _ _ h => h) hHeld (by rfl) ?_ ?_
                rotate_left
                · (intro w' hSw; (try dsimp only at hSw); go_simp) <;> with_reducible rfl
                try simp only [Act.put, List.setIfInBounds_toArray, List.set_cons_zero, List.set_cons_succ]
                refine takeIn (v := ?_) 10 59 rfl rfl (by kernel_rfl) (by kernel_rfl) (by kernel_rfl) (fun _ _ _ h => h) hHeld (by rfl) ?_ ?_
                rotate_left
                · (intro w' hSw; (try dsimp only at hSw); go_simp) <;> with_reducible rfl
                try simp only [Act.put, List.setIfInBounds_toArray, List.set_cons_zero, List.set_cons_succ]
                refine takeIn (v := ?_) 11 60 rfl rfl (by kernel_rfl) (by kernel_rfl) (by kernel_rfl) (fun _ _ _ h => h) hHeld (by rfl) ?_ ?_
                rotate_left
                · (intro w' hSw; (try dsimp only at hSw); go_simp) <;> with_reducible rfl
                try simp only [Act.put, List.setIfInBounds_toArray, List.set_cons_zero, List.set_cons_succ]
                refine takeIn (v := ?_) 12 61 rfl rfl (by kernel_rfl) (by kernel_rfl) (by kernel_rfl) (fun _ _ _ h => h) hHeld (by rfl) ?_ ?_
                rotate_left
                · (intro w' hSw; (try dsimp only at hSw); go_simp) <;> with_reducible rfl
                try simp only [Act.put, List.setIfInBounds_toArray, List.set_cons_zero, List.set_cons_succ]
                refine takeIn (v := ?_) 13 62 rfl rfl (by kernel_rfl) (by kernel_rfl) (by kernel_rfl) (fun _ _ _ h => h) hHeld (by rfl) ?_ ?_
                rotate_left
                · (intro w' hSw; (try dsimp only at hSw); go_simp) <;> with_reducible rfl
                try simp only [Act.put, List.setIfInBounds_toArray, List.set_cons_zero, List.set_cons_succ]
                refine takeIn (v := ?_) 14 63 rfl rfl (by kernel_rfl) (by kernel_rfl) (by kernel_rfl) (fun _ _ _ h => h) hHeld (by rfl) ?_ ?_
                rotate_left
                · (intro w' hSw; (try dsimp only at hSw); go_simp) <;> with_reducible rfl
                try simp only [Act.put, List.setIfInBounds_toArray, List.set_cons_zero, List.set_cons_succ]
                refine takeIn (v := ?_) 15 64 rfl rfl (by kernel_rfl) (by kernel_rfl) (by kernel_rfl) (fun _ _ _ h => h) hHeld (by rfl) ?_ ?_
                rotate_left
                · (intro w' hSw; (try dsimp only at hSw); go_simp) <;> with_reducible rfl
                try simp only [Act.put, List.setIfInBounds_toArray, List.set_cons_zero, List.set_cons_succ]
                refine takeIn (v := ?_) 16 65 rfl rfl (by kernel_rfl) (by kernel_rfl) (by kernel_rfl) (fun _ _ _ h => h) hHeld (by rfl) ?_ ?_
                rotate_left
                · (intro w' hSw; (try dsimp only at hSw); go_simp) <;> with_reducible rfl
                try simp only [Act.put, List.setIfInBounds_toArray, List.set_cons_zero, List.set_cons_succ]
                refine callIn (f := 18) (args := #[.int .i64 x.ra, .int .i64 y.ra, .agg #[.int .i64 n, .int .i64 d]]) 17 66 rfl rfl (by kernel_rfl) (by rfl) (by go_simp) ?_
                clear hHeld
                refine (HFA.out _).mono ?_
                rintro e w2 ⟨rfl, hb⟩
                replace hbc := hbc.thru hb
                clear hb
                have hHeld : (fun w' => w'.cell? ⟨bm, m, none⟩ = some (.int .i64 ((L : Int) + 1)) ∧ w'.cell? ⟨bm, q, none⟩ = some (.int .i64 0) ∧ w'.cell? ⟨b, off + q * 4 + 1, none⟩ = some (.int .i64 x.ra) ∧ w'.cell? ⟨b, off + m * 4 + 1, none⟩ = some (.int .i64 y.ra) ∧ w'.cell? ⟨w.heap.size, 0, none⟩ = some (.int .i64 n) ∧ w'.cell? ⟨w.heap.size, 1, none⟩ = some (.int .i64 d)) w2 := by exact ⟨(hbc.cell (p := ⟨bm, m, none⟩) hl3).trans cm, (hbc.cell (p := ⟨bm, q, none⟩) hl3).trans cq, (hbc.cell (p := ⟨b, off + q * 4 + 1, none⟩) hl2).trans xm, (hbc.cell (p := ⟨b, off + m * 4 + 1, none⟩) hl2).trans ym, (hbc.cell (p := ⟨w.heap.size, 0, none⟩) hl1).trans g0, (hbc.cell (p := ⟨w.heap.size, 1, none⟩) hl1).trans g1⟩
                refine ⟨_, rfl, hHeld, ?_⟩
                try simp only [Act.put, List.setIfInBounds_toArray, List.set_cons_zero, List.set_cons_succ]
                refine takeIn (v := ?_) 18 67 rfl rfl (by kernel_rfl) (by kernel_rfl) (by kernel_rfl) (fun _ _ _ h => h) hHeld (by rfl) ?_ ?_
                rotate_left
                · (intro w' hSw; (try dsimp only at hSw); go_simp) <;> with_reducible rfl
                try simp only [Act.put, List.setIfInBounds_toArray, List.set_cons_zero, List.set_cons_succ]
                refine takeIn (v := ?_) 19 68 rfl rfl (by kernel_rfl) (by kernel_rfl) (by kernel_rfl) (fun _ _ _ h => h) hHeld (by rfl) ?_ ?_
                rotate_left
                · (intro w' hSw; (try dsimp only at hSw); go_simp) <;> with_reducible rfl
                try simp only [Act.put, List.setIfInBounds_toArray, List.set_cons_zero, List.set_cons_succ]
                refine takeIn (v := ?_) 20 69 rfl rfl (by kernel_rfl) (by kernel_rfl) (by kernel_rfl) (fun _ _ _ h => h) hHeld (by rfl) ?_ ?_
                rotate_left
                · (intro w' hSw; (try dsimp only at hSw); go_simp) <;> with_reducible rfl
                try simp only [Act.put, List.setIfInBounds_toArray, List.set_cons_zero, List.set_cons_succ]
                refine takeOut 21 70 rfl rfl (by kernel_rfl) (by kernel_rfl) (by kernel_rfl) (fun _ _ _ h => h) hHeld (by rfl) ?_
                try simp only [Act.put, List.setIfInBounds_toArray, List.set_cons_zero, List.set_cons_succ]
                refine takeOut 22 71 rfl rfl (by kernel_rfl) (by kernel_rfl) (by kernel_rfl) (fun _ _ _ h => h) hHeld (by rfl) ?_
                try simp only [Act.put, List.setIfInBounds_toArray, List.set_cons_zero, List.set_cons_succ]
                refine takeOut 23 72 rfl rfl (by kernel_rfl) (by kernel_rfl) (by kernel_rfl) (fun _ _ _ h => h) hHeld (by rfl) ?_
                try simp only [Act.put, List.setIfInBounds_toArray, List.set_cons_zero, List.set_cons_succ]
                refine takeOut 24 73 rfl rfl (by kernel_rfl) (by kernel_rfl) (by kernel_rfl) (fun _ _ _ h => h) hHeld (by rfl) ?_
                try simp only [Act.put, List.setIfInBounds_toArray, List.set_cons_zero, List.set_cons_succ]
                refine takeOut 25 74 rfl rfl (by kernel_rfl) (by kernel_rfl) (by kernel_rfl) (fun _ _ _ h => h) hHeld (by rfl) ?_
                try simp only [Act.put, List.setIfInBounds_toArray, List.set_cons_zero, List.set_cons_succ]
                refine takeOut 26 75 rfl rfl (by kernel_rfl) (by kernel_rfl) (by kernel_rfl) (fun _ _ _ h => h) hHeld (by rfl) ?_
                try simp only [Act.put, List.setIfInBounds_toArray, List.set_cons_zero, List.set_cons_succ]
                refine takeOut 27 76 rfl rfl (by kernel_rfl) (by kernel_rfl) (by kernel_rfl) (fun _ _ _ h => h) hHeld (by rfl) ?_
                try simp only [Act.put, List.setIfInBounds_toArray, List.set_cons_zero, List.set_cons_succ]
                refine takeOut 28 77 rfl rfl (by kernel_rfl) (by kernel_rfl) (by kernel_rfl) (fun _ _ _ h => h) hHeld (by rfl) ?_
                try simp only [Act.put, List.setIfInBounds_toArray, List.set_cons_zero, List.set_cons_succ]
                refine takeOut 29 78 rfl rfl (by kernel_rfl) (by kernel_rfl) (by kernel_rfl) (fun _ _ _ h => h) hHeld (by rfl) ?_
                try simp only [Act.put, List.setIfInBounds_toArray, List.set_cons_zero, List.set_cons_succ]
                refine takeOut 30 79 rfl rfl (by kernel_rfl) (by kernel_rfl) (by kernel_rfl) (fun _ _ _ h => h) hHeld (by rfl) ?_
                try simp only [Act.put, List.setIfInBounds_toArray, List.set_cons_zero, List.set_cons_succ]
                refine takeOut 31 80 rfl rfl (by kernel_rfl) (by kernel_rfl) (by kernel_rfl) (fun _ _ _ h => h) hHeld (by rfl) ?_
                try simp only [Act.put, List.setIfInBounds_toArray, List.set_cons_zero, List.set_cons_succ]
                refine takeOut 32 81 rfl rfl (by kernel_rfl) (by kernel_rfl) (by kernel_rfl) (fun _ _ _ h => h) hHeld (by rfl) ?_
                try simp only [Act.put, List.setIfInBounds_toArray, List.set_cons_zero, List.set_cons_succ]
                refine takeOut 33 82 rfl rfl (by kernel_rfl) (by kernel_rfl) (by kernel_rfl) (fun _ _ _ h => h) hHeld (by rfl) ?_
                try simp only [Act.put, List.setIfInBounds_toArray, List.set_cons_zero, List.set_cons_succ]
                refine takeOut 34 83 rfl rfl (by kernel_rfl) (by kernel_rfl) (by kernel_rfl) (fun _ _ _ h => h) hHeld (by rfl) ?_
                try simp only [Act.put, List.setIfInBounds_toArray, List.set_cons_zero, List.set_cons_succ]
                refine takeOut 35 84 rfl rfl (by kernel_rfl) (by kernel_rfl) (by kernel_rfl) (fun _ _ _ h => h) hHeld (by rfl) ?_
                try simp only [Act.put, List.setIfInBounds_toArray, List.set_cons_zero, List.set_cons_succ]
                refine takeOut 36 85 rfl rfl (by kernel_rfl) (by kernel_rfl) (by kernel_rfl) (fun _ _ _ h => h) hHeld (by rfl) ?_
                try simp only [Act.put, List.setIfInBounds_toArray, List.set_cons_zero, List.set_cons_succ]
                refine takeOut 37 86 rfl rfl (by kernel_rfl) (by kernel_rfl) (by kernel_rfl) (fun _ _ _ h => h) hHeld (by rfl) ?_
                try simp only [Act.put, List.setIfInBounds_toArray, List.set_cons_zero, List.set_cons_succ]
                refine takeIn (v := ?_) 38 87 rfl rfl (by kernel_rfl) (by kernel_rfl) (by kernel_rfl) (fun _ _ _ h => h) hHeld (by rfl) ?_ ?_
                rotate_left
                · (intro w' hSw; (try dsimp only at hSw); go_simp) <;> with_reducible rfl
                try simp only [Act.put, List.setIfInBounds_toArray, List.set_cons_zero, List.set_cons_succ]
                refine wpAnyH_done (by kernel_rfl) ?_ _
                go_wp2
                go_meet
                exact ⟨rfl, hbc, (show K75 _ from .inl rfl)⟩
              case false =>
                refine wp_region_held_drew (S := (fun w' => w'.cell? ⟨bm, m, none⟩ = some (.int .i64 ((L : Int) + 1)) ∧ w'.cell? ⟨bm, q, none⟩ = some (.int .i64 0) ∧ w'.cell? ⟨b, off + q * 4 + 1, none⟩ = some (.int .i64 x.ra) ∧ w'.cell? ⟨b, off + m * 4 + 1, none⟩ = some (.int .i64 y.ra) ∧ w'.cell? ⟨w.heap.size, 0, none⟩ = some (.int .i64 n) ∧ w'.cell? ⟨w.heap.size, 1, none⟩ = some (.int .i64 d))) (by kernel_rfl) (by exact ⟨(hbc.cell (p := ⟨bm, m, none⟩) hl3).trans cm, (hbc.cell (p := ⟨bm, q, none⟩) hl3).trans cq, (hbc.cell (p := ⟨b, off + q * 4 + 1, none⟩) hl2).trans xm, (hbc.cell (p := ⟨b, off + m * 4 + 1, none⟩) hl2).trans ym, (hbc.cell (p := ⟨w.heap.size, 0, none⟩) hl1).trans g0, (hbc.cell (p := ⟨w.heap.size, 1, none⟩) hl1).trans g1⟩) (fun hHeld => ?_)
                refine takeIn (v := ?_) 0 49 rfl rfl (by kernel_rfl) (by kernel_rfl) (by kernel_rfl) (fun _ _ _ h => h) hHeld (by rfl) ?_ ?_
                rotate_left
                · (intro w' hSw; (try dsimp only at hSw); go_simp) <;> with_reducible rfl
                try simp only [Act.put, List.setIfInBounds_toArray, List.set_cons_zero, List.set_cons_succ]
                refine takeIn (v := ?_) 1 50 rfl rfl (by kernel_rfl) (by kernel_rfl) (by kernel_rfl) (fun _ _ _ h => h) hHeld (by rfl) ?_ ?_
                rotate_left
                · (intro w' hSw; (try dsimp only at hSw); go_simp) <;> with_reducible rfl
                try simp only [Act.put, List.setIfInBounds_toArray, List.set_cons_zero, List.set_cons_succ]
                refine takeIn (v := ?_) 2 51 rfl rfl (by kernel_rfl) (by kernel_rfl) (by kernel_rfl) (fun _ _ _ h => h) hHeld (by rfl) ?_ ?_
                rotate_left
                · (intro w' hSw; (try dsimp only at hSw); go_simp) <;> with_reducible rfl
                try simp only [Act.put, List.setIfInBounds_toArray, List.set_cons_zero, List.set_cons_succ]
                refine takeIn (v := ?_) 3 52 rfl rfl (by kernel_rfl) (by kernel_rfl) (by kernel_rfl) (fun _ _ _ h => h) hHeld (by rfl) ?_ ?_
                rotate_left
                · (intro w' hSw; (try dsimp only at hSw); go_simp) <;> with_reducible rfl
                try simp only [Act.put, List.setIfInBounds_toArray, List.set_cons_zero, List.set_cons_succ]
                refine takeIn (v := ?_) 4 53 rfl rfl (by kernel_rfl) (by kernel_rfl) (by kernel_rfl) (fun _ _ _ h => h) hHeld (by rfl) ?_ ?_
                rotate_left
                · (intro w' hSw; (try dsimp only at hSw); go_simp) <;> with_reducible rfl
                try simp only [Act.put, List.setIfInBounds_toArray, List.set_cons_zero, List.set_cons_succ]
                refine takeIn (v := ?_) 5 54 rfl rfl (by kernel_rfl) (by kernel_rfl) (by kernel_rfl) (fun _ _ _ h => h) hHeld (by rfl) ?_ ?_
                rotate_left
                · (intro w' hSw; (try dsimp only at hSw); go_simp) <;> with_reducible rfl
                try simp only [Act.put, List.setIfInBounds_toArray, List.set_cons_zero, List.set_cons_succ]
                refine takeIn (v := ?_) 6 55 rfl rfl (by kernel_rfl) (by kernel_rfl) (by kernel_rfl) (fun _ _ _ h => h) hHeld (by rfl) ?_ ?_
                rotate_left
                · (intro w' hSw; (try dsimp only at hSw); go_simp) <;> with_reducible rfl
                try simp only [Act.put, List.setIfInBounds_toArray, List.set_cons_zero, List.set_cons_succ]
                refine takeIn (v := ?_) 7 56 rfl rfl (by kernel_rfl) (by kernel_rfl) (by kernel_rfl) (fun _ _ _ h => h) hHeld (by rfl) ?_ ?_
                rotate_left
                · (intro w' hSw; (try dsimp only at hSw); go_simp) <;> with_reducible rfl
                try simp only [Act.put, List.setIfInBounds_toArray, List.set_cons_zero, List.set_cons_succ]
                refine takeIn (v := ?_) 8 57 rfl rfl (by kernel_rfl) (by kernel_rfl) (by kernel_rfl) (fun _ _ _ h => h) hHeld (by rfl) ?_ ?_
                rotate_left
                · (intro w' hSw; (try dsimp only at hSw); go_simp) <;> with_reducible rfl
                try simp only [Act.put, List.setIfInBounds_toArray, List.set_cons_zero, List.set_cons_succ]
                refine takeIn (v := ?_) 9 58 rfl rfl (by kernel_rfl) (by kernel_rfl) (by kernel_rfl) (fun _ _ _ h => h) hHeld (by rfl) ?_ ?_
                rotate_left
                · (intro w' hSw; (try dsimp only at hSw); go_simp) <;> with_reducible rfl
                try simp only [Act.put, List.setIfInBounds_toArray, List.set_cons_zero, List.set_cons_succ]
                refine takeIn (v := ?_) 10 59 rfl rfl (by kernel_rfl) (by kernel_rfl) (by kernel_rfl) (fun _ _ _ h => h) hHeld (by rfl) ?_ ?_
                rotate_left
                · (intro w' hSw; (try dsimp only at hSw); go_simp) <;> with_reducible rfl
                try simp only [Act.put, List.setIfInBounds_toArray, List.set_cons_zero, List.set_cons_succ]
                refine takeIn (v := ?_) 11 60 rfl rfl (by kernel_rfl) (by kernel_rfl) (by kernel_rfl) (fun _ _ _ h => h) hHeld (by rfl) ?_ ?_
                rotate_left
                · (intro w' hSw; (try dsimp only at hSw); go_simp) <;> with_reducible rfl
                try simp only [Act.put, List.setIfInBounds_toArray, List.set_cons_zero, List.set_cons_succ]
                refine takeIn (v := ?_) 12 61 rfl rfl (by kernel_rfl) (by kernel_rfl) (by kernel_rfl) (fun _ _ _ h => h) hHeld (by rfl) ?_ ?_
                rotate_left
                · (intro w' hSw; (try dsimp only at hSw); go_simp) <;> with_reducible rfl
                try simp only [Act.put, List.setIfInBounds_toArray, List.set_cons_zero, List.set_cons_succ]
                refine takeIn (v := ?_) 13 62 rfl rfl (by kernel_rfl) (by kernel_rfl) (by kernel_rfl) (fun _ _ _ h => h) hHeld (by rfl) ?_ ?_
                rotate_left
                · (intro w' hSw; (try dsimp only at hSw); go_simp) <;> with_reducible rfl
                try simp only [Act.put, List.setIfInBounds_toArray, List.set_cons_zero, List.set_cons_succ]
                refine takeIn (v := ?_) 14 63 rfl rfl (by kernel_rfl) (by kernel_rfl) (by kernel_rfl) (fun _ _ _ h => h) hHeld (by rfl) ?_ ?_
                rotate_left
                · (intro w' hSw; (try dsimp only at hSw); go_simp) <;> with_reducible rfl
                try simp only [Act.put, List.setIfInBounds_toArray, List.set_cons_zero, List.set_cons_succ]
                refine takeIn (v := ?_) 15 64 rfl rfl (by kernel_rfl) (by kernel_rfl) (by kernel_rfl) (fun _ _ _ h => h) hHeld (by rfl) ?_ ?_
                rotate_left
                · (intro w' hSw; (try dsimp only at hSw); go_simp) <;> with_reducible rfl
                try simp only [Act.put, List.setIfInBounds_toArray, List.set_cons_zero, List.set_cons_succ]
                refine takeIn (v := ?_) 16 65 rfl rfl (by kernel_rfl) (by kernel_rfl) (by kernel_rfl) (fun _ _ _ h => h) hHeld (by rfl) ?_ ?_
                rotate_left
                · (intro w' hSw; (try dsimp only at hSw); go_simp) <;> with_reducible rfl
                try simp only [Act.put, List.setIfInBounds_toArray, List.set_cons_zero, List.set_cons_succ]
                refine callIn (f := 18) (args := #[.int .i64 x.ra, .int .i64 y.ra, .agg #[.int .i64 n, .int .i64 d]]) 17 66 rfl rfl (by kernel_rfl) (by rfl) (by go_simp) ?_
                clear hHeld
                refine (HFA.out _).mono ?_
                rintro e w2 ⟨rfl, hb⟩
                replace hbc := hbc.thru hb
                clear hb
                have hHeld : (fun w' => w'.cell? ⟨bm, m, none⟩ = some (.int .i64 ((L : Int) + 1)) ∧ w'.cell? ⟨bm, q, none⟩ = some (.int .i64 0) ∧ w'.cell? ⟨b, off + q * 4 + 1, none⟩ = some (.int .i64 x.ra) ∧ w'.cell? ⟨b, off + m * 4 + 1, none⟩ = some (.int .i64 y.ra) ∧ w'.cell? ⟨w.heap.size, 0, none⟩ = some (.int .i64 n) ∧ w'.cell? ⟨w.heap.size, 1, none⟩ = some (.int .i64 d)) w2 := by exact ⟨(hbc.cell (p := ⟨bm, m, none⟩) hl3).trans cm, (hbc.cell (p := ⟨bm, q, none⟩) hl3).trans cq, (hbc.cell (p := ⟨b, off + q * 4 + 1, none⟩) hl2).trans xm, (hbc.cell (p := ⟨b, off + m * 4 + 1, none⟩) hl2).trans ym, (hbc.cell (p := ⟨w.heap.size, 0, none⟩) hl1).trans g0, (hbc.cell (p := ⟨w.heap.size, 1, none⟩) hl1).trans g1⟩
                refine ⟨_, rfl, hHeld, ?_⟩
                try simp only [Act.put, List.setIfInBounds_toArray, List.set_cons_zero, List.set_cons_succ]
                refine takeIn (v := ?_) 18 67 rfl rfl (by kernel_rfl) (by kernel_rfl) (by kernel_rfl) (fun _ _ _ h => h) hHeld (by rfl) ?_ ?_
                rotate_left
                · (intro w' hSw; (try dsimp only at hSw); go_simp) <;> with_reducible rfl
                try simp only [Act.put, List.setIfInBounds_toArray, List.set_cons_zero, List.set_cons_succ]
                refine takeIn (v := ?_) 19 68 rfl rfl (by kernel_rfl) (by kernel_rfl) (by kernel_rfl) (fun _ _ _ h => h) hHeld (by rfl) ?_ ?_
                rotate_left
                · (intro w' hSw; (try dsimp only at hSw); go_simp) <;> with_reducible rfl
                try simp only [Act.put, List.setIfInBounds_toArray, List.set_cons_zero, List.set_cons_succ]
                refine takeIn (v := ?_) 20 69 rfl rfl (by kernel_rfl) (by kernel_rfl) (by kernel_rfl) (fun _ _ _ h => h) hHeld (by rfl) ?_ ?_
                rotate_left
                · (intro w' hSw; (try dsimp only at hSw); go_simp) <;> with_reducible rfl
                try simp only [Act.put, List.setIfInBounds_toArray, List.set_cons_zero, List.set_cons_succ]
                refine takeIn (v := ?_) 21 70 rfl rfl (by kernel_rfl) (by kernel_rfl) (by kernel_rfl) (fun _ _ _ h => h) hHeld (by rfl) ?_ ?_
                rotate_left
                · (intro w' hSw; (try dsimp only at hSw); go_simp) <;> with_reducible rfl
                try simp only [Act.put, List.setIfInBounds_toArray, List.set_cons_zero, List.set_cons_succ]
                refine takeIn (v := ?_) 22 71 rfl rfl (by kernel_rfl) (by kernel_rfl) (by kernel_rfl) (fun _ _ _ h => h) hHeld (by rfl) ?_ ?_
                rotate_left
                · (intro w' hSw; (try dsimp only at hSw); go_simp) <;> with_reducible rfl
                try simp only [Act.put, List.setIfInBounds_toArray, List.set_cons_zero, List.set_cons_succ]
                refine takeIn (v := ?_) 23 72 rfl rfl (by kernel_rfl) (by kernel_rfl) (by kernel_rfl) (fun _ _ _ h => h) hHeld (by rfl) ?_ ?_
                rotate_left
                · (intro w' hSw; (try dsimp only at hSw); go_simp) <;> with_reducible rfl
                try simp only [Act.put, List.setIfInBounds_toArray, List.set_cons_zero, List.set_cons_succ]
                refine takeIn (v := ?_) 24 73 rfl rfl (by kernel_rfl) (by kernel_rfl) (by kernel_rfl) (fun _ _ _ h => h) hHeld (by rfl) ?_ ?_
                rotate_left
                · (intro w' hSw; (try dsimp only at hSw); go_simp) <;> with_reducible rfl
                try simp only [Act.put, List.setIfInBounds_toArray, List.set_cons_zero, List.set_cons_succ]
                refine takeIn (v := ?_) 25 74 rfl rfl (by kernel_rfl) (by kernel_rfl) (by kernel_rfl) (fun _ _ _ h => h) hHeld (by rfl) ?_ ?_
                rotate_left
                · (intro w' hSw; (try dsimp only at hSw); go_simp) <;> with_reducible rfl
                try simp only [Act.put, List.setIfInBounds_toArray, List.set_cons_zero, List.set_cons_succ]
                refine takeIn (v := ?_) 26 75 rfl rfl (by kernel_rfl) (by kernel_rfl) (by kernel_rfl) (fun _ _ _ h => h) hHeld (by rfl) ?_ ?_
                rotate_left
                · (intro w' hSw; (try dsimp only at hSw); go_simp) <;> with_reducible rfl
                try simp only [Act.put, List.setIfInBounds_toArray, List.set_cons_zero, List.set_cons_succ]
                refine takeOut 27 76 rfl rfl (by kernel_rfl) (by kernel_rfl) (by kernel_rfl) (fun _ _ _ h => h) hHeld (by rfl) ?_
                try simp only [Act.put, List.setIfInBounds_toArray, List.set_cons_zero, List.set_cons_succ]
                refine takeOut 28 77 rfl rfl (by kernel_rfl) (by kernel_rfl) (by kernel_rfl) (fun _ _ _ h => h) hHeld (by rfl) ?_
                try simp only [Act.put, List.setIfInBounds_toArray, List.set_cons_zero, List.set_cons_succ]
                refine takeOut 29 78 rfl rfl (by kernel_rfl) (by kernel_rfl) (by kernel_rfl) (fun _ _ _ h => h) hHeld (by rfl) ?_
                try simp only [Act.put, List.setIfInBounds_toArray, List.set_cons_zero, List.set_cons_succ]
                refine takeOut 30 79 rfl rfl (by kernel_rfl) (by kernel_rfl) (by kernel_rfl) (fun _ _ _ h => h) hHeld (by rfl) ?_
                try simp only [Act.put, List.setIfInBounds_toArray, List.set_cons_zero, List.set_cons_succ]
                refine takeOut 31 80 rfl rfl (by kernel_rfl) (by kernel_rfl) (by kernel_rfl) (fun _ _ _ h => h) hHeld (by rfl) ?_
                try simp only [Act.put, List.setIfInBounds_toArray, List.set_cons_zero, List.set_cons_succ]
                refine takeOut 32 81 rfl rfl (by kernel_rfl) (by kernel_rfl) (by kernel_rfl) (fun _ _ _ h => h) hHeld (by rfl) ?_
                try simp only [Act.put, List.setIfInBounds_toArray, List.set_cons_zero, List.set_cons_succ]
                refine takeOut 33 82 rfl rfl (by kernel_rfl) (by kernel_rfl) (by kernel_rfl) (fun _ _ _ h => h) hHeld (by rfl) ?_
                try simp only [Act.put, List.setIfInBounds_toArray, List.set_cons_zero, List.set_cons_succ]
                refine takeOut 34 83 rfl rfl (by kernel_rfl) (by kernel_rfl) (by kernel_rfl) (fun _ _ _ h => h) hHeld (by rfl) ?_
                try simp only [Act.put, List.setIfInBounds_toArray, List.set_cons_zero, List.set_cons_succ]
                refine takeOut 35 84 rfl rfl (by kernel_rfl) (by kernel_rfl) (by kernel_rfl) (fun _ _ _ h => h) hHeld (by rfl) ?_
                try simp only [Act.put, List.setIfInBounds_toArray, List.set_cons_zero, List.set_cons_succ]
                refine takeOut 36 85 rfl rfl (by kernel_rfl) (by kernel_rfl) (by kernel_rfl) (fun _ _ _ h => h) hHeld (by rfl) ?_
                try simp only [Act.put, List.setIfInBounds_toArray, List.set_cons_zero, List.set_cons_succ]
                refine takeIn (v := ?_) 37 86 rfl rfl (by kernel_rfl) (by kernel_rfl) (by kernel_rfl) (fun _ _ _ h => h) hHeld (by rfl) ?_ ?_
                rotate_left
                · (intro w' hSw; (try dsimp only at hSw); go_simp) <;> with_reducible rfl
                try simp only [Act.put, List.setIfInBounds_toArray, List.set_cons_zero, List.set_cons_succ]
                refine takeIn (v := ?_) 38 87 rfl rfl (by kernel_rfl) (by kernel_rfl) (by kernel_rfl) (fun _ _ _ h => h) hHeld (by rfl) ?_ ?_
                rotate_left
                · (intro w' hSw; (try dsimp only at hSw); go_simp) <;> with_reducible rfl
                try simp only [Act.put, List.setIfInBounds_toArray, List.set_cons_zero, List.set_cons_succ]
                refine wpAnyH_done (by kernel_rfl) ?_ _
                go_wp2
                go_meet
                exact ⟨by first | rfl | (rw [hdd]; rfl), hbc, (show K75 _ from .inr (.inl rfl))⟩
          · rw [manyA_ge hL1] at cm
            have hdd : decide (L + 1 < a) = false := decide_eq_false (by omega)
            go_quiet (fail)
            go_wp2
            go_meet
            exact ⟨by rw [hdd]; simp, below_drewN (Below.refl _ _) _, (show K75 _ from .inl rfl)⟩
        obtain ⟨rfl, HW4, H75'⟩ := hcut
        obtain ⟨we, rfl⟩ : ∃ we, we = wc := ⟨_, rfl⟩
        clear ym xm g0 g1 hl1 hl2 cm cq hl3 HFA
        cases htk : (!fb && decide (L + 1 < a))
        case false =>
          have hno : ¬ ((!fb) = true ∧ L + 1 < a) := fun h => by rw [h.1, decide_eq_true h.2] at htk; cases htk
          have HE := Lib.hid (HSK.out we HW4.out hno)
          clear htk hno
          go_wp2
          go_roundg (l.length - (m + 1))
          case measure => omega
          case rel => exact ⟨m + 1, by omega, by omega, by omega, by go_num, HE.out, H75'.out⟩
        case true =>
          have hyes : (!fb) = true ∧ L + 1 < a := by simpa using htk
          have HE := Lib.hid (HTK.out we HW4.out hyes)
          have hL1 : L < 1000 := by omega
          obtain ⟨mx, nl, h1, h2, h3, h4, h5, h6, h7, h8, h9, h10⟩ := HIB.out we HW4.out
          have cm := h1.cell (h5 m (by omega) hml)
          rw [← HLL.out, manyA_lt hL1] at cm
          have cq := h1.cell h7
          obtain ⟨z, hz⟩ : ∃ z, nl[q]? = some z := ⟨nl[q]'(by omega), by simp⟩
          have cn := h2.cell hz
          have z1 := h1.free q
          have z2 := h2.free q
          have hl1 := h1.lt
          have hl2 := h2.lt
          have hne := HNE.out
          have hne' : bn ≠ bm := Ne.symm HNE.out
          have hwr : IntKind.i64.wrap ((L : Int) + 1 + 1) = (L : Int) + 1 + 1 := IntWalk.i64_in _ (by omega)
          clear htk hyes h1 h2 h3 h4 h5 h6 h7 h8 h9 h10 hz hL1
          go_wp2
          go_roundg (l.length - (m + 1))
          case measure => omega
          case rel => exact ⟨m + 1, by omega, by omega, by omega, by go_num, HE.out, H75'.out⟩
      · obtain rfl : m = l.length := by omega
        have HMS := Lib.hid (HI.out.toMS hq)
        go_wp2
        go_roundg q
        case measure => omega
        case rel => exact ⟨q, (q : Int) - 1, by omega, Nat.le_refl _, rfl, by omega, by omega, (show _ = _ from rfl), HMS.out, H75.out⟩
end Go.Proofs.Ytlomnfaedhgciaa

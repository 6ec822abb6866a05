/- MarkBreaksApart: breaks have no tick in common, and a cue that comes twice does nothing the second time. -/
import Derived.Test.YtaknkldbdijkeaaInsW
import Derived.Test.YtaknkldbdijkeaaApt
import Derived.Test.YtaknkldbdijkeaaPbrk
import Derived.Test.YtaknkldbdijkeaaEqBK
import Derived.Test.YtaknkldbdijkeaaCtI
import Derived.Test.YtaknkldbdijkeaaSum
import Derived.Deep.RegionHeld3
namespace Go.Proofs.Ytaknkldbdijkeaa
open Go.RowKit

theorem ins_any (w : World) (base vb i : Nat) (l : List Hrd) (x : Hrd) (v : Value) (hown : Own w base 42 7 encH v l) (hbase : base ≤ w.heap.size) (hlen : l.length ≤ 1000) (hi : i ≤ l.length) (hne : l ≠ []) (hvb : w.heap[vb]? = some (.cells (encH x).toArray 42 (0, 0))) (hoff : offB vb v) :
    Calls Try.prog 15 #[v, .int .i64 i, .slice (some ⟨vb, 0, none⟩) 1 1] w (InsPost w base (l.take i ++ x :: l.drop i)) := by
  obtain ⟨g, cap, rfl, h1, h2, h3, h4, _⟩ := Own.getk encH_len hown hne
  have hg : vb ≠ g := fun e => hoff _ _ _ rfl e.symm
  by_cases e1 : i = l.length
  · subst e1
    have := ins_end w base g cap vb l x hown hbase hlen hvb
    rw [List.take_length, List.drop_length]
    exact this
  · by_cases e2 : l.length + 1 ≤ cap
    · exact ins_room w base g cap vb i l x hown hlen (by omega) e2 hvb hg
    · obtain rfl : cap = l.length := by omega
      exact ins_grow w base g vb i l x hown hbase hlen (by omega) hvb
/-- The literal is laid behind the copy. -/
theorem insA_any (w : World) (base a : Nat) (l : List Hrd) (x : Hrd) (v : Value) (hown : Own w base 42 7 encH v l) (hbase : base ≤ w.heap.size) (hlen : l.length ≤ 1000) (ha : a < l.length) :
    Calls Try.prog 15 #[v, .int .i64 ((a : Int) + 1), .slice (some ⟨w.heap.size, 0, none⟩) 1 1] (w.alloc (boxH x.at_ x.cu)) (InsPost (w.alloc (boxH x.at_ x.cu)) base (dupL l a x)) := by
  have h := ins_any (w.alloc (boxH x.at_ x.cu)) base w.heap.size (a + 1) l x v (hown.al _) (by simp; omega) hlen (by omega) (by intro e; rw [e] at ha; simp at ha) (block_new w _) (fun b n c hv hb => by
    subst hv
    have := (World.ownsRow.lt hown b.block (by
      obtain ⟨g, cap, he, _⟩ := Own.getk encH_len hown (by intro e; rw [e] at ha; simp at ha)
      simp only [Value.slice.injEq, Option.some.injEq] at he
      obtain ⟨rfl, _⟩ := he
      rfl)).2
    omega)
  have e : (((a + 1 : Nat) : Int)) = (a : Int) + 1 := by omega
  rw [e] at h
  exact h
/-- The literal is laid ahead of the copy. -/
theorem insB_any (w : World) (base vb a : Nat) (l : List Hrd) (x : Hrd) (v : Value) (hown : Own w base 42 7 encH v l) (hbase : base ≤ w.heap.size) (hlen : l.length ≤ 1000) (ha : a < l.length) (hvb : w.heap[vb]? = some (boxH x.at_ x.cu)) (hlt : vb < base) :
    Calls Try.prog 15 #[v, .int .i64 ((a : Int) + 1), .slice (some ⟨vb, 0, none⟩) 1 1] w (InsPost w base (dupL l a x)) := by
  have h := ins_any w base vb (a + 1) l x v hown hbase hlen (by omega) (by intro e; rw [e] at ha; simp at ha) hvb (hown.offB hlt)
  have e : (((a + 1 : Nat) : Int)) = (a : Int) + 1 := by omega
  rw [e] at h
  exact h
theorem brk_no {l : List Hrd} (h : brkF l ≠ 0) : brkL l = [] ∧ brkI l = [] := ⟨by unfold brkL; rw [if_neg h], by unfold brkI; rw [if_neg h]⟩

set_option maxRecDepth 100000 in
set_option maxHeartbeats 8000000 in
theorem apart_any (w : World) (l : List Hrd) (v : Value) (n : Int) (hl : Sl w 7 encH v l) (hn : -9223372036854775808 ≤ n ∧ n ≤ 9223372036854775807) :
    Calls Try.prog 5 #[v, .int .i64 n] w fun e w' => e = .returned (.bool true) ∧ Below w.heap.size w w' := by
  have HL := Lib.hid hl
  have H1 := Lib.hid (breaks_any w l v hl)
  have HNO := Lib.hid (fun (h : brkF l ≠ 0) => brk_no h)
  have HRT := Lib.hid (fun (h : brkF l = 0) => brk_right h)
  have HDP := Lib.hid (fun (a : Nat) (x : Hrd) (hh : l[a]? = some x) (h5 : l.length < 500) (h : brkF l = 0) => dup_brk hh h5 h)
  obtain ⟨ao, cap, rfl, hcap, hmax, hnil, hel⟩ := hl
  unfold maxLen at hmax
  have HEL := Lib.hid hel
  clear hel hnil
  generalize brkL l = L at H1 HNO HRT HDP
  generalize brkI l = I at H1 HNO HDP
  generalize brkF l = F at H1 HNO HRT HDP
  go_enter Try.func5, Try.ntmps5
  go_wp2_with fail
  refine H1.out.mono ?_
  rintro e w1 ⟨v1, u1, rfl, hs1, hi1, hb1⟩
  have HB1 := Lib.hid hb1
  have HS1 := Lib.hid hs1
  have HI1 := Lib.hid hi1
  obtain ⟨bo, bc, rfl, hbc1, hbc2, _, _⟩ := hs1
  obtain ⟨io, ic, rfl, hic1, hic2, _, _⟩ := hi1
  unfold maxLen at hbc2 hic2
  clear hb1
  by_cases hF : F = 0
  case neg =>
    obtain ⟨rfl, rfl⟩ := HNO.out hF
    go_wp2_with (go_at_call 11; refine (awake_any _).mono ?_; rintro e w5 ⟨rfl, hb5⟩)
    go_ret
    exact ⟨rfl, HB1.out.thru hb5⟩
  subst hF
  have HCB : Hid (Calls Try.prog 8 #[.slice bo L.length bc] w1 fun e w' => e = .returned (.int .i64 0) ∧ Below w1.heap.size w1 w') := Lib.hid (by have := checkBreaks_any w1 L _ HS1.out; rw [HRT.out rfl] at this; exact this)
  go_upto_region 6 with (go_at_call 8; refine HCB.out.mono ?_; rintro e w2 ⟨rfl, hb2⟩; have HB2 := Lib.hid (HB1.out.thru hb2); have HS2 := Lib.hid (HS1.out.below hb2 (Nat.le_refl _)); have HI2 := Lib.hid (HI1.out.below hb2 (Nat.le_refl _)); clear hb2)
  clear HS1 HI1 H1 HNO HRT HCB
  by_cases hn0 : n < 0
  · go_wp2_with (go_at_call 11; refine (awake_any _).mono ?_; rintro e w5 ⟨rfl, hb5⟩)
    go_ret
    exact ⟨rfl, HB2.out.thru hb5⟩
  by_cases hn1 : n ≥ (l.length : Int)
  · have hn1' : (l.length : Int) ≤ n := hn1
    go_wp2_with (go_at_call 11; refine (awake_any _).mono ?_; rintro e w5 ⟨rfl, hb5⟩)
    go_ret
    exact ⟨rfl, HB2.out.thru hb5⟩
  have hn1' : ¬ (l.length : Int) ≤ n := hn1
  by_cases hn2 : (l.length : Int) ≥ 500
  · have hn2' : (500 : Int) ≤ (l.length : Int) := hn2
    go_wp2_with (go_at_call 11; refine (awake_any _).mono ?_; rintro e w5 ⟨rfl, hb5⟩)
    go_ret
    exact ⟨rfl, HB2.out.thru hb5⟩
  have hn2' : ¬ (500 : Int) ≤ (l.length : Int) := hn2
  obtain ⟨a, rfl⟩ : ∃ a : Nat, n = (a : Int) := ⟨n.toNat, by omega⟩
  have ha : a < l.length := by omega
  have haz : (a : Int) < (l.length : Int) := by omega
  have hwa : IntKind.i64.wrap ((a : Int) + 1) = (a : Int) + 1 := IntWalk.i64_in _ (by omega)
  obtain ⟨x, hx⟩ : ∃ x, l[a]? = some x := ⟨l[a], by simp [ha]⟩
  have HD := Lib.hid (HDP.out a x hx (by omega) (by first | rfl | trivial))
  obtain ⟨b, off, rfl, hcc⟩ := HEL.out a x hx
  have HCC := Lib.hid hcc
  clear HDP HEL hcc hx
  have HSS : Hid (∀ W : World, Below w2.heap.size w2 W → (W.cell? ⟨b, off + a * 7, none⟩ = some (.int .i64 x.at_) ∧ W.cell? ⟨b, off + a * 7 + 1, none⟩ = some (.int .i64 x.cu.ki) ∧ W.cell? ⟨b, off + a * 7 + 2, none⟩ = some (.int .i64 x.cu.ev) ∧ W.cell? ⟨b, off + a * 7 + 3, none⟩ = some (.bool x.cu.no) ∧ W.cell? ⟨b, off + a * 7 + 4, none⟩ = some (.int .i64 x.cu.ti) ∧ W.cell? ⟨b, off + a * 7 + 5, none⟩ = some (.int .i64 x.cu.le) ∧ W.cell? ⟨b, off + a * 7 + 6, none⟩ = some (.bool x.cu.au))) := Lib.hid (fun W hb => by
    have hlt : b < w.heap.size := World.block_lt_of_cell? w _ (HCC.out 0 _ rfl)
    have toW : ∀ o u, w.cell? ⟨b, o, none⟩ = some u → W.cell? ⟨b, o, none⟩ = some u := fun o u hu => ((HB2.out.trans (hb.mono HB2.out.size)).cell (p := ⟨b, o, none⟩) hlt).trans hu
    exact ⟨toW _ _ (by have h := HCC.out 0 _ rfl; simpa using h), toW _ _ (HCC.out 1 _ rfl), toW _ _ (HCC.out 2 _ rfl), toW _ _ (HCC.out 3 _ rfl), toW _ _ (HCC.out 4 _ rfl), toW _ _ (HCC.out 5 _ rfl), toW _ _ (HCC.out 6 _ rfl)⟩)
  have HCL : Hid (∀ W : World, Below w2.heap.size w2 W → Calls Try.prog 16 #[.slice (some ⟨b, off, none⟩) l.length cap] W (OwnRet W 42 7 encH l)) := Lib.hid (fun W hb => cloneH_any W l _ (HL.out.below (HB2.out.trans (hb.mono HB2.out.size)) (Nat.le_refl _)) (by omega))
  have hbc : Below w2.heap.size w2 w2.drew := (Below.refl _ w2).drew
  have HBL : Hid (Below w2.heap.size w2 (w2.alloc (boxH x.at_ x.cu)).drew) := Lib.hid ((Below.refl _ w2).alloc (Nat.le_refl _) _).drew
  have HLS : Hid (w2.heap.size < (w2.alloc (boxH x.at_ x.cu)).drew.heap.size) := Lib.hid (by show w2.heap.size < (w2.alloc (boxH x.at_ x.cu)).heap.size; simp)
  have HLB : Hid ((w2.alloc (boxH x.at_ x.cu)).drew.heap[w2.heap.size]? = some (boxH x.at_ x.cu)) := Lib.hid (block_new w2 (boxH x.at_ x.cu))
  obtain ⟨D, hD⟩ : ∃ D, D = dupL l a x := ⟨_, rfl⟩
  rw [← hD] at HD
  have HDQ := Lib.hid hD
  clear hD
  go_upto_region 8 with (fail)
  go_cut [8] (fun s8 wc => Aside (Sl wc 7 encH s8 D) ∧ Aside (Below w2.heap.size w2 wc))
  case first =>
    go_region_held3 (fun W => W.cell? ⟨b, off + a * 7, none⟩ = some (.int .i64 x.at_) ∧ W.cell? ⟨b, off + a * 7 + 1, none⟩ = some (.int .i64 x.cu.ki) ∧ W.cell? ⟨b, off + a * 7 + 2, none⟩ = some (.int .i64 x.cu.ev) ∧ W.cell? ⟨b, off + a * 7 + 3, none⟩ = some (.bool x.cu.no) ∧ W.cell? ⟨b, off + a * 7 + 4, none⟩ = some (.int .i64 x.cu.ti) ∧ W.cell? ⟨b, off + a * 7 + 5, none⟩ = some (.int .i64 x.cu.le) ∧ W.cell? ⟨b, off + a * 7 + 6, none⟩ = some (.bool x.cu.au))
      (first | exact HSS.out _ hbc | exact HSS.out _ HBL.out | exact HSS.out _ (hbc.alloc hbc.size _) | fail "keep")
      (first | (go_at_call 16; ((with_reducible refine (HCL.out _ hbc).mono ?_); rintro e wk ⟨vk, rfl, hok, hbk⟩; have HOK := Lib.hid hok; have HBK := Lib.hid hbk; have hks := hbk.size; replace hbc := hbc.thru hbk; clear hok hbk))
             | (go_at_call 16; ((with_reducible refine (HCL.out _ HBL.out).mono ?_); rintro e wk ⟨vk, rfl, hok, hbk⟩; have HOK := Lib.hid hok; have HBK := Lib.hid hbk; have hks := hbk.size; have HKB := Lib.hid ((hbk.block _ HLS.out).trans HLB.out); replace hbc := HBL.out.thru hbk; clear hok hbk))
             | (go_at_call 15; ((with_reducible refine (insA_any wk _ a l x vk HOK.out hks (by omega) ha).mono ?_); rintro e wi ⟨vi, rfl, hoi, hbi⟩; rw [← HDQ.out] at hoi; have HSI := Lib.hid (hoi.sl encH_len); replace hbc := (hbc.alloc hbc.size (boxH x.at_ x.cu)).trans (hbi.mono (Nat.le_refl _)); clear hoi hbi))
             | (go_at_call 15; ((with_reducible refine (insB_any wk _ w2.heap.size a l x vk HOK.out hks (by omega) ha HKB.out HLS.out).mono ?_); rintro e wi ⟨vi, rfl, hoi, hbi⟩; rw [← HDQ.out] at hoi; have HSI := Lib.hid (hoi.sl encH_len); replace hbc := hbc.trans (hbi.mono (Nat.le_of_lt HLS.out)); clear hoi hbi)) | fail "arms")
    all_goals
      go_wp2
      go_meet
      exact ⟨HSI.out, hbc⟩
  obtain ⟨HSD, HBD⟩ := hcut
  have HSD := Lib.hid HSD.out
  have HBD := Lib.hid HBD.out
  obtain ⟨e1, e2, e3, e4⟩ := HD.out
  have h3 := breaks_any wc D _ HSD.out
  rw [e1, e2] at h3
  obtain ⟨J, hJ⟩ : ∃ J, J = brkI D := ⟨_, rfl⟩
  rw [← hJ] at h3 e3 e4
  have H3 := Lib.hid h3
  have HJ3 := Lib.hid e3
  have HJ4 := Lib.hid e4
  have HB4 := Lib.hid (HB2.out.thru HBD.out)
  clear h3 e1 e2 e3 e4 hJ HCL HSS HD HCC hbc HBL HLS HLB
  go_wp2_with fail
  refine H3.out.mono ?_
  rintro e w3 ⟨v3, u3, rfl, hs3, hi3, hb3⟩
  have HB5 := Lib.hid (HB4.out.thru hb3)
  have hb23 := HBD.out.thru hb3
  have HS3 := Lib.hid (HS2.out.below hb23 (Nat.le_refl _))
  have HEB : Hid (Calls Try.prog 10 #[.slice bo L.length bc, v3] w3 fun e w' => e = .returned (.bool true) ∧ Below w3.heap.size w3 w') := Lib.hid ((equalB w3 L L _ v3 HS3.out hs3).mono fun _ _ ⟨he, hb⟩ => ⟨he.trans (ret_bool (decide_eq_true rfl)), hb⟩)
  have HI3 := Lib.hid hi3
  obtain ⟨jo, jc, rfl, hjc1, hjc2, _, _⟩ := hi3
  unfold maxLen at hjc2
  have HCT := Lib.hid (fun W (h : Below w3.heap.size w3 W) => containsI_yes W J (.slice jo J.length jc) ((a : Int) + 1) (HI3.out.below h (Nat.le_refl _)) HJ4.out)
  have hj := HJ3.out
  have hjz : (J.length : Int) = (I.length : Int) + 1 := by omega
  have hwi : IntKind.i64.wrap ((I.length : Int) + 1) = (I.length : Int) + 1 := IntWalk.i64_in _ (by omega)
  have hji : 0 ≤ (I.length : Int) := by omega
  clear hs3 hb3 hb23 hj
  go_wp2_with (first | (go_at_call 10; refine HEB.out.mono ?_; rintro e w6 ⟨rfl, hb6⟩; have HB6 := Lib.hid hb6; clear hb6) | (go_at_call 17; refine (HCT.out _ HB6.out).mono ?_; rintro e w7 ⟨rfl, hb7⟩; have HB7 := Lib.hid ((HB5.out.thru HB6.out).thru hb7); clear hb7) | (go_at_call 11; refine (awake_any _).mono ?_; rintro e w5 ⟨rfl, hb5⟩))
  go_ret
  exact ⟨rfl, HB7.out.thru hb5⟩
end Go.Proofs.Ytaknkldbdijkeaa

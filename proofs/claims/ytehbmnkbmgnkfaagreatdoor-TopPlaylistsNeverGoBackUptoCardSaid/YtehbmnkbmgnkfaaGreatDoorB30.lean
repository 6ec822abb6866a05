/- Slide of playlists. -/
import Derived.Test.YtehbmnkbmgnkfaaGreatDoorB29
import Derived.Test.YtehbmnkbmgnkfaaGreatDoorB04
import Derived.Test.YtehbmnkbmgnkfaaGreatDoorB09
namespace Go.Proofs.YtehbmnkbmgnkfaaGreatDoor
open Go.RowKit

theorem Sl.dropAe {α : Type} {w : World} {k : Nat} {enc : α → List Value} {l : List α} {b off cap : Nat} (h : Sl w k enc (.slice (some ⟨b, off, none⟩) l.length cap) l) {A : Addr} (i : Nat) (hi : i ≤ l.length)
    (hA : (if cap = i then (some ⟨b, off, none⟩ : Option Addr) else some ⟨b, off + i * k, none⟩) = some A) : Sl w k enc (.slice (some A) (l.length - i) (cap - i)) (l.drop i) := by
  obtain ⟨ao, cap', he, h2, h3, h4, hel⟩ := h
  simp only [Value.slice.injEq, true_and] at he
  obtain ⟨rfl, rfl⟩ := he
  by_cases e : cap = i
  · rw [if_pos e] at hA
    cases hA
    refine ⟨some ⟨b, off, none⟩, cap - i, by rw [List.length_drop], by rw [List.length_drop]; omega, by omega, fun h => by simp at h, fun j x hx => ?_⟩
    have : (l.drop i)[j]? = none := by rw [List.getElem?_eq_none]; rw [List.length_drop]; omega
    rw [this] at hx; cases hx
  · rw [if_neg e] at hA
    cases hA
    refine ⟨some ⟨b, off + i * k, none⟩, cap - i, by rw [List.length_drop], by rw [List.length_drop]; omega, by omega, fun h => by simp at h, fun j x hx => ⟨b, off + i * k, rfl, fun t u hu => ?_⟩⟩
    rw [List.getElem?_drop] at hx
    obtain ⟨b', off', hb, hc⟩ := hel _ x hx
    simp only [Option.some.injEq, Addr.mk.injEq, and_true] at hb
    obtain ⟨rfl, rfl⟩ := hb
    have := hc t u hu
    rw [← this, Nat.add_mul, ← Nat.add_assoc]
theorem EnO.dropS {W : World} {base b off L cap g : Nat} {l : List Ent} {A : Addr} (h : EnO W base (.slice (some ⟨b, off, none⟩) L cap) l) (hg : g ≤ L)
    (hA : (if cap = g then (some ⟨b, off, none⟩ : Option Addr) else some ⟨b, off + g * 7, none⟩) = some A) : EnS W (.slice (some A) (L - g) (cap - g)) (l.drop g) := by
  obtain ⟨q, h1, rfl, h3⟩ := h
  have hs := h1.sl encEn_len
  have hL : L = q.length := by
    obtain ⟨ao, cap', he, _⟩ := hs
    cases he; rfl
  subst hL
  exact ⟨q.drop g, hs.dropAe g hg hA, by rw [List.map_drop], fun p hp => (h3 p (List.mem_of_mem_drop hp)).sl encS_len⟩
theorem EnO.two {W : World} {base : Nat} {v : Value} {l : List Ent} (h : EnO W base v l) : (v = .slice none 0 0 ∧ l = []) ∨ ∃ b cap, v = .slice (some ⟨b, 0, none⟩) l.length cap ∧ l.length ≤ cap ∧ cap ≤ maxLen := by
  obtain ⟨q, h1, rfl, h3⟩ := h
  rcases Own.slw h1 with ⟨rfl, rfl⟩ | ⟨g, cap, rfl⟩
  · exact .inl ⟨rfl, rfl⟩
  · obtain ⟨ao, cap', he, h4, h5, _⟩ := h1.sl encEn_len
    cases he
    exact .inr ⟨g, cap, by rw [List.length_map], by rw [List.length_map]; exact h4, h5⟩
def SldP (w : World) (l : Lst) : Ending → World → Prop := fun e w' => ∃ l' v' n f, e = .returned (.tuple #[agLs l' v', .int .i64 n, .int .i64 f]) ∧ EnF w.heap.size w' v' l'.en ∧ (f = 0 → Fol l l' ∧ WfLs l') ∧ Below w.heap.size w w'
theorem SldP.bad {w w' : World} {l : Lst} {f : Int} (hf : f ≠ 0) (hb : Below w.heap.size w w') : SldP w l (.returned (.tuple #[aggZ, .int .i64 0, .int .i64 f])) w' := ⟨default, .slice none 0 0, 0, f, rfl, EnF.nil, fun h => absurd h hf, hb⟩
/-- While it slides. -/
structure SldW (w2 w3 : World) (G : Nat) (l : Lst) (v4 : Value) (g : Nat) (W : World) : Prop where
  bk : BkLs W G { l with br := l.br + cntB (l.en.take g) } v4
  ow : EnO W w3.heap.size v4 l.en
  be : Below w2.heap.size w2 W

set_option maxRecDepth 100000 in
set_option maxHeartbeats 8000000 in
theorem slideL_any (w : World) (l : Lst) (v : Value) (k : Int) (hl : EnS w v l.en) (hw : WfLs l) :
    Calls Tryz.prog 14 #[agLs l v, .int .i64 k] w (SldP w l) := by
  obtain ⟨w2, hw2⟩ : ∃ w2, w2 = (w.alloc (litL l v)).alloc litZ := ⟨_, rfl⟩
  have hs2 : w2.heap.size = w.heap.size + 2 := by rw [hw2]; simp
  have HB2 : Hid (Below w.heap.size w w2) := Lib.hid (by rw [hw2]; exact ((Below.refl _ w).alloc (Nat.le_refl _) _).alloc (by simp) _)
  have hk0 : BkLs w2 w.heap.size l v := by
    have h1 := BkLs.new w l v
    rw [hw2]
    exact h1.below ((Below.refl _ _).alloc (Nat.le_refl _) _) h1.lt
  have hk1 : BkLs w2 (w.heap.size + 1) default (.slice none 0 0) := by
    have e : w.heap.size + 1 = (w.alloc (litL l v)).heap.size := by simp
    rw [hw2, e]
    exact BkLs.new _ default _
  have HCK := Lib.hid (chkLs_any w2 l v (hl.below HB2.out) hw)
  have HCP : Hid (∀ W, Below w2.heap.size w2 W → Calls Tryz.prog 32 #[agLs l v] W (CpyP W l)) := Lib.hid (fun W h => copyList_any W l v ((hl.below HB2.out).below h) hw)
  have HLE : Hid (∀ W, Below w2.heap.size w2 W → GdL l → Calls Tryz.prog 34 #[agLs l v] W fun e w' => e = .returned (.int .i64 (lenE l.en)) ∧ Below W.heap.size W w') := Lib.hid (fun W h hg => lenL_any W l v ((hl.below HB2.out).below h) hg)
  have HOU : Hid (∀ W, Calls Tryz.prog 20 #[.int .i64 k, .int .i64 0, .int .i64 1000000000000000] W fun e w' => e = .returned (.bool (outB k 0 1000000000000000)) ∧ W = w') := Lib.hid (fun W => out_any _ _ _ W)
  have HOK := Lib.hid (@outB_no k 0 1000000000000000)
  have HK0 := Lib.hid hk0
  have HK1 := Lib.hid hk1
  have HW2 := Lib.hid hw2
  have HS2 := Lib.hid hs2
  have HGD := Lib.hid (@chkL_zero l)
  have HWL := Lib.hid hw
  obtain ⟨ao, cap, rfl, hcap, hmax, -, hel⟩ := hl.op
  have HEL := Lib.hid hel
  unfold maxLen at hmax
  obtain ⟨b0, b1, b2, b3, b4⟩ := hk0.cells
  obtain ⟨F, hF⟩ : ∃ F, F = chkL l := ⟨_, rfl⟩
  rw [← hF] at HCK HGD
  generalize outB k 0 1000000000000000 = OK at HOU HOK
  clear hw2 hk0 hk1 hs2 hl hw hF hel
  go_enter Tryz.func14, Tryz.ntmps14
  go_upto_region 1 with (fail)
  rw [← HW2.out]
  clear HW2
  go_wp2_with fail
  refine HCK.out.mono ?_
  rintro e w3 ⟨rfl, hb3⟩
  have HB3 := Lib.hid hb3
  have HC2 := Lib.hid (HCP.out w3 hb3)
  have hq1 := HS2.out
  have hk1 := HK1.out.below hb3 (by omega)
  have hk0 := HK0.out.below hb3 (by omega)
  have HO3 := Lib.hid (HOU.out w3)
  clear hb3 b0 b1 b2 b3 b4 hq1
  obtain ⟨b0, b1, b2, b3, b4⟩ := hk0.cells
  obtain ⟨z0, z1, z2, z3, z4⟩ := hk1.cells
  have g0 := hk1.frz 0
  have g1 := hk1.frz 1
  have g2 := hk1.frz 2
  have g3 := hk1.frz 3
  have g4 := hk1.frz 4
  by_cases hF : F = 0
  rotate_left
  next =>
    have HF := Lib.hid hF
    go_upto_region 3 with (fail)
    repeat (first | go_values | go_skip | go_guarded | go_step | go_upon)
    refine bodyPost_ret (v := .tuple #[aggZ, .int .i64 0, .int .i64 F]) (by simp [results, Tryz.results14, go_sem, z0, z1, z2, z3, z4]) rfl (SldP.bad HF.out ?_)
    exact below_set5 (HB2.out.thru HB3.out) (Nat.le_succ _) _ _ _ _ _
  subst hF
  have hgd := HGD.out rfl
  have HGQ := Lib.hid hgd
  have hln := hgd.ln
  have hfi := hgd.fi
  have hbr := hgd.br
  clear hgd
  cases OK
  rotate_left
  next =>
    go_upto_region 5 with (go_at_call 20; (with_reducible refine HO3.out.mono ?_); rintro e w' ⟨rfl, rfl⟩)
    repeat (first | go_values | go_skip | go_guarded | go_step | go_upon)
    refine bodyPost_ret (v := .tuple #[aggZ, .int .i64 0, .int .i64 1]) (by simp [results, Tryz.results14, go_sem, z0, z1, z2, z3, z4]) rfl (SldP.bad (by decide) ?_)
    exact below_set5 (HB2.out.thru HB3.out) (Nat.le_succ _) _ _ _ _ _
  obtain ⟨hkl, hkh⟩ := HOK.out rfl
  obtain ⟨ED, hED⟩ : ∃ ED, ED = l.ed := ⟨_, rfl⟩
  rw [← hED] at b4
  have HED := Lib.hid hED
  have b4r : ED = true ∨ ED = false := by cases ED <;> simp
  clear hED HOK HOU
  cases ED
  rotate_left
  next =>
    go_upto_region 7 with (go_at_call 20; (with_reducible refine HO3.out.mono ?_); rintro e w' ⟨rfl, rfl⟩)
    repeat (first | go_values | go_skip | go_guarded | go_step | go_upon)
    refine bodyPost_ret (v := .tuple #[aggZ, .int .i64 0, .int .i64 11]) (by simp [results, Tryz.results14, go_sem, z0, z1, z2, z3, z4]) rfl (SldP.bad (by decide) ?_)
    exact below_set5 (HB2.out.thru HB3.out) (Nat.le_succ _) _ _ _ _ _
  clear b4r
  go_upto_region 8 with (go_at_call 20; (with_reducible refine HO3.out.mono ?_); rintro e w' ⟨rfl, rfl⟩)
  clear b4 HO3
  have b4 := hk0.cells.2.2.2.2
  go_wp2_with fail
  unfold CpyP at HC2
  refine HC2.out.mono ?_
  rintro e w4 ⟨v4, rfl, ho4, hb4⟩
  have HO4 := Lib.hid ho4
  obtain ⟨oa, on, oc, rfl⟩ := ho4.slv
  have HB4 := Lib.hid (HB3.out.thru hb4)
  have hsz3 := HB3.out.size
  have hsz4 := hb4.size
  have hq1 := HS2.out
  obtain ⟨G, hG⟩ : ∃ G, G = w4.heap.size := ⟨_, rfl⟩
  have hk8 := BkLs.new w4 l (.slice oa on oc)
  obtain ⟨w5, hw5⟩ : ∃ w5, w5 = w4.alloc (litL l (.slice oa on oc)) := ⟨_, rfl⟩
  have HO5 : Hid (EnO w5 w3.heap.size (.slice oa on oc) l.en) := Lib.hid (by rw [hw5]; exact HO4.out.below ((Below.refl _ _).alloc (Nat.le_refl _) _))
  have HB5 : Hid (Below w2.heap.size w2 w5) := Lib.hid (by rw [hw5]; exact HB4.out.alloc HB4.out.size _)
  have hbG : w2.heap.size ≤ G := by omega
  have hneG : w.heap.size + 1 ≠ G := by omega
  rw [← hG, ← hw5] at hk8
  have HL5 := Lib.hid (HLE.out w5 HB5.out HGQ.out)
  obtain ⟨c0, c1, c2, c3, c4⟩ := (HK0.out.below HB5.out (by omega)).cells
  have HNEG := Lib.hid hneG
  have HBG := Lib.hid hbG
  have HK8 := Lib.hid hk8
  have HW5 := Lib.hid hw5
  have HG := Lib.hid hG
  clear ho4 hb4 hsz3 hsz4 hq1 hk0 hk1 hk8 hw5 hG hbG hneG b0 b1 b2 b3 b4 z0 z1 z2 z3 z4 g0 g1 g2 g3 g4
  go_upto_region 10 with (fail)
  rw [← HW5.out, ← HG.out]
  clear HW5 HG HC2 HCP HCK HLE
  go_wp2_with (go_at_call 34; (with_reducible refine HL5.out.mono ?_); rintro e w6 ⟨rfl, hb6⟩; have HB6 := Lib.hid hb6; clear hb6)
  have HST : Hid (SldW w2 w3 G l (.slice oa on oc) 0 w6) := Lib.hid ⟨by
    have h := HK8.out.below HB6.out HK8.out.lt
    simp only [List.take_zero, cntB, Int.add_zero]
    exact h, HO5.out.below HB6.out, HB5.out.thru HB6.out⟩
  clear HO4 HO5 HB4 HB5 HB6 HK8 HL5 c0 c1 c2 c3 c4
  go_loopg [9, 10] l.en.length (fun gg s9 s10 wr => ∃ g : Nat, g ≤ l.en.length ∧ l.en.length - g ≤ gg ∧ s9 = .int .i64 g ∧ s10 = .int .i64 (lenE (l.en.drop g)) ∧ Aside (SldW w2 w3 G l (.slice oa on oc) g wr))
  case atStart => exact ⟨0, Nat.zero_le _, by omega, by go_num, by simp, HST.out⟩
  case round =>
    obtain ⟨g, hg, hgg, rfl, rfl, AS⟩ := hrel
    have HAS := Lib.hid AS.out
    clear AS HST
    have hglz : (g : Int) ≤ (l.en.length : Int) := by omega
    have hdb := lenE_bd (l := l.en.drop g) (fun y hy => HGQ.out.en y (List.mem_of_mem_drop hy))
    have hdb2 : (l.en.drop g).length ≤ 1000 := by simp; omega
    have hdb3 : 0 ≤ lenE (l.en.drop g) ∧ lenE (l.en.drop g) ≤ 3600000000 := by omega
    clear hdb hdb2
    obtain ⟨c0, c1, c2, c3, c4⟩ := (HK0.out.below HAS.out.be (by have := HS2.out; omega)).cells
    obtain ⟨D, hD⟩ : ∃ D, D = lenE (l.en.drop g) := ⟨_, rfl⟩
    rw [← hD] at hdb3 ⊢
    have HD := Lib.hid hD
    clear hD
    by_cases hlt : g < l.en.length
    · have hltz : (g : Int) < (l.en.length : Int) := by omega
      obtain ⟨x, hx⟩ : ∃ x, l.en[g]? = some x := ⟨l.en[g], by simp [hlt]⟩
      obtain ⟨b, off, xv, hao, hce, hxs⟩ := HEL.out g x hx
      subst hao
      obtain ⟨e0, e1, e2, e3, e4, e5, e6⟩ := hce.below (HB2.out.thru HAS.out.be)
      have hmi := (HGQ.out.en x (List.mem_of_getElem? hx)).mi
      have HLD := Lib.hid (lenE_drop hx)
      have HCN := Lib.hid (cntB_next hx)
      clear hx hce hxs e0 e3 e4 e5 e6
      have qd : IntKind.i64.wrap (D - x.mi) = D - x.mi := IntWalk.i64_in _ (by omega)
      by_cases hm : k ≤ D - x.mi
      · obtain ⟨d0, d1, d2, d3, d4⟩ := HAS.out.bk.cells
        have f2 := HAS.out.bk.frz 2
        have hcb := cntB_bd (l.en.take g)
        have hcb2 : (l.en.take g).length ≤ 1000 := by simp; omega
        obtain ⟨C, hC⟩ : ∃ C, C = cntB (l.en.take g) := ⟨_, rfl⟩
        rw [← hC] at d2 hcb HCN
        have hcb3 : 0 ≤ C ∧ C ≤ 1000 := by omega
        have HC := Lib.hid hC
        simp only at d2
        clear hC hcb hcb2
        have HDN : Hid (D - x.mi = lenE (l.en.drop (g + 1))) := Lib.hid (by have h1 := HD.out; have h2 := HLD.out; omega)
        obtain ⟨xur, xmi, xbr, xda, xke, xga, xex⟩ := x
        simp only at e1 e2 hmi qd hm HDN HCN
        cases xbr
        · have HSN : Hid (SldW w2 w3 G l (.slice oa on oc) (g + 1) wr) := Lib.hid (by
            refine ⟨?_, HAS.out.ow, HAS.out.be⟩
            have h1 := HCN.out
            simp only [Bool.false_eq_true, if_false, Int.add_zero] at h1
            rw [h1, HC.out]
            exact HAS.out.bk)
          go_wp2_with fail
          go_roundg (l.en.length - (g + 1))
          case measure => omega
          case rel => exact ⟨g + 1, by omega, by omega, by go_num, by rw [HDN.out], HSN.out⟩
        · have HSN : Hid (SldW w2 w3 G l (.slice oa on oc) (g + 1) (wr.setCell ⟨G, 2, none⟩ (.int .i64 (l.br + C + 1)))) := Lib.hid (by
            have h1 := HCN.out
            simp only [if_true] at h1
            refine ⟨?_, HAS.out.ow.setL HAS.out.bk 2 _, HAS.out.be.setCell (p := ⟨G, 2, none⟩) HBG.out _⟩
            rw [h1]
            exact HAS.out.bk.set 2 _ (by rw [← Int.add_assoc]; rfl))
          go_wp2_with fail
          go_roundg (l.en.length - (g + 1))
          case measure => omega
          case rel => exact ⟨g + 1, by omega, by omega, by go_num, by rw [HDN.out], HSN.out⟩
      · clear HLD HCN
        have HOW := Lib.hid HAS.out.ow
        obtain ⟨d0, d1, d2, d3, d4⟩ := HAS.out.bk.cells
        have f1 := HAS.out.bk.frz 1
        have f3 := HAS.out.bk.frz 3
        have hcb := cntB_bd (l.en.take g)
        have hcb2 : (l.en.take g).length ≤ 1000 := by simp; omega
        obtain ⟨C, hC⟩ : ∃ C, C = cntB (l.en.take g) := ⟨_, rfl⟩
        rw [← hC] at d2 hcb
        have hcb3 : 0 ≤ C ∧ C ≤ 1000 := by omega
        have HC := Lib.hid hC
        simp only at d0 d1 d2 d3 d4
        have HBK : Hid (BkLs wr G { l with br := l.br + C } (.slice oa on oc)) := Lib.hid (by rw [hC]; exact HAS.out.bk)
        have HAB := Lib.hid HAS.out.be
        have HZZ := Lib.hid (HK1.out.below HAS.out.be (by have := HS2.out; omega))
        clear hC hcb hcb2 HAS
        have hfz : 0 ≤ l.fi + (g : Int) ∧ l.fi + (g : Int) ≤ 1000000000000000 := by omega
        have hon : on = l.en.length := by
          rcases HOW.out.two with ⟨h1, h2⟩ | ⟨b9, c9, h1, -, -⟩
          · cases h1; rw [h2]; rfl
          · cases h1; rfl
        have hgon : (g : Int) ≤ (on : Int) := by omega
        have hgon2 : g ≤ on := by omega
        have HON := Lib.hid hon
        obtain ⟨nv, hnv, HNS⟩ : ∃ nv : Option Addr, ((Value.slice oa on oc = .slice none 0 0 ∧ g = 0 ∧ nv = none) ∨ ∃ b9 o9, oa = some ⟨b9, o9, none⟩ ∧ on ≤ oc ∧ oc ≤ maxLen ∧ (if oc = g then (some ⟨b9, o9, none⟩ : Option Addr) else some ⟨b9, o9 + g * 7, none⟩) = nv) ∧ ∀ W, EnO W w3.heap.size (.slice oa on oc) l.en → EnS W (.slice nv (on - g) (oc - g)) (l.en.drop g) := by
          rcases HOW.out.two with ⟨h1, h2⟩ | ⟨b9, c9, h1, h2, h3⟩
          · have hg0 : g = 0 := by rw [h2] at hg; simpa using hg
            refine ⟨none, .inl ⟨h1, hg0, rfl⟩, fun W hW => ?_⟩
            cases h1
            rw [h2]
            simp only [List.drop_nil, Nat.zero_sub]
            exact EnS.nil
          · cases h1
            obtain ⟨A, hA⟩ : ∃ A : Addr, (if oc = g then (some ⟨b9, 0, none⟩ : Option Addr) else some ⟨b9, 0 + g * 7, none⟩) = some A := by split <;> exact ⟨_, rfl⟩
            exact ⟨some A, .inr ⟨b9, 0, rfl, h2, h3, hA⟩, fun W hW => hW.dropS hg hA⟩
        have HNS := Lib.hid HNS
        have HWS : Hid (w.heap.size ≤ w3.heap.size) := Lib.hid (HB2.out.thru HB3.out).size
        have HFI : Hid (∀ W, EnO W w3.heap.size (.slice oa on oc) l.en → Below w.heap.size w W → SldP w l (.returned (.tuple #[agLs { l with fi := l.fi + g, br := l.br + C, en := l.en.drop g } (.slice nv (on - g) (oc - g)), .int .i64 g, .int .i64 0])) W) := Lib.hid (fun W h1 h2 => by
          refine ⟨{ l with fi := l.fi + g, br := l.br + cntB (l.en.take g), en := l.en.drop g }, _, _, _, by rw [HC.out], (fun W' hW' => HNS.out W' (h1.at_ fun b hb1 hb2 => hW' b (Nat.le_trans HWS.out hb1) hb2)), fun _ => ⟨fol_slide l g HED.out.symm hg, ?_⟩, h2⟩
          have hC2 := HC.out
          refine ⟨HWL.out.ta, by simp only; omega, by simp only; omega, by simp only [List.length_drop]; omega, fun y hy => HWL.out.en y (List.mem_of_mem_drop hy)⟩)
        obtain ⟨z0, z1, z2, z3, z4⟩ := HZZ.out.cells
        have g0 := HZZ.out.frz 0
        have g1 := HZZ.out.frz 1
        have g2 := HZZ.out.frz 2
        have g3 := HZZ.out.frz 3
        have g4 := HZZ.out.frz 4
        obtain ⟨w7, hw7⟩ : ∃ w7, w7 = (wr.setCell ⟨G, 1, none⟩ (.int .i64 (l.fi + g))).setCell ⟨G, 3, none⟩ (.slice nv (on - g) (oc - g)) := ⟨_, rfl⟩
        have hk1 : BkLs (wr.setCell ⟨G, 1, none⟩ (.int .i64 (l.fi + g))) G { l with fi := l.fi + g, br := l.br + C } (.slice oa on oc) := HBK.out.set 1 _ rfl
        have HK7 : Hid (BkLs w7 G { l with fi := l.fi + g, br := l.br + C } (.slice nv (on - g) (oc - g))) := Lib.hid (by rw [hw7]; exact hk1.set 3 _ rfl)
        have HO7 : Hid (EnO w7 w3.heap.size (.slice oa on oc) l.en) := Lib.hid (by rw [hw7]; exact (HOW.out.setL HBK.out 1 _).setL hk1 3 _)
        have HB7 : Hid (Below w.heap.size w w7) := Lib.hid (by
          have h0 := Nat.le_trans HB2.out.size HBG.out
          rw [hw7]; exact ((HB2.out.thru HAB.out).setCell (p := ⟨G, 1, none⟩) h0 _).setCell (p := ⟨G, 3, none⟩) h0 _)
        have HZ7 : Hid (BkLs w7 (w.heap.size + 1) default (.slice none 0 0)) := Lib.hid (by rw [hw7]; exact (HZZ.out.other HNEG.out 1 _).other HNEG.out 3 _)
        have HW7 := Lib.hid hw7
        clear hw7 hk1 hon
        rcases hnv with ⟨hnv1, hnv2, hnv3⟩ | ⟨b9, o9, hnv1, hnv2, hnv3, hnv4⟩
        · simp only [Value.slice.injEq] at hnv1
          obtain ⟨rfl, rfl, rfl⟩ := hnv1
          subst hnv2
          subst hnv3
          go_upto_region 18 with (fail)
          have e7 : (wr.setCell ⟨G, 1, none⟩ (.int .i64 l.fi)).setCell ⟨G, 3, none⟩ (.slice none 0 0) = w7 := by rw [HW7.out]; simp
          first | rw [e7] | rw [← HW7.out]
          clear e7
          clear d0 d1 d2 d3 d4 f1 f3 z0 z1 z2 z3 z4 g0 g1 g2 g3 g4 c0 c1 c2 c3 c4
          obtain ⟨d0, d1, d2, d3, d4⟩ := HK7.out.cells
          obtain ⟨z0, z1, z2, z3, z4⟩ := HZ7.out.cells
          have g0 := HZ7.out.frz 0
          have g1 := HZ7.out.frz 1
          have g2 := HZ7.out.frz 2
          have g3 := HZ7.out.frz 3
          have g4 := HZ7.out.frz 4
          simp only at d0 d1 d2 d3 d4
          simp only [Int.ofNat_zero, Int.add_zero] at d1
          by_cases h2 : 1000000000000000 < l.br + C
          · go_upto_region 19 with (fail)
            repeat (first | go_values | go_skip | go_guarded | go_step | go_upon)
            refine bodyPost_ret (v := .tuple #[aggZ, .int .i64 0, .int .i64 1]) (by simp [results, Tryz.results14, go_sem, z0, z1, z2, z3, z4]) rfl (SldP.bad (by decide) ?_)
            exact below_set5 HB7.out (Nat.le_succ _) _ _ _ _ _
          · go_upto_region 20 with (fail)
            repeat (first | go_values | go_skip | go_guarded | go_step | go_upon)
            refine bodyPost_ret (v := .tuple #[agLs { l with fi := l.fi + ((0 : Nat) : Int), br := l.br + C, en := l.en.drop 0 } (.slice none (0 - 0) (0 - 0)), .int .i64 ((0 : Nat) : Int), .int .i64 0]) (by simp [results, Tryz.results14, go_sem, z0, z1, z2, z3, z4]) rfl (HFI.out _ (HO7.out.setL5 HZ7.out _ _ _ _ _) (below_set5 HB7.out (Nat.le_succ _) _ _ _ _ _))
        · subst hnv1
          unfold maxLen at hnv3
          have hocz : (on : Int) ≤ (oc : Int) := by omega
          obtain ⟨A, hA⟩ : ∃ A : Addr, nv = some A := by
            split at hnv4
            · exact ⟨_, hnv4.symm⟩
            · exact ⟨_, hnv4.symm⟩
          subst hA
          go_upto_region 18 with (fail)
          rw [← HW7.out]
          clear hnv4
          clear d0 d1 d2 d3 d4 f1 f3 z0 z1 z2 z3 z4 g0 g1 g2 g3 g4 c0 c1 c2 c3 c4
          obtain ⟨d0, d1, d2, d3, d4⟩ := HK7.out.cells
          obtain ⟨z0, z1, z2, z3, z4⟩ := HZ7.out.cells
          have g0 := HZ7.out.frz 0
          have g1 := HZ7.out.frz 1
          have g2 := HZ7.out.frz 2
          have g3 := HZ7.out.frz 3
          have g4 := HZ7.out.frz 4
          simp only at d0 d1 d2 d3 d4
          by_cases h1 : 999999999999000 < l.fi + (g : Int)
          · go_upto_region 19 with (fail)
            repeat (first | go_values | go_skip | go_guarded | go_step | go_upon)
            refine bodyPost_ret (v := .tuple #[aggZ, .int .i64 0, .int .i64 1]) (by simp [results, Tryz.results14, go_sem, z0, z1, z2, z3, z4]) rfl (SldP.bad (by decide) ?_)
            exact below_set5 HB7.out (Nat.le_succ _) _ _ _ _ _
          · by_cases h2 : 1000000000000000 < l.br + C
            · go_upto_region 19 with (fail)
              repeat (first | go_values | go_skip | go_guarded | go_step | go_upon)
              refine bodyPost_ret (v := .tuple #[aggZ, .int .i64 0, .int .i64 1]) (by simp [results, Tryz.results14, go_sem, z0, z1, z2, z3, z4]) rfl (SldP.bad (by decide) ?_)
              exact below_set5 HB7.out (Nat.le_succ _) _ _ _ _ _
            · go_upto_region 20 with (fail)
              repeat (first | go_values | go_skip | go_guarded | go_step | go_upon)
              refine bodyPost_ret (v := .tuple #[agLs { l with fi := l.fi + (g : Int), br := l.br + C, en := l.en.drop g } (.slice (some A) (on - g) (oc - g)), .int .i64 (g : Int), .int .i64 0]) (by simp [results, Tryz.results14, go_sem, z0, z1, z2, z3, z4]) rfl (HFI.out _ (HO7.out.setL5 HZ7.out _ _ _ _ _) (below_set5 HB7.out (Nat.le_succ _) _ _ _ _ _))
    · have hltz : ¬ (g : Int) < (l.en.length : Int) := by omega
      have HOW := Lib.hid HAS.out.ow
      obtain ⟨d0, d1, d2, d3, d4⟩ := HAS.out.bk.cells
      have f1 := HAS.out.bk.frz 1
      have f3 := HAS.out.bk.frz 3
      have hcb := cntB_bd (l.en.take g)
      have hcb2 : (l.en.take g).length ≤ 1000 := by simp; omega
      obtain ⟨C, hC⟩ : ∃ C, C = cntB (l.en.take g) := ⟨_, rfl⟩
      rw [← hC] at d2 hcb
      have hcb3 : 0 ≤ C ∧ C ≤ 1000 := by omega
      have HC := Lib.hid hC
      simp only at d0 d1 d2 d3 d4
      have HBK : Hid (BkLs wr G { l with br := l.br + C } (.slice oa on oc)) := Lib.hid (by rw [hC]; exact HAS.out.bk)
      have HAB := Lib.hid HAS.out.be
      have HZZ := Lib.hid (HK1.out.below HAS.out.be (by have := HS2.out; omega))
      clear hC hcb hcb2 HAS
      have hfz : 0 ≤ l.fi + (g : Int) ∧ l.fi + (g : Int) ≤ 1000000000000000 := by omega
      have hon : on = l.en.length := by
        rcases HOW.out.two with ⟨h1, h2⟩ | ⟨b9, c9, h1, -, -⟩
        · cases h1; rw [h2]; rfl
        · cases h1; rfl
      have hgon : (g : Int) ≤ (on : Int) := by omega
      have hgon2 : g ≤ on := by omega
      have HON := Lib.hid hon
      obtain ⟨nv, hnv, HNS⟩ : ∃ nv : Option Addr, ((Value.slice oa on oc = .slice none 0 0 ∧ g = 0 ∧ nv = none) ∨ ∃ b9 o9, oa = some ⟨b9, o9, none⟩ ∧ on ≤ oc ∧ oc ≤ maxLen ∧ (if oc = g then (some ⟨b9, o9, none⟩ : Option Addr) else some ⟨b9, o9 + g * 7, none⟩) = nv) ∧ ∀ W, EnO W w3.heap.size (.slice oa on oc) l.en → EnS W (.slice nv (on - g) (oc - g)) (l.en.drop g) := by
        rcases HOW.out.two with ⟨h1, h2⟩ | ⟨b9, c9, h1, h2, h3⟩
        · have hg0 : g = 0 := by rw [h2] at hg; simpa using hg
          refine ⟨none, .inl ⟨h1, hg0, rfl⟩, fun W hW => ?_⟩
          cases h1
          rw [h2]
          simp only [List.drop_nil, Nat.zero_sub]
          exact EnS.nil
        · cases h1
          obtain ⟨A, hA⟩ : ∃ A : Addr, (if oc = g then (some ⟨b9, 0, none⟩ : Option Addr) else some ⟨b9, 0 + g * 7, none⟩) = some A := by split <;> exact ⟨_, rfl⟩
          exact ⟨some A, .inr ⟨b9, 0, rfl, h2, h3, hA⟩, fun W hW => hW.dropS hg hA⟩
      have HNS := Lib.hid HNS
      have HWS : Hid (w.heap.size ≤ w3.heap.size) := Lib.hid (HB2.out.thru HB3.out).size
      have HFI : Hid (∀ W, EnO W w3.heap.size (.slice oa on oc) l.en → Below w.heap.size w W → SldP w l (.returned (.tuple #[agLs { l with fi := l.fi + g, br := l.br + C, en := l.en.drop g } (.slice nv (on - g) (oc - g)), .int .i64 g, .int .i64 0])) W) := Lib.hid (fun W h1 h2 => by
        refine ⟨{ l with fi := l.fi + g, br := l.br + cntB (l.en.take g), en := l.en.drop g }, _, _, _, by rw [HC.out], (fun W' hW' => HNS.out W' (h1.at_ fun b hb1 hb2 => hW' b (Nat.le_trans HWS.out hb1) hb2)), fun _ => ⟨fol_slide l g HED.out.symm hg, ?_⟩, h2⟩
        have hC2 := HC.out
        refine ⟨HWL.out.ta, by simp only; omega, by simp only; omega, by simp only [List.length_drop]; omega, fun y hy => HWL.out.en y (List.mem_of_mem_drop hy)⟩)
      obtain ⟨z0, z1, z2, z3, z4⟩ := HZZ.out.cells
      have g0 := HZZ.out.frz 0
      have g1 := HZZ.out.frz 1
      have g2 := HZZ.out.frz 2
      have g3 := HZZ.out.frz 3
      have g4 := HZZ.out.frz 4
      obtain ⟨w7, hw7⟩ : ∃ w7, w7 = (wr.setCell ⟨G, 1, none⟩ (.int .i64 (l.fi + g))).setCell ⟨G, 3, none⟩ (.slice nv (on - g) (oc - g)) := ⟨_, rfl⟩
      have hk1 : BkLs (wr.setCell ⟨G, 1, none⟩ (.int .i64 (l.fi + g))) G { l with fi := l.fi + g, br := l.br + C } (.slice oa on oc) := HBK.out.set 1 _ rfl
      have HK7 : Hid (BkLs w7 G { l with fi := l.fi + g, br := l.br + C } (.slice nv (on - g) (oc - g))) := Lib.hid (by rw [hw7]; exact hk1.set 3 _ rfl)
      have HO7 : Hid (EnO w7 w3.heap.size (.slice oa on oc) l.en) := Lib.hid (by rw [hw7]; exact (HOW.out.setL HBK.out 1 _).setL hk1 3 _)
      have HB7 : Hid (Below w.heap.size w w7) := Lib.hid (by
        have h0 := Nat.le_trans HB2.out.size HBG.out
        rw [hw7]; exact ((HB2.out.thru HAB.out).setCell (p := ⟨G, 1, none⟩) h0 _).setCell (p := ⟨G, 3, none⟩) h0 _)
      have HZ7 : Hid (BkLs w7 (w.heap.size + 1) default (.slice none 0 0)) := Lib.hid (by rw [hw7]; exact (HZZ.out.other HNEG.out 1 _).other HNEG.out 3 _)
      have HW7 := Lib.hid hw7
      clear hw7 hk1 hon
      rcases hnv with ⟨hnv1, hnv2, hnv3⟩ | ⟨b9, o9, hnv1, hnv2, hnv3, hnv4⟩
      · simp only [Value.slice.injEq] at hnv1
        obtain ⟨rfl, rfl, rfl⟩ := hnv1
        subst hnv2
        subst hnv3
        go_upto_region 18 with (fail)
        have e7 : (wr.setCell ⟨G, 1, none⟩ (.int .i64 l.fi)).setCell ⟨G, 3, none⟩ (.slice none 0 0) = w7 := by rw [HW7.out]; simp
        first | rw [e7] | rw [← HW7.out]
        clear e7
        clear d0 d1 d2 d3 d4 f1 f3 z0 z1 z2 z3 z4 g0 g1 g2 g3 g4 c0 c1 c2 c3 c4
        obtain ⟨d0, d1, d2, d3, d4⟩ := HK7.out.cells
        obtain ⟨z0, z1, z2, z3, z4⟩ := HZ7.out.cells
        have g0 := HZ7.out.frz 0
        have g1 := HZ7.out.frz 1
        have g2 := HZ7.out.frz 2
        have g3 := HZ7.out.frz 3
        have g4 := HZ7.out.frz 4
        simp only at d0 d1 d2 d3 d4
        simp only [Int.ofNat_zero, Int.add_zero] at d1
        by_cases h2 : 1000000000000000 < l.br + C
        · go_upto_region 19 with (fail)
          repeat (first | go_values | go_skip | go_guarded | go_step | go_upon)
          refine bodyPost_ret (v := .tuple #[aggZ, .int .i64 0, .int .i64 1]) (by simp [results, Tryz.results14, go_sem, z0, z1, z2, z3, z4]) rfl (SldP.bad (by decide) ?_)
          exact below_set5 HB7.out (Nat.le_succ _) _ _ _ _ _
        · go_upto_region 20 with (fail)
          repeat (first | go_values | go_skip | go_guarded | go_step | go_upon)
          refine bodyPost_ret (v := .tuple #[agLs { l with fi := l.fi + ((0 : Nat) : Int), br := l.br + C, en := l.en.drop 0 } (.slice none (0 - 0) (0 - 0)), .int .i64 ((0 : Nat) : Int), .int .i64 0]) (by simp [results, Tryz.results14, go_sem, z0, z1, z2, z3, z4]) rfl (HFI.out _ (HO7.out.setL5 HZ7.out _ _ _ _ _) (below_set5 HB7.out (Nat.le_succ _) _ _ _ _ _))
      · subst hnv1
        unfold maxLen at hnv3
        have hocz : (on : Int) ≤ (oc : Int) := by omega
        obtain ⟨A, hA⟩ : ∃ A : Addr, nv = some A := by
          split at hnv4
          · exact ⟨_, hnv4.symm⟩
          · exact ⟨_, hnv4.symm⟩
        subst hA
        go_upto_region 18 with (fail)
        rw [← HW7.out]
        clear hnv4
        clear d0 d1 d2 d3 d4 f1 f3 z0 z1 z2 z3 z4 g0 g1 g2 g3 g4 c0 c1 c2 c3 c4
        obtain ⟨d0, d1, d2, d3, d4⟩ := HK7.out.cells
        obtain ⟨z0, z1, z2, z3, z4⟩ := HZ7.out.cells
        have g0 := HZ7.out.frz 0
        have g1 := HZ7.out.frz 1
        have g2 := HZ7.out.frz 2
        have g3 := HZ7.out.frz 3
        have g4 := HZ7.out.frz 4
        simp only at d0 d1 d2 d3 d4
        by_cases h1 : 999999999999000 < l.fi + (g : Int)
        · go_upto_region 19 with (fail)
          repeat (first | go_values | go_skip | go_guarded | go_step | go_upon)
          refine bodyPost_ret (v := .tuple #[aggZ, .int .i64 0, .int .i64 1]) (by simp [results, Tryz.results14, go_sem, z0, z1, z2, z3, z4]) rfl (SldP.bad (by decide) ?_)
          exact below_set5 HB7.out (Nat.le_succ _) _ _ _ _ _
        · by_cases h2 : 1000000000000000 < l.br + C
          · go_upto_region 19 with (fail)
            repeat (first | go_values | go_skip | go_guarded | go_step | go_upon)
            refine bodyPost_ret (v := .tuple #[aggZ, .int .i64 0, .int .i64 1]) (by simp [results, Tryz.results14, go_sem, z0, z1, z2, z3, z4]) rfl (SldP.bad (by decide) ?_)
            exact below_set5 HB7.out (Nat.le_succ _) _ _ _ _ _
          · go_upto_region 20 with (fail)
            repeat (first | go_values | go_skip | go_guarded | go_step | go_upon)
            refine bodyPost_ret (v := .tuple #[agLs { l with fi := l.fi + (g : Int), br := l.br + C, en := l.en.drop g } (.slice (some A) (on - g) (oc - g)), .int .i64 (g : Int), .int .i64 0]) (by simp [results, Tryz.results14, go_sem, z0, z1, z2, z3, z4]) rfl (HFI.out _ (HO7.out.setL5 HZ7.out _ _ _ _ _) (below_set5 HB7.out (Nat.le_succ _) _ _ _ _ _))
end Go.Proofs.YtehbmnkbmgnkfaaGreatDoor

/- staged: a change of a list. -/
namespace Go.Proofs.YtehbmnkbmgnkfaaGreatDoor
open Go.RowKit

abbrev aggT (k : Int) (x : Ent) (xv : Value) (n : Int) : Value := .agg #[.int .i64 k, .string x.ur, .int .i64 x.mi, .bool x.br, .int .i64 x.da, .string x.ke, .bool x.ga, xv, .int .i64 n]
abbrev litT9 (k : Int) (x : Ent) (xv : Value) (n : Int) : Obj := .cells #[.int .i64 k, .string x.ur, .int .i64 x.mi, .bool x.br, .int .i64 x.da, .string x.ke, .bool x.ga, xv, .int .i64 n] 49
/-- What the switch leaves. -/
def StgC (w4 w : World) (l : Lst) (s6 : Value) (W : World) : Prop := ∃ f l' v', s6 = .int .i64 f ∧ BkLs W (w.heap.size + 3) l' v' ∧ EnF w4.heap.size W v' l'.en ∧ (f = 0 → Fol l l' ∧ WfLs l') ∧ Below (w.heap.size + 3) w4 W
theorem no_str {w : World} {g b o : Nat} {y : Lst} {za : Option Addr} {zn zc : Nat} {s : ByteArray} (hb : BkLs w g y (.slice za zn zc)) (hc : w.cell? ⟨b, o, none⟩ = some (.string s)) : b ≠ g := fun e => by
  subst e
  rw [cell_of_block (i := o) hb] at hc
  match o, hc with
  | 0, hc => simp at hc
  | 1, hc => simp at hc
  | 2, hc => simp at hc
  | 3, hc => simp at hc
  | 4, hc => simp at hc
  | n + 5, hc => simp at hc
theorem cell_heap {w W : World} {b o : Nat} (h : W.heap[b]? = w.heap[b]?) : W.cell? ⟨b, o, none⟩ = w.cell? ⟨b, o, none⟩ := by simp [World.cell?, h]
theorem EnS.setB {w W : World} {v : Value} {l : List Ent} (h : EnS w v l) {g : Nat} {y : Lst} {za : Option Addr} {zn zc : Nat} (hb : BkLs w g y (.slice za zn zc)) (hW : ∀ b, b ≠ g → W.heap[b]? = w.heap[b]?) : EnS W v l := by
  obtain ⟨q, ⟨ao, cap, h1, h2, h3, h4, h5⟩, h6, h7⟩ := h
  refine ⟨q, ⟨ao, cap, h1, h2, h3, h4, fun i p hp => ?_⟩, h6, fun p hp => ?_⟩
  · obtain ⟨b, off, ha, hc⟩ := h5 i p hp
    have hne := no_str hb (hc 0 _ rfl)
    exact ⟨b, off, ha, fun j u hu => (cell_heap (hW b hne)).trans (hc j u hu)⟩
  · obtain ⟨bo, bc, k1, k2, k3, k4, k5⟩ := h7 p hp
    refine ⟨bo, bc, k1, k2, k3, k4, fun i s hs => ?_⟩
    obtain ⟨b, off, ha, hc⟩ := k5 i s hs
    have hne := no_str hb (hc 0 _ rfl)
    exact ⟨b, off, ha, fun j u hu => (cell_heap (hW b hne)).trans (hc j u hu)⟩
theorem EnF.lo {B B' : Nat} {w : World} {v : Value} {l : List Ent} (h : EnF B w v l) (hB : B' ≤ B) : EnF B' w v l := fun W hW => h W fun b h1 h2 => hW b (Nat.le_trans hB h1) h2
theorem heap_set5 (w : World) (g : Nat) (a b c d e : Value) (k : Nat) (h : k ≠ g) : (set5 w g a b c d e).heap[k]? = w.heap[k]? :=
  (Below.heap_setCell _ ⟨g, 4, none⟩ _ k h).trans ((Below.heap_setCell _ ⟨g, 3, none⟩ _ k h).trans ((Below.heap_setCell _ ⟨g, 2, none⟩ _ k h).trans ((Below.heap_setCell _ ⟨g, 1, none⟩ _ k h).trans (Below.heap_setCell _ ⟨g, 0, none⟩ _ k h))))
theorem BkLs.set5 {w : World} {g : Nat} {x : Lst} {v : Value} (h : BkLs w g x v) (y : Lst) (z : Value) : BkLs (set5 w g (.int .i64 y.ta) (.int .i64 y.fi) (.int .i64 y.br) z (.bool y.ed)) g y z := by
  have h1 := heap_setCell_same w g 0 _ _ (.int .i64 y.ta) h
  have h2 := heap_setCell_same _ g 1 _ _ (.int .i64 y.fi) h1
  have h3 := heap_setCell_same _ g 2 _ _ (.int .i64 y.br) h2
  have h4 := heap_setCell_same _ g 3 _ _ z h3
  have h5 := heap_setCell_same _ g 4 _ _ (.bool y.ed) h4
  unfold BkLs
  rw [h5]
  rfl
def StgP (w : World) (l : Lst) (v : Value) : Ending → World → Prop := fun e w' => ∃ l' v', e = .returned (agLs l' v') ∧ (EnF w.heap.size w' v' l'.en ∨ (l' = l ∧ v' = v)) ∧ Fol l l' ∧ WfLs l' ∧ Below w.heap.size w w'

set_option maxRecDepth 100000 in
set_option maxHeartbeats 8000000 in
theorem staged_any (w : World) (l : Lst) (v : Value) (k : Int) (x : Ent) (xv : Value) (n : Int) (hl : EnS w v l.en) (hx : Sl w 1 encS xv x.ex) (hw : WfLs l) (hwx : WfE x) :
    Calls Tryz.prog 6 #[agLs l v, aggT k x xv n] w (StgP w l v) := by
  obtain ⟨w4, hw4⟩ : ∃ w4, w4 = (((w.alloc (litL l v)).alloc (litT9 k x xv n)).alloc litZ).alloc litZ := ⟨_, rfl⟩
  have hs4 : w4.heap.size = w.heap.size + 4 := by rw [hw4]; simp
  have HB4 : Hid (Below w.heap.size w w4) := Lib.hid (by rw [hw4]; exact ((((Below.refl _ w).alloc (Nat.le_refl _) _).alloc (by simp) _).alloc (by simp; omega) _).alloc (by simp; omega) _)
  have hk0 : BkLs w4 w.heap.size l v := by
    have h1 := BkLs.new w l v
    have h2 := h1.below ((Below.refl _ _).alloc (Nat.le_refl _) (litT9 k x xv n)) h1.lt
    have h3 := h2.below ((Below.refl _ _).alloc (Nat.le_refl _) litZ) h2.lt
    rw [hw4]
    exact h3.below ((Below.refl _ _).alloc (Nat.le_refl _) _) h3.lt
  have hkt : w4.heap[w.heap.size + 1]? = some (.cells #[.int .i64 k, .string x.ur, .int .i64 x.mi, .bool x.br, .int .i64 x.da, .string x.ke, .bool x.ga, xv, .int .i64 n] 49 (0, 0)) := by
    have e : w.heap.size + 1 = (w.alloc (litL l v)).heap.size := by simp
    have h1 := block_new (w.alloc (litL l v)) (litT9 k x xv n)
    rw [← e] at h1
    have h2 := (((Below.refl _ _).alloc (Nat.le_refl _) litZ).block _ (lt_of_blk h1)).trans h1
    rw [hw4]
    exact (((Below.refl _ _).alloc (Nat.le_refl _) litZ).block _ (lt_of_blk h2)).trans h2
  have hk2 : BkLs w4 (w.heap.size + 2) default (.slice none 0 0) := by
    have e : w.heap.size + 2 = ((w.alloc (litL l v)).alloc (litT9 k x xv n)).heap.size := by simp
    have h1 := BkLs.new ((w.alloc (litL l v)).alloc (litT9 k x xv n)) default (.slice none 0 0)
    rw [← e] at h1
    rw [hw4]
    exact h1.below ((Below.refl _ _).alloc (Nat.le_refl _) _) h1.lt
  have hk3 : BkLs w4 (w.heap.size + 3) default (.slice none 0 0) := by
    have e : w.heap.size + 3 = (((w.alloc (litL l v)).alloc (litT9 k x xv n)).alloc litZ).heap.size := by simp
    rw [hw4, e]
    exact BkLs.new _ default _
  have hl4 := hl.below HB4.out
  have hx4 := hx.below HB4.out (Nat.le_refl _)
  have HAD := Lib.hid (addL_any w4 l v x xv hl4 hx4 hw hwx)
  have HSL := Lib.hid (slideL_any w4 l v n hl4 hw)
  have HEN := Lib.hid (endL_any w4 l v hl4 hw)
  have HL0 := Lib.hid hl
  have HWL := Lib.hid hw
  have HK0 := Lib.hid hk0
  have HK2 := Lib.hid hk2
  have HK3 := Lib.hid hk3
  have HW4 := Lib.hid hw4
  have HS4 := Lib.hid hs4
  obtain ⟨ao, cap, rfl, -, -, -, -⟩ := hl.op
  obtain ⟨ea, ec, rfl, -, -, -, -⟩ := hx
  have t0 : w4.cell? ⟨w.heap.size + 1, 0, none⟩ = some (.int .i64 k) := (cell_of_block (i := 0) hkt).trans rfl
  have t1 : w4.cell? ⟨w.heap.size + 1, 1, none⟩ = some (.string x.ur) := (cell_of_block (i := 1) hkt).trans rfl
  have t2 : w4.cell? ⟨w.heap.size + 1, 2, none⟩ = some (.int .i64 x.mi) := (cell_of_block (i := 2) hkt).trans rfl
  have t3 : w4.cell? ⟨w.heap.size + 1, 3, none⟩ = some (.bool x.br) := (cell_of_block (i := 3) hkt).trans rfl
  have t4 : w4.cell? ⟨w.heap.size + 1, 4, none⟩ = some (.int .i64 x.da) := (cell_of_block (i := 4) hkt).trans rfl
  have t5 : w4.cell? ⟨w.heap.size + 1, 5, none⟩ = some (.string x.ke) := (cell_of_block (i := 5) hkt).trans rfl
  have t6 : w4.cell? ⟨w.heap.size + 1, 6, none⟩ = some (.bool x.ga) := (cell_of_block (i := 6) hkt).trans rfl
  have t7 : w4.cell? ⟨w.heap.size + 1, 7, none⟩ = some (.slice ea x.ex.length ec) := (cell_of_block (i := 7) hkt).trans rfl
  have t8 : w4.cell? ⟨w.heap.size + 1, 8, none⟩ = some (.int .i64 n) := (cell_of_block (i := 8) hkt).trans rfl
  obtain ⟨b0, b1, b2, b3, b4⟩ := hk0.cells
  have HCO : Hid (∀ W l' v' f, Below w4.heap.size w4 W → EnF w4.heap.size W v' l'.en → (f = 0 → Fol l l' ∧ WfLs l') → StgC w4 w l (.int .i64 f) (set5 W (w.heap.size + 3) (.int .i64 l'.ta) (.int .i64 l'.fi) (.int .i64 l'.br) v' (.bool l'.ed))) := Lib.hid (fun W l' v' f h1 h2 h3 => by
    have h4 := hk3.below h1 (by omega)
    exact ⟨f, l', v', rfl, h4.set5 l' v', h2.to (below_set5 (Below.refl 0 W) (Nat.zero_le _) _ _ _ _ _).size (fun b hb1 _ => heap_set5 W _ _ _ _ _ _ b (by omega)), h3, below_set5 (h1.mono (by omega)) (Nat.le_refl _) _ _ _ _ _⟩)
  clear hw4 hk0 hk2 hk3 hkt hl4 hx4 hl hw hwx hs4
  go_enter Tryz.func6, Tryz.ntmps6
  go_upto_region 2 with (fail)
  rw [← HW4.out]
  clear HW4
  by_cases e0 : k = 0
  · subst e0
    unfold StpP at HAD
    go_wp2_with fail
    refine HAD.out.mono ?_
    rintro e w5 ⟨l1, v1, f, rfl, hs5, hf5, hb5⟩
    obtain ⟨oa, oc, rfl, -, -, -, -⟩ := id hs5.ens.op
    have hk3 := HK3.out.below hb5 (by rw [HS4.out]; omega)
    obtain ⟨z0, z1, z2, z3, z4⟩ := hk3.cells
    have g0 := hk3.frz 0
    have g1 := hk3.frz 1
    have g2 := hk3.frz 2
    have g3 := hk3.frz 3
    have g4 := hk3.frz 4
    obtain ⟨w6, hw6⟩ : ∃ w6, w6 = set5 w5 (w.heap.size + 1 + 1 + 1) (.int .i64 l1.ta) (.int .i64 l1.fi) (.int .i64 l1.br) (.slice oa l1.en.length oc) (.bool l1.ed) := ⟨_, rfl⟩
    have HQ : Hid (StgC w4 w l (.int .i64 f) w6) := Lib.hid (by rw [hw6]; exact HCO.out w5 l1 _ f hb5 hs5 hf5)
    unfold set5 at hw6
    have HW6 := Lib.hid hw6
    clear hs5 hf5 hb5 hk3 b0 b1 b2 b3 b4 t0 t1 t2 t3 t4 t5 t6 t7 t8 hw6
    go_upto_region 10 with (fail)
    rw [← HW6.out]
    clear z0 z1 z2 z3 z4 g0 g1 g2 g3 g4 HW6
    obtain ⟨f, l', v', hfe, hg6, hs6, hf6, hb6⟩ := HQ.out
    simp only [Value.int.injEq, true_and] at hfe
    subst hfe
    obtain ⟨oa, oc, rfl, -, -, -, -⟩ := id hs6.ens.op
    have HG6 := Lib.hid hg6
    have HS6 := Lib.hid hs6
    have HF6 := Lib.hid hf6
    have HB6 : Hid (Below w.heap.size w w6) := Lib.hid (HB4.out.trans (hb6.mono (Nat.le_add_right _ 3)))
    obtain ⟨b0, b1, b2, b3, b4⟩ := (HK0.out.below hb6 (by omega)).cells
    have hz := HK2.out.below hb6 (by omega)
    have HZ := Lib.hid hz
    obtain ⟨d0, d1, d2, d3, d4⟩ := hg6.cells
    obtain ⟨z0, z1, z2, z3, z4⟩ := hz.cells
    have g0 := hz.frz 0
    have g1 := hz.frz 1
    have g2 := hz.frz 2
    have g3 := hz.frz 3
    have g4 := hz.frz 4
    clear hg6 hs6 hf6 hb6 hz HCO
    by_cases hf : f = 0
    rotate_left
    next =>
      go_upto_region 11 with (fail)
      repeat (first | go_values | go_skip | go_guarded | go_step | go_upon)
      refine bodyPost_ret (v := agLs l (.slice ao l.en.length cap)) (by simp [results, Tryz.results6, go_sem, z0, z1, z2, z3, z4]) rfl ⟨l, _, rfl, .inr ⟨rfl, rfl⟩, Fol.refl l, HWL.out, ?_⟩
      exact below_set5 HB6.out (Nat.le_add_right _ 2) _ _ _ _ _
    obtain ⟨hfo, hwf⟩ := HF6.out hf
    subst hf
    have HFO := Lib.hid hfo
    have HWF := Lib.hid hwf
    clear hfo hwf HF6
    go_upto_region 12 with (fail)
    repeat (first | go_values | go_skip | go_guarded | go_step | go_upon)
    refine bodyPost_ret (v := agLs l' (.slice oa l'.en.length oc)) (by simp [results, Tryz.results6, go_sem, z0, z1, z2, z3, z4]) rfl ⟨l', _, rfl, .inl ((HS6.out.to (below_set5 (Below.refl 0 w6) (Nat.zero_le _) _ _ _ _ _).size (fun b hb1 _ => heap_set5 w6 _ _ _ _ _ _ b (by have h := HS4.out; omega))).lo HB4.out.size), HFO.out, HWF.out, ?_⟩
    exact below_set5 HB6.out (Nat.le_add_right _ 2) _ _ _ _ _
  by_cases e1 : k = 1
  · subst e1
    clear e0
    unfold SldP at HSL
    go_wp2_with fail
    refine HSL.out.mono ?_
    rintro e w5 ⟨l1, v1, m, f, rfl, hs5, hf5, hb5⟩
    obtain ⟨oa, oc, rfl, -, -, -, -⟩ := id hs5.ens.op
    have hk3 := HK3.out.below hb5 (by rw [HS4.out]; omega)
    obtain ⟨z0, z1, z2, z3, z4⟩ := hk3.cells
    have g0 := hk3.frz 0
    have g1 := hk3.frz 1
    have g2 := hk3.frz 2
    have g3 := hk3.frz 3
    have g4 := hk3.frz 4
    obtain ⟨w6, hw6⟩ : ∃ w6, w6 = set5 w5 (w.heap.size + 1 + 1 + 1) (.int .i64 l1.ta) (.int .i64 l1.fi) (.int .i64 l1.br) (.slice oa l1.en.length oc) (.bool l1.ed) := ⟨_, rfl⟩
    have HQ : Hid (StgC w4 w l (.int .i64 f) w6) := Lib.hid (by rw [hw6]; exact HCO.out w5 l1 _ f hb5 hs5 hf5)
    unfold set5 at hw6
    have HW6 := Lib.hid hw6
    clear hs5 hf5 hb5 hk3 b0 b1 b2 b3 b4 t0 t1 t2 t3 t4 t5 t6 t7 t8 hw6
    go_upto_region 10 with (fail)
    rw [← HW6.out]
    clear z0 z1 z2 z3 z4 g0 g1 g2 g3 g4 HW6
    obtain ⟨f, l', v', hfe, hg6, hs6, hf6, hb6⟩ := HQ.out
    simp only [Value.int.injEq, true_and] at hfe
    subst hfe
    obtain ⟨oa, oc, rfl, -, -, -, -⟩ := id hs6.ens.op
    have HG6 := Lib.hid hg6
    have HS6 := Lib.hid hs6
    have HF6 := Lib.hid hf6
    have HB6 : Hid (Below w.heap.size w w6) := Lib.hid (HB4.out.trans (hb6.mono (Nat.le_add_right _ 3)))
    obtain ⟨b0, b1, b2, b3, b4⟩ := (HK0.out.below hb6 (by omega)).cells
    have hz := HK2.out.below hb6 (by omega)
    have HZ := Lib.hid hz
    obtain ⟨d0, d1, d2, d3, d4⟩ := hg6.cells
    obtain ⟨z0, z1, z2, z3, z4⟩ := hz.cells
    have g0 := hz.frz 0
    have g1 := hz.frz 1
    have g2 := hz.frz 2
    have g3 := hz.frz 3
    have g4 := hz.frz 4
    clear hg6 hs6 hf6 hb6 hz HCO
    by_cases hf : f = 0
    rotate_left
    next =>
      go_upto_region 11 with (fail)
      repeat (first | go_values | go_skip | go_guarded | go_step | go_upon)
      refine bodyPost_ret (v := agLs l (.slice ao l.en.length cap)) (by simp [results, Tryz.results6, go_sem, z0, z1, z2, z3, z4]) rfl ⟨l, _, rfl, .inr ⟨rfl, rfl⟩, Fol.refl l, HWL.out, ?_⟩
      exact below_set5 HB6.out (Nat.le_add_right _ 2) _ _ _ _ _
    obtain ⟨hfo, hwf⟩ := HF6.out hf
    subst hf
    have HFO := Lib.hid hfo
    have HWF := Lib.hid hwf
    clear hfo hwf HF6
    go_upto_region 12 with (fail)
    repeat (first | go_values | go_skip | go_guarded | go_step | go_upon)
    refine bodyPost_ret (v := agLs l' (.slice oa l'.en.length oc)) (by simp [results, Tryz.results6, go_sem, z0, z1, z2, z3, z4]) rfl ⟨l', _, rfl, .inl ((HS6.out.to (below_set5 (Below.refl 0 w6) (Nat.zero_le _) _ _ _ _ _).size (fun b hb1 _ => heap_set5 w6 _ _ _ _ _ _ b (by have h := HS4.out; omega))).lo HB4.out.size), HFO.out, HWF.out, ?_⟩
    exact below_set5 HB6.out (Nat.le_add_right _ 2) _ _ _ _ _
  by_cases e2 : k = 2
  · subst e2
    clear e0 e1
    unfold StpP at HEN
    go_wp2_with fail
    refine HEN.out.mono ?_
    rintro e w5 ⟨l1, v1, f, rfl, hs5, hf5, hb5⟩
    obtain ⟨oa, oc, rfl, -, -, -, -⟩ := id hs5.ens.op
    have hk3 := HK3.out.below hb5 (by rw [HS4.out]; omega)
    obtain ⟨z0, z1, z2, z3, z4⟩ := hk3.cells
    have g0 := hk3.frz 0
    have g1 := hk3.frz 1
    have g2 := hk3.frz 2
    have g3 := hk3.frz 3
    have g4 := hk3.frz 4
    obtain ⟨w6, hw6⟩ : ∃ w6, w6 = set5 w5 (w.heap.size + 1 + 1 + 1) (.int .i64 l1.ta) (.int .i64 l1.fi) (.int .i64 l1.br) (.slice oa l1.en.length oc) (.bool l1.ed) := ⟨_, rfl⟩
    have HQ : Hid (StgC w4 w l (.int .i64 f) w6) := Lib.hid (by rw [hw6]; exact HCO.out w5 l1 _ f hb5 hs5 hf5)
    unfold set5 at hw6
    have HW6 := Lib.hid hw6
    clear hs5 hf5 hb5 hk3 b0 b1 b2 b3 b4 t0 t1 t2 t3 t4 t5 t6 t7 t8 hw6
    go_upto_region 10 with (fail)
    rw [← HW6.out]
    clear z0 z1 z2 z3 z4 g0 g1 g2 g3 g4 HW6
    obtain ⟨f, l', v', hfe, hg6, hs6, hf6, hb6⟩ := HQ.out
    simp only [Value.int.injEq, true_and] at hfe
    subst hfe
    obtain ⟨oa, oc, rfl, -, -, -, -⟩ := id hs6.ens.op
    have HG6 := Lib.hid hg6
    have HS6 := Lib.hid hs6
    have HF6 := Lib.hid hf6
    have HB6 : Hid (Below w.heap.size w w6) := Lib.hid (HB4.out.trans (hb6.mono (Nat.le_add_right _ 3)))
    obtain ⟨b0, b1, b2, b3, b4⟩ := (HK0.out.below hb6 (by omega)).cells
    have hz := HK2.out.below hb6 (by omega)
    have HZ := Lib.hid hz
    obtain ⟨d0, d1, d2, d3, d4⟩ := hg6.cells
    obtain ⟨z0, z1, z2, z3, z4⟩ := hz.cells
    have g0 := hz.frz 0
    have g1 := hz.frz 1
    have g2 := hz.frz 2
    have g3 := hz.frz 3
    have g4 := hz.frz 4
    clear hg6 hs6 hf6 hb6 hz HCO
    by_cases hf : f = 0
    rotate_left
    next =>
      go_upto_region 11 with (fail)
      repeat (first | go_values | go_skip | go_guarded | go_step | go_upon)
      refine bodyPost_ret (v := agLs l (.slice ao l.en.length cap)) (by simp [results, Tryz.results6, go_sem, z0, z1, z2, z3, z4]) rfl ⟨l, _, rfl, .inr ⟨rfl, rfl⟩, Fol.refl l, HWL.out, ?_⟩
      exact below_set5 HB6.out (Nat.le_add_right _ 2) _ _ _ _ _
    obtain ⟨hfo, hwf⟩ := HF6.out hf
    subst hf
    have HFO := Lib.hid hfo
    have HWF := Lib.hid hwf
    clear hfo hwf HF6
    go_upto_region 12 with (fail)
    repeat (first | go_values | go_skip | go_guarded | go_step | go_upon)
    refine bodyPost_ret (v := agLs l' (.slice oa l'.en.length oc)) (by simp [results, Tryz.results6, go_sem, z0, z1, z2, z3, z4]) rfl ⟨l', _, rfl, .inl ((HS6.out.to (below_set5 (Below.refl 0 w6) (Nat.zero_le _) _ _ _ _ _).size (fun b hb1 _ => heap_set5 w6 _ _ _ _ _ _ b (by have h := HS4.out; omega))).lo HB4.out.size), HFO.out, HWF.out, ?_⟩
    exact below_set5 HB6.out (Nat.le_add_right _ 2) _ _ _ _ _
  have hz := HK2
  obtain ⟨z0, z1, z2, z3, z4⟩ := hz.out.cells
  have g0 := hz.out.frz 0
  have g1 := hz.out.frz 1
  have g2 := hz.out.frz 2
  have g3 := hz.out.frz 3
  have g4 := hz.out.frz 4
  go_upto_region 11 with (fail)
  repeat (first | go_values | go_skip | go_guarded | go_step | go_upon)
  refine bodyPost_ret (v := agLs l (.slice ao l.en.length cap)) (by simp [results, Tryz.results6, go_sem, z0, z1, z2, z3, z4]) rfl ⟨l, _, rfl, .inr ⟨rfl, rfl⟩, Fol.refl l, HWL.out, ?_⟩
  exact below_set5 HB4.out (Nat.le_add_right _ 2) _ _ _ _ _
end Go.Proofs.YtehbmnkbmgnkfaaGreatDoor

/- Lists and releases that grow side by side (no walk). -/
namespace Go.Proofs.YtehbmnkbmgnkfaaGreatDoor
open Go.RowKit

abbrev kLive : ByteArray := ⟨#[47, 108, 105, 118, 101, 46, 108, 105, 115, 116]⟩
abbrev pLive : ByteArray := ⟨#[47, 108, 105, 118, 101]⟩
abbrev nEdge : ByteArray := ⟨#[101, 100, 103, 101]⟩
structure Stg where
  k : Int
  x : Ent
  n : Int
abbrev StV := Stg × Value
def encSt (p : StV) : List Value := [.int .i64 p.1.k, .string p.1.x.ur, .int .i64 p.1.x.mi, .bool p.1.x.br, .int .i64 p.1.x.da, .string p.1.x.ke, .bool p.1.x.ga, p.2, .int .i64 p.1.n]
theorem encSt_len (p : StV) : (encSt p).length = 9 := rfl
/-- The value v is a slice of stages. -/
def StS (w : World) (v : Value) (S : List Stg) : Prop := ∃ q : List StV, Sl w 9 encSt v q ∧ q.map Prod.fst = S ∧ ∀ p, p ∈ q → Sl w 1 encS p.2 p.1.x.ex
def CellsT (w : World) (b o : Nat) (s : Stg) (xv : Value) : Prop := w.cell? ⟨b, o, none⟩ = some (.int .i64 s.k) ∧ w.cell? ⟨b, o + 1, none⟩ = some (.string s.x.ur) ∧ w.cell? ⟨b, o + 2, none⟩ = some (.int .i64 s.x.mi) ∧ w.cell? ⟨b, o + 3, none⟩ = some (.bool s.x.br) ∧ w.cell? ⟨b, o + 4, none⟩ = some (.int .i64 s.x.da) ∧ w.cell? ⟨b, o + 5, none⟩ = some (.string s.x.ke) ∧ w.cell? ⟨b, o + 6, none⟩ = some (.bool s.x.ga) ∧ w.cell? ⟨b, o + 7, none⟩ = some xv ∧ w.cell? ⟨b, o + 8, none⟩ = some (.int .i64 s.n)
theorem CellsT.below {w w' : World} {b o : Nat} {s : Stg} {xv : Value} (h : CellsT w b o s xv) (hb : Below w.heap.size w w') : CellsT w' b o s xv := by
  have hlt := World.block_lt_of_cell? w ⟨b, o, none⟩ h.1
  obtain ⟨h0, h1, h2, h3, h4, h5, h6, h7, h8⟩ := h
  exact ⟨(hb.cell (p := ⟨b, o, none⟩) hlt).trans h0, (hb.cell (p := ⟨b, o + 1, none⟩) hlt).trans h1, (hb.cell (p := ⟨b, o + 2, none⟩) hlt).trans h2, (hb.cell (p := ⟨b, o + 3, none⟩) hlt).trans h3, (hb.cell (p := ⟨b, o + 4, none⟩) hlt).trans h4, (hb.cell (p := ⟨b, o + 5, none⟩) hlt).trans h5, (hb.cell (p := ⟨b, o + 6, none⟩) hlt).trans h6, (hb.cell (p := ⟨b, o + 7, none⟩) hlt).trans h7, (hb.cell (p := ⟨b, o + 8, none⟩) hlt).trans h8⟩
theorem StS.op {w : World} {v : Value} {S : List Stg} (h : StS w v S) : ∃ ao cap, v = .slice ao S.length cap ∧ S.length ≤ cap ∧ cap ≤ maxLen ∧ ∀ i s, S[i]? = some s → ∃ b off xv, ao = some ⟨b, off, none⟩ ∧ CellsT w b (off + i * 9) s xv ∧ Sl w 1 encS xv s.x.ex := by
  obtain ⟨q, ⟨ao, cap, h1, h2, h3, h4, h5⟩, rfl, h6⟩ := h
  refine ⟨ao, cap, by rw [List.length_map]; exact h1, by rw [List.length_map]; exact h2, h3, fun i s hs => ?_⟩
  rw [List.getElem?_map, Option.map_eq_some_iff] at hs
  obtain ⟨p, hp, rfl⟩ := hs
  obtain ⟨b, off, ha, hc⟩ := h5 i p hp
  exact ⟨b, off, p.2, ha, ⟨hc 0 _ rfl, hc 1 _ rfl, hc 2 _ rfl, hc 3 _ rfl, hc 4 _ rfl, hc 5 _ rfl, hc 6 _ rfl, hc 7 _ rfl, hc 8 _ rfl⟩, h6 p (List.mem_of_getElem? hp)⟩
/-- A list, with the slice of its entries. -/
abbrev LsV := Lst × Value
def encLs (p : LsV) : List Value := [.int .i64 p.1.ta, .int .i64 p.1.fi, .int .i64 p.1.br, p.2, .bool p.1.ed]
theorem encLs_len (p : LsV) : (encLs p).length = 5 := rfl
theorem infoLs : (Tryz.prog.info? 24).map (fun i => (i.zero, i.size, i.bytes)) = some (some (.agg #[.int .i64 0, .int .i64 0, .int .i64 0, .slice none 0 0, .bool false]), 5, 56) := by kernel_rfl
theorem slLs : SlT Tryz.prog 29 24 5 56 := by
  obtain ⟨i0, hi, hz0, hz1, hz2⟩ := info_parts infoLs
  exact ⟨i0, _, Tryz.underlying29, hi, hz0, hz1, hz2, rfl, by decide, by decide⟩
theorem infoRl : (Tryz.prog.info? 43).map (fun i => (i.zero, i.size, i.bytes)) = some (some (.agg #[.string ⟨#[]⟩, .int .i64 0, .int .i64 0, .bool false]), 4, 40) := by kernel_rfl
theorem slRl : SlT Tryz.prog 38 43 4 40 := by
  obtain ⟨i0, hi, hz0, hz1, hz2⟩ := info_parts infoRl
  exact ⟨i0, _, Tryz.underlying38, hi, hz0, hz1, hz2, rfl, by decide, by decide⟩
theorem infoGx : (Tryz.prog.info? 52).map (fun i => (i.zero, i.size, i.bytes)) = some (some (.agg #[.int .i64 0, .string ⟨#[]⟩, .string ⟨#[]⟩]), 3, 40) := by kernel_rfl
theorem slGt : SlT Tryz.prog 50 52 3 40 := by
  obtain ⟨i0, hi, hz0, hz1, hz2⟩ := info_parts infoGx
  exact ⟨i0, _, Tryz.underlying50, hi, hz0, hz1, hz2, rfl, by decide, by decide⟩

theorem EnS.heap {w W : World} {v : Value} {l : List Ent} (h : EnS w v l) (hW : ∀ b, b < w.heap.size → W.heap[b]? = w.heap[b]?) : EnS W v l := by
  obtain ⟨q, ⟨ao, cap, h1, h2, h3, h4, h5⟩, h6, h7⟩ := h
  refine ⟨q, ⟨ao, cap, h1, h2, h3, h4, fun i p hp => ?_⟩, h6, fun p hp => ?_⟩
  · obtain ⟨b, off, ha, hc⟩ := h5 i p hp
    exact ⟨b, off, ha, fun j u hu => (cell_heap (hW b (World.block_lt_of_cell? w _ (hc j u hu)))).trans (hc j u hu)⟩
  · obtain ⟨bo, bc, k1, k2, k3, k4, k5⟩ := h7 p hp
    refine ⟨bo, bc, k1, k2, k3, k4, fun i s hs => ?_⟩
    obtain ⟨b, off, ha, hc⟩ := k5 i s hs
    exact ⟨b, off, ha, fun j u hu => (cell_heap (hW b (World.block_lt_of_cell? w _ (hc j u hu)))).trans (hc j u hu)⟩
/-- Lists and releases that grow side by side. -/
structure LsQ (W : World) (base D : Nat) (lv rv : Value) (q : List LsV) (RR : List Rel) : Prop where
  ow : Own W base 24 5 encLs lv q
  rr : Own W base 43 4 encL rv RR
  en : ∀ p, p ∈ q → ∀ W' : World, (∀ b, b ≠ D → offB b lv → offB b rv → b < W.heap.size → W'.heap[b]? = W.heap[b]?) → EnS W' p.2 p.1.en
section
variable {W W2 : World} {base D : Nat} {lv rv lv2 rv2 : Value} {q : List LsV} {RR : List Rel}
theorem LsQ.ens (h : LsQ W base D lv rv q RR) {p : LsV} (hp : p ∈ q) : EnS W p.2 p.1.en := h.en p hp W fun _ _ _ _ _ => rfl
theorem LsQ.below (h : LsQ W base D lv rv q RR) (hb : Below W.heap.size W W2) : LsQ W2 base D lv rv q RR :=
  ⟨h.ow.below hb (Nat.le_refl _), h.rr.below hb (Nat.le_refl _), fun p hp W' hW => h.en p hp W' fun b h1 h2 h3 h4 => (hW b h1 h2 h3 (Nat.lt_of_lt_of_le h4 hb.size)).trans (hb.block b h4)⟩
theorem LsQ.pushR (h : LsQ W base D lv rv q RR) (hk : KeepB W W2 rv rv2) (hs : W.heap.size ≤ W2.heap.size) {y : Rel} (ho : Own W2 base 43 4 encL rv2 (RR ++ [y])) : LsQ W2 base D lv rv2 q (RR ++ [y]) :=
  ⟨h.ow.kb h.rr (by decide) hk, ho, fun p hp W' hW => h.en p hp W' fun b h1 h2 h3 h4 => (hW b h1 h2 (hk b h4 h3).2 (Nat.lt_of_lt_of_le h4 hs)).trans (hk b h4 h3).1⟩
theorem LsQ.pushL (h : LsQ W base D lv rv q RR) (hk : KeepB W W2 lv lv2) (hs : W.heap.size ≤ W2.heap.size) {y : LsV} (ho : Own W2 base 24 5 encLs lv2 (q ++ [y]))
    (hy : ∀ W' : World, (∀ b, b ≠ D → offB b lv → offB b rv → b < W.heap.size → W'.heap[b]? = W.heap[b]?) → EnS W' y.2 y.1.en) : LsQ W2 base D lv2 rv (q ++ [y]) RR := by
  refine ⟨ho, h.rr.kb h.ow (by decide) hk, fun p hp W' hW => ?_⟩
  have hW1 : ∀ b, b ≠ D → offB b lv → offB b rv → b < W.heap.size → W'.heap[b]? = W.heap[b]? := fun b h1 h2 h3 h4 => (hW b h1 (hk b h4 h2).2 h3 (Nat.lt_of_lt_of_le h4 hs)).trans (hk b h4 h2).1
  rcases List.mem_append.1 hp with hp | hp
  · exact h.en p hp W' hW1
  · rw [List.mem_singleton] at hp
    rw [hp]
    exact hy W' hW1
theorem LsQ.setD (h : LsQ W base D lv rv q RR) {c : Array Value} {fr : Nat × Nat} (hd : W.heap[D]? = some (Obj.cells c 41 fr)) (i : Nat) (u : Value) : LsQ (W.setCell ⟨D, i, none⟩ u) base D lv rv q RR := by
  have hK : ∀ b, b ≠ D → (W.setCell ⟨D, i, none⟩ u).heap[b]? = W.heap[b]? := fun b hb => Below.heap_setCell W ⟨D, i, none⟩ u b hb
  have hT : KeepT 41 W (W.setCell ⟨D, i, none⟩ u) := fun b c' T fr' hb hne => by
    rw [hK b (fun e => by subst e; rw [hd] at hb; cases hb; exact hne rfl)]
    exact hb
  have hs : (W.setCell ⟨D, i, none⟩ u).heap.size = W.heap.size := by
    have := (Below.refl 0 W).setCell (p := ⟨D, i, none⟩) (Nat.zero_le _) u
    unfold World.setCell
    split <;> simp
  refine ⟨h.ow.keepTe hT (by decide), h.rr.keepTe hT (by decide), fun p hp W' hW => h.en p hp W' fun b h1 h2 h3 h4 => (hW b h1 h2 h3 (by rw [hs]; exact h4)).trans (hK b h1)⟩
/-- A list that lies in new blocks. -/
theorem LsQ.fresh (h : LsQ W base D lv rv q RR) (hD : D < W.heap.size) {v : Value} {l : List Ent} (hf : EnF W.heap.size W2 v l) :
    ∀ W' : World, (∀ b, b ≠ D → offB b lv → offB b rv → b < W2.heap.size → W'.heap[b]? = W2.heap[b]?) → EnS W' v l := fun W' hW =>
  hf W' fun b h1 h2 => hW b (by omega) (own_offHi h.ow h1) (own_offHi h.rr h1) h2
end
end Go.Proofs.YtehbmnkbmgnkfaaGreatDoor

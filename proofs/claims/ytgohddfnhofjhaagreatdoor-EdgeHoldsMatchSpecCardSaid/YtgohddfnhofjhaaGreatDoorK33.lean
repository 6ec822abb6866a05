/- The law: Holds is as specified. -/
import Derived.Test.YtgohddfnhofjhaaGreatDoorK32
import Derived.Test.YtgohddfnhofjhaaGreatDoorK01
set_option maxRecDepth 100000
set_option maxHeartbeats 4000000
namespace Go.Proofs.YtgohddfnhofjhaaGreatDoor
open Go.RowKit Go.Lib Go.Sort Go.Shelf
def Cj (D : List ByteArray) (x : ByteArray) : Bool := !decide (x = ⟨#[]⟩) && !containsS D (kR x)
def rX (W D : List ByteArray) : Nat → List ByteArray
 | 0 => []
 | n + 1 => if Cj D (W.getD n ⟨#[]⟩) = true then rX W D n ++ [W.getD n ⟨#[]⟩] else rX W D n
theorem Bl {W D : List ByteArray} {n : Nat} {x : ByteArray} (hx : W[n]? = some x) : rX W D (n + 1) = if Cj D x = true then rX W D n ++ [x] else rX W D n := by
 rw [rX, Lt, hx, Option.getD_some]
theorem wM (W D : List ByteArray) : ∀ n, (rX W D n).length ≤ n
 | 0 => Ls _
 | n + 1 => by
  have := wM W D n; unfold rX; split
  ·simp; omega
  ·omega
theorem wL (W D : List ByteArray) : ∀ n, n ≤ W.length → ∀ x, x ∈ rX W D n → x ∈ W
 | 0, _, x, h => by simp [rX] at h
 | n + 1, hn, x, h => by
  have ih := wL W D n (by omega); unfold rX at h; split at h
  ·rw [List.mem_append, List.mem_singleton] at h; rcases h with h | rfl
   ·exact ih x h
   ·rw [Lt, Lu (by omega), Option.getD_some]; exact List.getElem_mem _
  ·exact ih x h
def Gx (x : ByteArray) : Pt := if h : x.size ≤ 1000 then ⟨x, h⟩ else default
theorem Ec {x : ByteArray} (h : x.size ≤ 1000) : (Gx x).1 = x := by simp [Gx, h]
def sortB (L : List ByteArray) : List ByteArray := (FW (L.map Gx)).map (·.1)
theorem Ho {L : List ByteArray} (h : ∀ x, x ∈ L → x.size ≤ 1000) : (L.map Gx).flatMap vG = L.flatMap encS := by
 induction L with
 | nil => rfl
 | cons x r ih =>
  rw [List.map_cons, List.flatMap_cons, List.flatMap_cons, ih (fun y hy => h y (by simp [hy]))]; show [Value.string (Gx x).1] ++ _ = _
  rw [Ec (h x (by simp))]
  rfl
theorem EW (L : List Pt) : (L.map (·.1)).flatMap encS = L.flatMap vG := by
 induction L with
 | nil => rfl
 | cons x r ih => rw [List.map_cons, List.flatMap_cons, List.flatMap_cons, ih]; rfl
theorem sQ (L : List ByteArray) : (sortB L).length = L.length := by simp [sortB, jR]
theorem AQ (w : World) (base : Nat) (v : Value) (L : List ByteArray) (m : Int) (hb0 : 0 < base) (hm : w.cell? ⟨0, 0, none⟩ = some (.int .i64 m)) (h : Own w base 9 1 encS v L) (hs : ∀ x, x ∈ L → x.size ≤ 1000) (hn : L.length < 20) :
 Calls Tryz.prog 57 #[v, .func (.func 58) #[] #[]] w fun e w' => e = .returned (.tuple #[]) ∧ Own w' base 9 1 encS v (sortB L) ∧ Below base w w' := by
 have h2 : Own w base 9 1 vG v (L.map Gx) := by
  unfold Own at h ⊢; rw [Ho hs, List.length_map]; exact h
 refine (yD w base v (L.map Gx) m hb0 hm h2 (by simpa using hn)).mono ?_; rintro e w' ⟨h3, h4, h5⟩; refine ⟨h3, ?_, h5⟩; unfold Own at h4 ⊢; unfold sortB; rw [EW, List.length_map]; exact h4
def Jd (s sep : ByteArray) : ByteArray := ⟨(Lib.cut s.data.toList sep.data.toList).1.toArray⟩
def Jc (s sep : ByteArray) : ByteArray := ⟨(Lib.cut s.data.toList sep.data.toList).2.1.toArray⟩
def lG (s : ByteArray) (D : List ByteArray) : List ByteArray := rX (dA (Jc s ⟨#[63]⟩) ⟨#[38]⟩) D (dA (Jc s ⟨#[63]⟩) ⟨#[38]⟩).length
def Ey (s : ByteArray) (D : List ByteArray) : ByteArray :=
 if 0 < (lG s D).length then qB (dA (Jd s ⟨#[63]⟩) ⟨#[47]⟩) ++ (⟨#[63]⟩ ++ jQ (sortB (lG s D)) ⟨#[38]⟩) else qB (dA (Jd s ⟨#[63]⟩) ⟨#[47]⟩)
theorem qg {L : List ByteArray} {sep : ByteArray} (h : ∀ x, x ∈ L → x.size ≤ 1000) (hL : L.length ≤ 1000) (hs : sep.size ≤ 10) : (jQ L sep).size ≤ 1010000 := by
 have h1 := nM (sep := sep) h; have h2 : (1000 + sep.size) * L.length ≤ 1010 * 1000 := Nat.mul_le_mul (by omega) hL; unfold jQ; rw [qO]; omega
theorem yB {ps : List ByteArray} (h : ∀ x, x ∈ ps → x.size ≤ 1000) (hl : ps.length ≤ 1000) : (qB ps).size ≤ 1010002 := by
 have h1 := qg (L := rW ps ps.length) (sep := ⟨#[47]⟩) (fun x hx => h x (qC ps _ (Ls _) x hx)) (by have := qE ps ps.length; omega) (by decide); have h2 : (⟨#[47]⟩ : ByteArray).size = 1 := rfl; unfold qB; split
 ·rw [ByteArray.size_append, ByteArray.size_append]; omega
 ·rw [ByteArray.size_append]; omega
theorem sO {L : List ByteArray} {x : ByteArray} (h : x ∈ sortB L) : x.size ≤ 1000 := by
 unfold sortB at h; rw [List.mem_map] at h; obtain ⟨y, _, rfl⟩ := h; exact y.2
theorem uw (D : List ByteArray) (x : ByteArray) (v : Value) (w : World) (h : Sl w 1 encS v D) :
 Calls Tryz.prog 55 #[v, .string x] w fun e w' => e = .returned (.bool (containsS D x)) ∧ w' = w := by
 obtain ⟨ao, cap, rfl, hcap, hmax, hnil, hel⟩ := h; unfold maxLen at hmax; by_cases he : D = []
 ·subst he; have hc : containsS [] x = false := rfl; rw [hc]; exact Tryz.slices_Contains_string_empty ao cap x w
 ·have h0 : 0 < D.length := List.length_pos_iff.2 he; obtain ⟨b, off, rfl, _⟩ := hel 0 D[0] (by simp); have h2 := Tryz.slices_Contains_string b off D.length cap D x w (Ls _) (by omega) (fun j hj => by
   obtain ⟨b', off', e, hc⟩ := hel j D[j] (by simp); simp only [Option.some.injEq, Addr.mk.injEq, and_true] at e
   obtain ⟨rfl, rfl⟩ := e; have := hc 0 _ rfl; simp only [Nat.mul_one, Nat.add_zero] at this
   rw [this]; simp [List.getD_eq_getElem?_getD, hj])
  rw [List.take_length] at h2; exact h2
end Go.Proofs.YtgohddfnhofjhaaGreatDoor
namespace Go.Proofs.YtgohddfnhofjhaaGreatDoor
open Go.RowKit Go.Lib Go.Sort Go.Shelf
theorem Bc {a b : ByteArray} {f : Value} (h : a = b) : Ending.returned (.tuple #[.string a, f]) = .returned (.tuple #[.string b, f]) := by rw [h]
theorem uP (s : ByteArray) (D : List ByteArray) (v : Value) (w : World) (m : Int) (hr : dG s = true) (h37 : ∀ i, i < s.size → ¬ chr s i = 37) (hD : Sl w 1 encS v D) (hD20 : D.length ≤ 20) (hm : w.cell? ⟨0, 0, none⟩ = some (.int .i64 m)) (hn : (lG s D).length < 20) :
 Calls Tryz.prog 32 #[.string s, v] w fun e w' => e = .returned (.tuple #[.string (Ey s D), .int .i64 0]) ∧ Below w.heap.size w w' := by
 obtain ⟨_, hs, _, _⟩ := mZ hr; have HI := Lr (iG s w (by omega)); rw [hr] at HI; have HDC := Lr (fun W => uu s W hs h37); have HM := Lr hm; have h0 := LC w _ hm; have HCU := Lr (fun W h => Dk s ⟨#[63]⟩ m W (by omega) h); have hc1 := (xZ s ⟨#[63]⟩).1; have hc2 := (xZ s ⟨#[63]⟩).2; have HN : Hid (Ey s D = if 0 < (lG s D).length then qB (dA (Jd s ⟨#[63]⟩) ⟨#[47]⟩) ++ (⟨#[63]⟩ ++ jQ (sortB (lG s D)) ⟨#[38]⟩) else qB (dA (Jd s ⟨#[63]⟩) ⟨#[47]⟩)) := Lr rfl; have HPQ : Hid (lG s D = rX (dA (Jc s ⟨#[63]⟩) ⟨#[38]⟩) D (dA (Jc s ⟨#[63]⟩) ⟨#[38]⟩).length) := Lr rfl; obtain ⟨R, hR⟩ : ∃ R, R = Ey s D := ⟨_, rfl⟩
 obtain ⟨P, hP⟩ : ∃ P, P = Jd s ⟨#[63]⟩ := ⟨_, rfl⟩
 obtain ⟨Q, hQ⟩ : ∃ Q, Q = Jc s ⟨#[63]⟩ := ⟨_, rfl⟩
 have eP : (⟨(Lib.cut s.data.toList (⟨#[63]⟩ : ByteArray).data.toList).1.toArray⟩ : ByteArray) = P := by rw [hP]; rfl
 have eQ : (⟨(Lib.cut s.data.toList (⟨#[63]⟩ : ByteArray).data.toList).2.1.toArray⟩ : ByteArray) = Q := by rw [hQ]; rfl
 rw [eP] at hc1; rw [eQ] at hc2; rw [eP, eQ] at HCU; rw [← hR] at HN ⊢; rw [← hP] at HN; rw [← hQ] at HPQ; generalize (Lib.cut s.data.toList (⟨#[63]⟩ : ByteArray).data.toList).2.2 = Z at HCU; obtain ⟨W, hW⟩ : ∃ W, W = dA Q ⟨#[38]⟩ := ⟨_, rfl⟩
 have HSP := Lr (fun w' h => sN Q ⟨#[38]⟩ m w' (by omega) h (by decide)); have hWL := kG Q ⟨#[38]⟩ (by decide); have HWS := Lr (fun x h => @kF Q ⟨#[38]⟩ x h); have HTD := Lr (fun w' h => Ed P w' m (by omega) h (by have := kG P ⟨#[47]⟩ (by decide); omega) (fun x hx => by have := kF hx; omega)); rw [← hW] at HPQ HSP hWL HWS; have HTS := Lr (yB (ps := dA P ⟨#[47]⟩) (fun x hx => by have := kF hx; omega) (by have := kG P ⟨#[47]⟩ (by decide); omega)); obtain ⟨TD, hTD⟩ : ∃ T, T = qB (dA P ⟨#[47]⟩) := ⟨_, rfl⟩
 rw [← hTD] at HN HTD HTS; obtain ⟨PA, hPA⟩ : ∃ P, P = lG s D := ⟨_, rfl⟩
 rw [← hPA] at HN HPQ hn; clear eP eQ hR hP hQ hW hTD hPA hr h37 hm; have HDS := Lr hD; have HQS : Hid (Q.size ≤ 300) := Lr (by omega); obtain ⟨dao, dcap, rfl, hdc, hdm, _, _⟩ := hD; unfold maxLen at hdm; have hW301 : W.length ≤ 301 := by have := HQS.out; omega
 clear hc1 hc2 hs hWL
 go_enter Tryz.func32, Tryz.ntmps32
 go_wp2_with fail
 refine HI.out.mono ?_; rintro e w1 ⟨rfl, rfl⟩
 go_wp2_with fail
 refine (HDC.out _).mono ?_; rintro e w1 ⟨rfl, hb1⟩; have HB1 := Lr hb1; have HM1 := Lr ((hb1.cell (p := ⟨0, 0, none⟩) h0).trans HM.out); clear hb1
 go_wp2_with fail
 refine (HCU.out _ HM1.out).mono ?_; rintro e w2 ⟨rfl, nn, rfl⟩; have HM2 : Hid ((w1.drewN nn).cell? ⟨0, 0, none⟩ = some (.int .i64 m)) := HM1; have HB2 := Lr (below_drewN HB1.out nn); clear HB1; obtain ⟨w2, hw2⟩ : ∃ w2, w2 = w1.drewN nn := ⟨_, rfl⟩
 rw [← hw2] at HM2 HB2 ⊢; clear hw2 HM1
 go_wp2_with fail
 refine (HSP.out _ HM2.out).mono ?_; rintro e w3 ⟨rfl, hw3⟩; have HEL : Hid (∀ (k : Nat) (x : ByteArray), W[k]? = some x → w3.cell? ⟨w2.heap.size, k, none⟩ = some (.string x)) := Lr (fun k x hx => by
  rw [hw3, cell_of_block (ag w2 _)]; simp [hx])
 have hb3 : Below w2.heap.size w2 w3 := by rw [hw3]; exact (LD _ _).alloc (Ls _) _
 have hsz3 : w3.heap.size = w2.heap.size + 1 := by rw [hw3]; simp
 have hsz2 := HB2.out.size; have HB3 := Lr (HB2.out.trans (hb3.mono hsz2)); have HM3 := Lr ((hb3.cell (p := ⟨0, 0, none⟩) (show 0 < w2.heap.size by omega)).trans HM2.out); obtain ⟨A0, hA0⟩ : ∃ A0, A0 = w2.heap.size := ⟨_, rfl⟩
 rw [← hA0] at HEL hsz3 ⊢; have hA3 : A0 < w3.heap.size := by omega
 clear hw3 hb3 hsz3 hA0 HM2 HB2
 go_wp2
 go_loopg [11, 39] W.length (fun gg s11 s39 wr => ∃ kk : Nat, kk ≤ W.length ∧ W.length - kk ≤ gg ∧ s39 = .int .i64 kk ∧ Aside (Own wr w3.heap.size 9 1 encS s11 (rX W D kk)) ∧ Aside (Below w3.heap.size w3 wr))
 case atStart => exact ⟨0, Nat.zero_le _, by omega, by go_num, Own.nil, LD _ _⟩
 case round =>
  obtain ⟨kk, hkk, hg, rfl, OW, BW⟩ := hrel; have HOW := Lr OW.out; have HBW := Lr BW.out; have hszw := HBW.out.size; have HMR := Lr ((HBW.out.cell (p := ⟨0, 0, none⟩) (show 0 < w3.heap.size by omega)).trans HM3.out); obtain ⟨T, hT⟩ : ∃ T, T = rX W D kk := ⟨_, rfl⟩
  have hTL := wM W D kk; rw [← hT] at HOW hTL; have HT := Lr hT; clear hT OW BW; obtain ⟨ao5, cp5, rfl, hcap5, hmax5, _, _⟩ := Own.sl HOW.out fU; unfold maxLen at hmax5; by_cases hlt : kk < W.length
  ·have hltz : (kk : Int) < (W.length : Int) := by omega
   obtain ⟨x, hx⟩ : ∃ x, W[kk]? = some x := ⟨W[kk], by simp [hlt]⟩
   have c0 : wr.cell? ⟨A0, kk, none⟩ = some (.string x) := (HBW.out.cell (p := ⟨A0, kk, none⟩) hA3).trans (HEL.out kk x hx); have HTN := Lr (Bl (D := D) hx); rw [← HT.out] at HTN; have HXS : Hid (x.size ≤ 1000) := Lr (Nat.le_trans (HWS.out x (List.mem_of_getElem? hx)) (Nat.le_trans HQS.out (by decide))); clear hx; by_cases e1 : x = ⟨#[]⟩
   ·subst e1; have HN2 : Hid (rX W D (kk + 1) = T) := Lr (by rw [HTN.out]; simp [Cj])
    go_wp2
    go_roundg (W.length - (kk + 1))
    case measure => omega
    case rel => exact ⟨kk + 1, by omega, by omega, by go_num, (show Own _ _ _ _ _ _ _ by rw [HN2.out]; exact HOW.out), HBW.out⟩
   ·have hke : Hid (Cj D x = !containsS D (kR x)) := Lr (by simp [Cj, e1]); have f1 : (x.toList == []) = false := vY e1; have HNO := Lr (kS x m wr HXS.out HMR.out); have HCO := Lr (fun n => uw D (kR x) _ (wr.drewN n) ((HDS.out.below (HB3.out) (Ls _)).below (below_drewN HBW.out n) (Ls _))); obtain ⟨c, hc⟩ : ∃ c, c = containsS D (kR x) := ⟨_, rfl⟩
    rw [← hc] at hke HCO; obtain ⟨nx, hnx⟩ : ∃ c, c = kR x := ⟨_, rfl⟩
    rw [← hnx] at HCO HNO; clear e1 hc hnx; cases c
    case true =>
     have HN2 : Hid (rX W D (kk + 1) = T) := Lr (by rw [HTN.out, hke.out]; simp)
     go_wp2_with fail
     refine HNO.out.mono ?_; rintro e w5 ⟨rfl, n5, rfl⟩
     go_wp2_with fail
     refine (HCO.out n5).mono ?_; rintro e w6 ⟨rfl, rfl⟩
     go_wp2
     go_roundg (W.length - (kk + 1))
     case measure => omega
     case rel => exact ⟨kk + 1, by omega, by omega, by go_num, (show Own _ _ _ _ _ _ _ by rw [HN2.out]; exact HOW.out), below_drewN HBW.out _⟩
    case false =>
     have HN2 : Hid (rX W D (kk + 1) = T ++ [x]) := Lr (by rw [HTN.out, hke.out]; simp); have HK : Hid ((T.length + 1) * 16 ≤ 140737488355328) := Lr (by omega)
     go_wp2_with fail
     refine HNO.out.mono ?_; rintro e w5 ⟨rfl, n5, rfl⟩
     go_wp2_with fail
     refine (HCO.out n5).mono ?_; rintro e w6 ⟨rfl, rfl⟩; have HOW5 := Lr (HOW.out.drewN n5); have HBW5 := Lr (below_drewN HBW.out n5); obtain ⟨w5, hw5⟩ : ∃ w5, w5 = wr.drewN n5 := ⟨_, rfl⟩
     rw [← hw5] at HOW5 HBW5 ⊢; have hsz5 := HBW5.out.size; clear hw5 HOW HBW
     go_wp2_with (at_builtin; refine jw rfl _ _ 114 rfl slS rfl rfl x rfl rfl rfl HOW5.out rfl HK.out hsz5 ?_; intro v5 w5 ho5 hb5; obtain ⟨ao6, cp6, rfl, hcap6, hmax6, _, _⟩ := Own.sl ho5 fU; have HO5 := Lr ho5; have HB5 := Lr (HBW5.out.trans hb5); clear ho5 hb5)
     go_roundg (W.length - (kk + 1))
     case measure => omega
     case rel => exact ⟨kk + 1, by omega, by omega, by go_num, (show Own _ _ _ _ _ _ _ by rw [HN2.out]; have h := HO5.out; rw [List.length_append] at h; exact h), HB5.out⟩
  ·obtain rfl : kk = W.length := by omega
   have hltz : ¬ (W.length : Int) < (W.length : Int) := by omega
   have hTP : T = PA := by rw [HT.out, HPQ.out]
   subst hTP; have HSO := Lr (AQ wr w3.heap.size _ T m (by omega) HMR.out HOW.out (fun x hx => by
    have h1 := wL W D W.length (Ls _) x (by rw [← HT.out]; exact hx); exact Nat.le_trans (HWS.out x h1) (Nat.le_trans HQS.out (by decide))) hn)
   go_wp2_with fail
   refine HSO.out.mono ?_; rintro e w6 ⟨rfl, ho6, hb6⟩; have HO6 := Lr ho6; have HB6 := Lr ((HB3.out.trans (HBW.out.mono (HB3.out.size))).trans (hb6.mono (HB3.out.size))); have HM6 := Lr ((hb6.cell (p := ⟨0, 0, none⟩) (show 0 < w3.heap.size by omega)).trans HMR.out); clear ho6 hb6
   go_wp2_with fail
   refine (HTD.out _ HM6.out).mono ?_; rintro e w7 ⟨rfl, hb7⟩; have HB7 := Lr (HB6.out.trans (hb7.mono HB6.out.size)); have HSL7 := Lr ((HO6.out.sl fU).below hb7 (Ls _)); clear hb7; have HJ := Lr (xg (sortB T) ⟨#[38]⟩ _ w7 HSL7.out (fun x hx => sO hx) (by rw [sQ]; omega) (by decide)); have hJs := qg (L := sortB T) (sep := ⟨#[38]⟩) (fun x hx => sO hx) (by rw [sQ]; omega) (by decide); have hts := HTS.out; by_cases hT0 : 0 < T.length
   ·have hTz : (0 : Int) < (T.length : Int) := by omega
    have HNN : Hid (TD ++ (⟨#[63]⟩ ++ jQ (sortB T) ⟨#[38]⟩) = R) := Lr (by rw [HN.out, if_pos hT0]); generalize jQ (sortB T) ⟨#[38]⟩ = J at HJ hJs HNN; have hsz1 : ((⟨#[63]⟩ : ByteArray) ++ J).size = 1 + J.size := by rw [ByteArray.size_append]; rfl
    clear hT0
    go_wp2_with fail
    refine HJ.out.mono ?_; rintro e w8 ⟨rfl, hb8⟩; have HB8 := Lr (HB7.out.trans (hb8.mono HB7.out.size)); clear hb8
    go_wp2
    go_ret2
    exact ⟨Bc HNN.out, HB8.out⟩
   ·have hTz : ¬ (0 : Int) < (T.length : Int) := by omega
    have HNN : Hid (TD = R) := Lr (by rw [HN.out, if_neg hT0]); clear hT0
    go_wp2
    go_ret2
    exact ⟨Bc HNN.out, HB7.out⟩
theorem DL : Ey ⟨#[47, 97, 47, 46, 46, 47, 98, 63, 121, 61, 50, 38, 120, 61, 49]⟩ [] = ⟨#[47, 98, 63, 120, 61, 49, 38, 121, 61, 50]⟩ := by decide +kernel
theorem zD : (lG ⟨#[47, 97, 47, 46, 46, 47, 98, 63, 121, 61, 50, 38, 120, 61, 49]⟩ []).length < 20 := by decide +kernel
theorem DK : dG ⟨#[47, 97, 47, 46, 46, 47, 98, 63, 121, 61, 50, 38, 120, 61, 49]⟩ = true := by decide +kernel
theorem FB : ∀ i, i < (⟨#[47, 97, 47, 46, 46, 47, 98, 63, 121, 61, 50, 38, 120, 61, 49]⟩ : ByteArray).size → ¬ chr ⟨#[47, 97, 47, 46, 46, 47, 98, 63, 121, 61, 50, 38, 120, 61, 49]⟩ i = 37 := by decide +kernel
theorem zF (w : World) (m : Int) (hm : w.cell? ⟨0, 0, none⟩ = some (.int .i64 m)) :
 Calls Tryz.prog 11 #[] w fun e w' => e = .returned (.bool true) ∧ Below w.heap.size w w' := by
 have h := uP ⟨#[47, 97, 47, 46, 46, 47, 98, 63, 121, 61, 50, 38, 120, 61, 49]⟩ [] (.slice none 0 0) w m DK FB Sl.nil (by decide) hm zD; rw [DL] at h; have H := Lr h; clear h hm
 go_enter Tryz.func11, Tryz.ntmps11
 go_wp2_with fail
 refine H.out.mono ?_; rintro e w1 ⟨rfl, hb⟩; have HB := Lr hb; clear hb
 go_wp2
 go_ret
 exact ⟨rfl, HB.out⟩
theorem o8 (w : World) (C : List Cch) (R : List Crl) (E : List Rel) (P : List Pur) (L : List Gt) (vc vr ve vp vl : Value) (cn : ByteArray) (t : Int) (h : InS w C R E P L vc vr ve vp vl) (hw : WfS C R E P L) (m : Int) (hm : w.cell? ⟨0, 0, none⟩ = some (.int .i64 m)) :
 Calls Tryz.prog 9 #[.agg #[vc, vr, ve, vp], vl, .string cn, .int .i64 t] w fun e' w' => e' = .returned (.bool true) ∧ Below w.heap.size w w' := by
 have h0 := LC w _ hm; obtain ⟨w2, hw2⟩ : ∃ w2, w2 = w.alloc (.cells #[vc, vr, ve, vp] 27) := ⟨_, rfl⟩
 have hb2 : Below w.heap.size w w2 := by rw [hw2]; exact (LD _ w).alloc (Ls _) _
 have hnb : w2.heap[w.heap.size]? = some (.cells #[vc, vr, ve, vp] 27 (0, 0)) := by rw [hw2]; exact ag w _
 have hlt : w.heap.size < w2.heap.size := (Array.getElem?_eq_some_iff.1 hnb).1; have h2 := h.below hb2; have H1 := Lr (DU w2 C R E P L vc vr ve vp vl cn t h2 hw); have H2 := Lr (fun (W : World) (hW : Below w2.heap.size w2 W) => zL W C R E P L vc vr ve vp vl cn t (h2.below hW) hw); have H5 := Lr (fun (W : World) (hW : Below w.heap.size w W) => zF W m ((hW.cell (p := ⟨0, 0, none⟩) h0).trans hm)); have HQ : Hid (∀ W : World, Below w2.heap.size w2 W → W.cell? ⟨w.heap.size, 0, none⟩ = some vc ∧ W.cell? ⟨w.heap.size, 1, none⟩ = some vr ∧ W.cell? ⟨w.heap.size, 2, none⟩ = some ve ∧ W.cell? ⟨w.heap.size, 3, none⟩ = some vp) := Lr fun W hW => by
  have h1 := (hW.block _ hlt).trans hnb; exact ⟨af h1 0 rfl, af h1 1 rfl, af h1 2 rfl, af h1 3 rfl⟩
 obtain ⟨q0, q1, q2, q3⟩ := HQ.out w2 (LD _ _); have HW2 := Lr hw2; have HB2 := Lr hb2; clear h h2 hw hm hw2 hb2 hnb hlt; generalize nS C R E P L cn t = S at H1 H2 ⊢
 go_enter Tryz.func9, Tryz.ntmps9
 go_upto_region 1 with (fail)
 rw [← HW2.out]
 go_upto_region 2 with (go_at_call 25; (with_reducible refine H1.out.mono ?_); rintro e w3 ⟨⟨v, rfl, f, l, hs, hl1, hl2⟩, hb3⟩; have HS := Lr (Gz hs); have HB3 := Lr hb3; have HL1 := Lr hl1; have HL2 := Lr hl2; obtain ⟨r0, r1, r2, r3⟩ := HQ.out w3 hb3; clear hs hb3 hl1 hl2 q0 q1 q2 q3)
 have H2' := Lr (H2.out w3 HB3.out)
 go_upto_region 3 with (go_at_call 28; (with_reducible refine H2'.out.mono ?_); rintro e w4 ⟨⟨u, rfl, l', hs, hl1, hl2⟩, hb4⟩; have HT := Lr hs; have HB4 := Lr hb4; have HM1 := Lr hl1; have HM2 := Lr hl2; clear hs hb4 hl1 hl2 r0 r1 r2 r3)
 have hll : l.map (uF f) = l' := by
  by_cases hS : S = 0
  ·obtain ⟨X, hX, hl⟩ := HL2.out hS; obtain ⟨X', hX', rfl⟩ := HM2.out hS; rw [EQ hl, hX.uniq hX']
  ·rw [HL1.out hS, HM1.out hS]; rfl
 subst hll; have HEQ := Lr (vC w4 (l.map (uF f)) v u (HS.out.below HB4.out (Ls _)) HT.out); have HB4' := Lr (HB2.out.bf (HB3.out.bf HB4.out)); clear H1 H2 H2' HL1 HL2 HM1 HM2 HS HT
 go_wp2_with (first
  | (go_at_call 29; (with_reducible refine HEQ.out.mono ?_); rintro e w5 ⟨rfl, hb5⟩; have HB5 := Lr (HB4'.out.bf hb5); have H6 := Lr (H5.out w5 HB5.out); clear hb5)
  | (go_at_call 11; (with_reducible refine H6.out.mono ?_); rintro e w6 ⟨rfl, hb6⟩; have HB6 := Lr (HB5.out.bf hb6); clear hb6)
  | fail)
 go_ret
 exact ⟨rfl, HB6.out⟩
end Go.Proofs.YtgohddfnhofjhaaGreatDoor

/- The day as the document tells it: it goes one way; what was answered stays; gets that come later change nothing before. -/
import Derived.Test.YtgohddfnhofjhaaGreatDoorK30
import Derived.Test.YtgohddfnhofjhaaGreatDoorK21
import Derived.Test.YtgohddfnhofjhaaGreatDoorK25
import Derived.Test.YtgohddfnhofjhaaGreatDoorK24
import Derived.Shelf.Spec.SlicesInsert
import Derived.Lib.AppendZerosOnto
import Derived.Laws.NewBlocks
import Derived.Deep.RegionLaw
import Derived.Test.YtgohddfnhofjhaaGreatDoorK20
import Derived.Test.YtgohddfnhofjhaaGreatDoorK15
import Derived.Test.YtgohddfnhofjhaaGreatDoorK01
set_option maxRecDepth 100000
set_option maxHeartbeats 8000000
namespace Go.Proofs.YtgohddfnhofjhaaGreatDoor
open Go.RowKit
theorem FX : (Tryz.prog.info? 59).map (fun i => (i.zero, i.size, i.bytes)) = some (some (.agg #[.string ⟨#[]⟩, .int .i64 0, .int .i64 0, .int .i64 0]), 4, 40) := by kernel_rfl
theorem Jt : SlT Tryz.prog 55 59 4 40 := by
 obtain ⟨i0, hi, hz0, hz1, hz2⟩ := info_parts FX; exact ⟨i0, _, Tryz.underlying55, hi, hz0, hz1, hz2, rfl, by decide, by decide⟩
def nS (C : List Cch) (R : List Crl) (E : List Rel) (P : List Pur) (L : List Gt) (n : ByteArray) (t : Int) : Int :=
 if bY C R E P L ≠ 0 then bY C R E P L else if fC C n < 0 then 5 else if t < 0 ∨ 2000000000000 < t then 1 else 0
structure Jj (C : List Cch) (X : Xd) (n : ByteArray) (f : ByteArray → Hld) (l : List ByteArray) : Prop where
 pm : l.Perm ((X.H (fC C n).toNat).map Xh.ke)
 inc : l.Pairwise fun a b => pq a b < 0
 eq : ∀ h, h ∈ X.H (fC C n).toNat → f h.ke = ⟨h.an, h.us⟩
theorem Eu {α : Type} {w w' : World} {base : Nat} {E : TypeId} {k : Nat} {enc : α → List Value} {v : Value} {l : List α} (h : Own w base E k enc v l) (hs : ∀ i, base ≤ i → i < w.heap.size → w'.heap[i]? = w.heap[i]?) : Own w' base E k enc v l := by
 obtain ⟨h1, h2⟩ := h; refine ⟨h1, ?_⟩; rcases h2 with h2 | ⟨g, cap, cur, e1, e2, e3, r⟩
 ·exact .inl h2
 ·exact .inr ⟨g, cap, cur, e1, e2, (hs g e2 (Array.getElem?_eq_some_iff.1 e3).1).trans e3, r⟩
theorem yF {α : Type} {w w' : World} {base : Nat} {E : TypeId} {k : Nat} {enc : α → List Value} {v v' : Value} {l : List α} (h : Own w base E k enc v l) (hb : Below base w w') (hk : dm w w' v v') : ∃ row, w.grownBy w' row ∧ ∀ r, r < base → some r ≠ row := by
 rcases Own.slw h with ⟨rfl, _⟩ | ⟨g, cap, rfl⟩
 ·exact ⟨none, ⟨hb.os, hb.tape, hb.output, hb.size, fun i hi _ => (hk i hi (df.nil i)).1⟩, fun r _ e => by cases e⟩
 ·have hg : base ≤ g := (World.ownsRow.lt h g rfl).1; exact ⟨some g, ⟨hb.os, hb.tape, hb.output, hb.size, fun i hi hne => (hk i hi (df.mk fun e => hne (by rw [e]))).1⟩, fun r hr e => by cases e; omega⟩
theorem DU (w : World) (C : List Cch) (R : List Crl) (E : List Rel) (P : List Pur) (L : List Gt) (vc vr ve vp vl : Value) (cn : ByteArray) (t : Int) (h : InS w C R E P L vc vr ve vp vl) (hw : WfS C R E P L) :
 Calls Tryz.prog 25 #[.agg #[vc, vr, ve, vp], vl, .string cn, .int .i64 t] w fun e w' => (∃ v, e = .returned (.tuple #[v, .int .i64 (nS C R E P L cn t)]) ∧ ∃ f l, Sl w' 4 (fB f) v l ∧ (nS C R E P L cn t ≠ 0 → l = []) ∧ (nS C R E P L cn t = 0 → ∃ X, qp C R E P L t X ∧ Jj C X cn f l)) ∧ Below w.heap.size w w' := by
 obtain ⟨w2, hbx⟩ := boxS w h hw; have HW2 := Lr hbx.al; have HB2 := Lr hbx.bel; have HF := Lr (hbx.flt w2 (LD _ _)); have HQ := Lr hbx.q; obtain ⟨q0, q1, q2, q3⟩ := hbx.q w2 (LD _ _); have h2 := h.below hbx.bel; have HV := Lr (pG (C := C) (R := R) (E := E) (P := P) (L := L)); have HHF : Hid (nS C R E P L cn t = if bY C R E P L ≠ 0 then bY C R E P L else if fC C cn < 0 then 5 else if t < 0 ∨ 2000000000000 < t then 1 else 0) := Lr rfl; have HNW : Hid (∀ (W : World), Below w2.heap.size w2 W → bY C R E P L = 0 → Calls Tryz.prog 37 #[.agg #[vc, vr, ve, vp], .int .i64 (L.length : Nat)] W fun e w' => ∃ A, e = .returned (.pointer (some ⟨A.q, 0, none⟩)) ∧ PD w' W.heap.size A (xY (C.map (gK C)) L.length) ∧ A.d0 = vc ∧ A.d1 = vr ∧ A.d2 = ve ∧ A.d3 = vp ∧ Below W.heap.size W w') := Lr fun W hW hs => by
  have hv := pG hs; exact lH W C vc vr ve vp L.length (h2.below hW).c hv.l (by have := hv.c; omega)
 have HNM : Hid (∀ (W : World), Below w2.heap.size w2 W → ∀ q, W.cell? ⟨q, 0, none⟩ = some vc → Calls Tryz.prog 38 #[.pointer (some ⟨q, 0, none⟩), .string cn] W fun e w' => e = .returned (.int .i64 (fC C cn)) ∧ Below W.heap.size W w') := Lr fun W hW q hq => pV W q C vc cn hq (h2.below hW).c
 have HRN : Hid (∀ (W : World) (B : Nat) (A : Adr), Below w2.heap.size w2 W → bY C R E P L = 0 → 0 ≤ t → t ≤ 2000000000000 → PD W B A (xY (C.map (gK C)) L.length) → A.d0 = vc → A.d1 = vr → A.d2 = ve → A.d3 = vp → w2.heap.size ≤ B →
  Calls Tryz.prog 39 #[.pointer (some ⟨A.q, 0, none⟩), vl, .int .i64 t] W fun e w' => ∃ A' D X n, A'.q = A.q ∧ e = .returned (.tuple #[]) ∧ PD w' B A' D ∧ qp C R E P L t X ∧ Sim C [] D X ∧ Fit n D ∧ n ≤ 310000 ∧ Below B W w') := Lr fun W B A hW hs ht0 ht1 hp e0 e1 e2 e3 hB => by
  have hv := pG hs; refine (run_any w2 W B A _ C R E P L vl t (Jo C R E P L t (xd0 C L.length)) (muX C P L (xd0 C L.length)) (FN hv _) hp ⟨_, Jf hv _, rfl⟩ ⟨hB, by rw [e0]; exact h2.c, by rw [e1]; exact h2.r, by rw [e2]; exact h2.e, by rw [e3]; exact h2.p, hv.rb, fun x hx => ?_⟩ hW h2.l ⟨ht0, by omega⟩ ⟨by have := hv.p; omega, hv.l⟩ (fun x hx => (hv.pt x hx).2)).mono ?_
  ·obtain ⟨g1, g2, _⟩ := hv.e x hx; cases hg : x.go
   ·have := g2 hg; omega
   ·have := g1 hg; omega
  ·rintro e w' ⟨A', k, c, rfl, h1, h2, h3, h4, h5⟩; obtain ⟨X, h6, h7⟩ := Dh h4 h5; obtain ⟨X2, hb, _⟩ := h4; obtain ⟨n, hf, hn⟩ := hb.fit; exact ⟨A', c.D, X, n, h2.q, rfl, h1, h6, h7, hf, by omega, h3⟩
 obtain ⟨lo, lc, rfl, hlc, hlm, -, -⟩ := h2.l; clear hbx h h2 hw; generalize nS C R E P L cn t = F at HHF ⊢; generalize bY C R E P L = S at HF HV HHF HNW HRN ⊢
 go_enter Tryz.func25, Tryz.ntmps25
 go_upto_region 1 with (fail)
 rw [← HW2.out]
 go_upto_region 2 with (go_at_call 30; (with_reducible refine HF.out.mono ?_); rintro e w3 ⟨rfl, hb3⟩; have HB3 := Lr hb3; obtain ⟨r0, r1, r2, r3⟩ := HQ.out w3 hb3; clear hb3 q0 q1 q2 q3)
 by_cases hS : S = 0
 case neg =>
  have hv : Hid (S = F) := Lr (by rw [HHF.out, if_pos hS]); have hne : (S != 0) = true := by simpa using hS
  have HS := Lr hS; clear hS
  go_wp2_with fail
  go_ret2
  exact ⟨⟨_, by rw [← hv.out]; rfl, fun _ => default, [], Sl.nil, fun _ => rfl, fun h => absurd (hv.out.trans h) HS.out⟩, HB2.out.bf HB3.out⟩
 subst hS; have HW3 : Hid (Below w2.heap.size w2 w3) := HB3; have HN3 := Lr (HNW.out w3 HB3.out rfl)
 go_upto_region 5 with (go_at_call 37; (with_reducible refine HN3.out.mono ?_); rintro e w4 ⟨A, rfl, hp, e0, e1, e2, e3, hb4⟩; have hc0 : w4.cell? ⟨A.q, 0, none⟩ = some vc := (af hp.qb.2 0 rfl).trans (congrArg some e0); have HP := Lr hp; have HE := Lr (And.intro e0 (And.intro e1 (And.intro e2 e3))); have HB4 := Lr hb4; clear hp e0 e1 e2 e3 hb4 r0 r1 r2 r3)
 have HB24 : Hid (Below w2.heap.size w2 w4) := Lr (HB3.out.bf HB4.out); have HM4 := Lr (HNM.out w4 HB24.out A.q hc0)
 go_upto_region 6 with (go_at_call 38; (with_reducible refine HM4.out.mono ?_); rintro e w5 ⟨rfl, hb5⟩; have HB5 := Lr hb5; clear hb5 hc0)
 have HB25 : Hid (Below w2.heap.size w2 w5) := Lr (HB24.out.bf HB5.out); have HP5 := Lr (HP.out.below HB5.out); have HBW : Hid (Below w.heap.size w w5) := Lr (HB2.out.bf HB25.out); obtain ⟨ci, hci⟩ : ∃ ci, ci = fC C cn := ⟨_, rfl⟩
 rw [← hci] at HHF ⊢; by_cases hc : ci < 0
 ·have hv : Hid (5 = F) := Lr (by rw [HHF.out, if_neg (by simp), if_pos hc]); clear hci
  go_wp2_with fail
  go_ret2
  exact ⟨⟨_, by rw [← hv.out]; rfl, fun _ => default, [], Sl.nil, fun _ => rfl, fun h => by rw [← hv.out] at h; cases h⟩, HBW.out⟩
 by_cases ht1 : t < 0
 ·have hv : Hid (1 = F) := Lr (by rw [HHF.out, if_neg (by simp), if_neg hc, if_pos (.inl ht1)]); clear hci
  go_wp2_with fail
  go_ret2
  exact ⟨⟨_, by rw [← hv.out]; rfl, fun _ => default, [], Sl.nil, fun _ => rfl, fun h => by rw [← hv.out] at h; cases h⟩, HBW.out⟩
 by_cases ht2 : 2000000000000 < t
 ·have hv : Hid (1 = F) := Lr (by rw [HHF.out, if_neg (by simp), if_neg hc, if_pos (.inr ht2)]); clear hci
  go_wp2_with fail
  go_ret2
  exact ⟨⟨_, by rw [← hv.out]; rfl, fun _ => default, [], Sl.nil, fun _ => rfl, fun h => by rw [← hv.out] at h; cases h⟩, HBW.out⟩
 have hv : Hid (0 = F) := Lr (by rw [HHF.out, if_neg (by simp), if_neg hc, if_neg (by omega)]); have HR5 := Lr (HRN.out w5 w3.heap.size A HB25.out (by trivial) (by omega) (by omega) HP5.out HE.out.1 HE.out.2.1 HE.out.2.2.1 HE.out.2.2.2 HB3.out.size); obtain ⟨i, hi⟩ : ∃ i : Nat, ci = (i : Int) := ⟨ci.toNat, by omega⟩
 subst hi; have HCI := Lr hci; clear hci
 go_wp2_with fail
 (with_reducible refine HR5.out.mono ?_)
 rintro e w6 ⟨A6, D, X, n, hq, rfl, hp, hE, hSm, hF6, hn6, hb6⟩; have hc4 : w6.cell? ⟨A.q, 4, none⟩ = some A6.sv := by rw [← hq]; exact af hp.qb.2 4 rfl
 have HP6 := Lr hp; have HES := Lr (And.intro hE hSm); have HF6 := Lr (And.intro hF6 hn6); have HB6 := Lr hb6; clear hp hE hSm hF6 hn6 hb6 hq; have hil : i < C.length := by
  have h := HCI.out; unfold fC iI at h; split at h
  ·omega
  ·have := List.findIdx_le_length (p := fun o => isC o cn) (xs := C); omega
 have HBW6 : Hid (Below w.heap.size w w6) := Lr (HBW.out.trans (HB6.out.mono (by have := HB2.out.size; have := HB3.out.size; omega))); have hsl : D.st.length = C.length := HES.out.2.len; obtain ⟨s, hse⟩ : ∃ s, s = D.S i := ⟨_, rfl⟩
 obtain ⟨hs, hst⟩ := HES.out.2.at_ hil; rw [← hse] at hs hst; obtain ⟨so, sc, hsv, -, -, -, hel⟩ := HP6.out.stores.sl (bH A6.sb); rw [List.length_range, hsl] at hsv; rw [hsv] at hc4; obtain ⟨bs, off, rfl, hc2⟩ := hel i i (by rw [List.getElem?_range (by omega)]); have c0 : w6.cell? ⟨bs, off + i, none⟩ = some (.pointer (some ⟨A6.sb i, 0, none⟩)) := by have h := hc2 0 _ rfl; simpa using h
 have c5 : w6.cell? ⟨A6.sb i, 5, none⟩ = some (.map (some (A6.mb i))) := af (HP6.out.sb hs).2 5 rfl; obtain ⟨_, hm⟩ := HP6.out.map hs; have hkl : s.ks.length ≤ 310000 := by have := (HF6.out.1.st i s hs).kl; have := HF6.out.2; omega
 have hnd := hm.1; have HHE := Lr hst.he; have hiz : (i : Int) < (C.length : Int) := by omega
 have hi0 : (0 : Int) ≤ (i : Int) := by omega
 generalize A6.mb i = b at c5 hm; have hbl := hm.lt; have HMH := Lr hm; obtain ⟨wi, hrg, hrv, hgi, hsi⟩ := hm.range; have HRI : Hid (oN wi b w6.heap.size D.pu s.hm s.ks s.ks) := Lr hrv; have HBI : Hid (Below w6.heap.size w6 wi) := Lr ((LD _ w6).grown hgi (Ls _) (fun i hi => by cases hi)); obtain ⟨R, hR⟩ : ∃ R, R = w6.heap.size := ⟨_, rfl⟩
 rw [← hR] at hrg HRI; have HR := Lr hR; have HND := Lr hnd; have HBL := Lr hbl; have HSI := Lr hsi; clear hse hs hst hsv hel hc2 hm hrv hgi hsi hnd hR hbl
 go_wp2_with fail
 go_loopg [13, 14, 15] s.ks.length (fun gg s13 s14 s15 wr => ∃ (left dn : List ByteArray) (v13 : Value), left.length ≤ gg ∧ s13 = v13 ∧ Aside (oN wr b R D.pu s.hm s.ks left) ∧ Aside (Own wr (R + 1) 59 4 (fB s.hm) v13 dn) ∧ Aside ((dn ++ left).Perm s.ks) ∧ Aside (Below w6.heap.size w6 wr))
 case atStart => exact ⟨s.ks, [], _, Ls _, rfl, (show Aside _ from HRI.out), (show Aside _ from Own.nil), (show Aside _ from List.Perm.refl _), (show Aside _ from HBI.out)⟩
 case round =>
  obtain ⟨wq, rfl⟩ : ∃ wq : World, wq = wr := ⟨_, rfl⟩
  obtain ⟨left, dn, v13, hgl, rfl, RV, OW, PM, BU⟩ := hrel; obtain ⟨ya, yL, yc, rfl⟩ := Own.slv (jX s.hm) OW.out; have hdl : dn.length ≤ 310000 := by have := PM.out.length_eq; rw [List.length_append] at this; omega
  have hRq : R + 1 ≤ wq.heap.size := by
   have h1 := (RV.out.2.2.2)
   obtain ⟨_, _, _, h2, _⟩ := h1; have := BU.out.size; have := HR.out; have h3 := h2.lt; omega
  rcases RV.out.step 0 with ⟨hnil, hrun⟩ | ⟨v, wn, hvl, hrun, hrv, hgr, hsz, hen⟩
  ·have HSO := Lr (AO wq (R + 1) s.hm dn _ OW.out hRq (by omega)); have HPM : Hid (dn.Perm s.ks) := Lr (by have h := PM.out; rw [hnil, List.append_nil] at h; exact h); have HB := Lr BU.out; clear hnil RV OW PM BU
   go_wp2_with (go_at_call 40; (with_reducible refine HSO.out.mono ?_); rintro e w8 ⟨rfl, ho8, hb8⟩; have HO8 := Lr ho8; have HB8 := Lr hb8; clear ho8 hb8)
   go_ret2
   refine ⟨⟨_, by rw [← hv.out]; rfl, s.hm, yE dn, HO8.out.sl (jX s.hm), fun h => absurd hv.out.symm h, fun _ => ⟨X, HES.out.1, ?_⟩⟩, HBW6.out.trans ((HB.out.mono HBW6.out.size).trans (HB8.out.mono (by have := HR.out; have := HBW6.out.size; omega)))⟩; have e : (fC C cn).toNat = i := by rw [← HCI.out, Int.toNat_natCast]
   refine ⟨?_, Ef (HPM.out.nodup_iff.2 HND.out), ?_⟩
   ·rw [e]; exact (sK dn).trans (HPM.out.trans HHE.out.pm.symm)
   ·rw [e]; exact HHE.out.eq
  ·have hvk := RV.out.2.1 v hvl; have hrle := pR hvl; have hkv : v.size ≤ maxLen := RV.out.2.2.1 v hvk; have hRR := HR.out; have HBV : Hid (Below w6.heap.size w6 wn) := Lr (BU.out.grown hgr (by have := BU.out.size; omega) (fun j hj => by cases hj; omega)); have HOV : Hid (Own wn (R + 1) 59 4 (fB s.hm) (.slice ya yL yc) dn) := Lr (Eu OW.out fun j hj hjl => World.grownBy.block hgr j hjl (fun e => by cases e; omega)); obtain ⟨w2', hw2⟩ : ∃ w2', w2' = wn.alloc (.cells #[.int .i64 (s.hm v).an.ve, .int .i64 (s.hm v).an.bo, .int .i64 (s.hm v).an.si, .bool (s.hm v).an.no, .string (s.hm v).an.fr, .int .i64 (s.hm v).us] 97) := ⟨_, rfl⟩
   have HB2' : Hid (Below w6.heap.size w6 w2') := Lr (by rw [hw2]; exact HBV.out.alloc HBV.out.size _); have HR2 : Hid (oN w2' b R D.pu s.hm s.ks (rmv v left)) := Lr (by rw [hw2]; exact hrv.kept (World.grownBy_alloc wn _ none) (by simp) (by simp)); have HO2 : Hid (Own w2' (R + 1) 59 4 (fB s.hm) (.slice ya yL yc) dn) := Lr (by rw [hw2]; exact HOV.out.al _); have hbk : w2'.heap[wn.heap.size]? = some (.cells #[.int .i64 (s.hm v).an.ve, .int .i64 (s.hm v).an.bo, .int .i64 (s.hm v).an.si, .bool (s.hm v).an.no, .string (s.hm v).an.fr, .int .i64 (s.hm v).us] 97 (0, 0)) := by rw [hw2]; exact ag wn _
   have hlt2 : wn.heap.size < w2'.heap.size := (Array.getElem?_eq_some_iff.1 hbk).1; have d0 : w2'.cell? ⟨wn.heap.size, 0, none⟩ = some (.int .i64 (s.hm v).an.ve) := af hbk 0 rfl; have d1 : w2'.cell? ⟨wn.heap.size, 1, none⟩ = some (.int .i64 (s.hm v).an.bo) := af hbk 1 rfl; have d5 : w2'.cell? ⟨wn.heap.size, 5, none⟩ = some (.int .i64 (s.hm v).us) := af hbk 5 rfl; have HW2' := Lr hw2; have hen2 : (Instr.entry (.pointer (some ⟨R, 0, none⟩))).run Tryz.prog wn = .ok (.tuple #[.string v, .agg #[.int .i64 (s.hm v).an.ve, .int .i64 (s.hm v).an.bo, .int .i64 (s.hm v).an.si, .bool (s.hm v).an.no, .string (s.hm v).an.fr, .int .i64 (s.hm v).us]]) wn := hen; have hrun2 : (Instr.next (.pointer (some ⟨R, 0, none⟩)) false 0).run Tryz.prog wq = .ok (.tuple #[.bool true, .string v, .agg #[.int .i64 (s.hm v).an.ve, .int .i64 (s.hm v).an.bo, .int .i64 (s.hm v).an.si, .bool (s.hm v).an.no, .string (s.hm v).an.fr, .int .i64 (s.hm v).us]]) wn := hrun; have hle : (rmv v left).length + 1 ≤ left.length := hrle; have HPM2 : Hid (((dn ++ [v]) ++ rmv v left).Perm s.ks) := Lr (by
    have h1 := PM.out; have hn : left.Nodup := RV.out.1; have h2 : (v :: rmv v left).Perm left := by
     rw [List.perm_ext_iff_of_nodup (List.nodup_cons.2 ⟨fun h => (aU.1 h).2 rfl, bJ hn⟩) hn]; intro a; rw [List.mem_cons, aU]; constructor
     ·rintro (rfl | h)
      ·exact hvl
      ·exact h.1
     ·intro h; by_cases e : a = v
      ·exact .inl e
      ·exact .inr ⟨h, e⟩
    rw [List.append_assoc]; exact (List.Perm.append_left dn h2).trans h1)
   have hsn : R + 1 ≤ w2'.heap.size := by omega
   clear hrv hgr hsz RV PM BU hvl hvk hbk hw2 hen hrun hrle HRI OW hkv hRR
   go_upto_region 15 with (fail)
   rw [← HW2'.out]; obtain ⟨NN, hNN⟩ : ∃ NN, NN = wn.heap.size := ⟨_, rfl⟩
   rw [← hNN] at d0 d1 d5 ⊢; clear hNN; have HO5 : Hid (Own (w2'.alloc (.cells (fB s.hm v).toArray 59)) (R + 1) 59 4 (fB s.hm) (.slice ya yL yc) dn) := Lr (HO2.out.al _); have HV5 : Hid ((w2'.alloc (.cells (fB s.hm v).toArray 59)).heap[w2'.heap.size]? = some (.cells (fB s.hm v).toArray 59 (0, 0))) := Lr (ag w2' _); have HR5' : Hid (oN (w2'.alloc (.cells (fB s.hm v).toArray 59)) b R D.pu s.hm s.ks (rmv v left)) := Lr (HR2.out.kept (World.grownBy_alloc w2' _ none) (by simp) (by simp)); have HB5' : Hid (Below w6.heap.size w6 (w2'.alloc (.cells (fB s.hm v).toArray 59))) := Lr (HB2'.out.alloc HB2'.out.size _); have hbs : R + 1 ≤ (w2'.alloc (.cells (fB s.hm v).toArray 59)).heap.size := by simp; omega
   go_wp2_with (at_builtin; go_loud (refine dM (enc := fB s.hm) (v := .slice ya yL yc) (l := dn) rfl _ _ 55 rfl Jt (by decide) rfl rfl v rfl rfl HO5.out HV5.out (by omega) hbs ?_); intro v8 w8 ho8 hb8 hk8; have HO8 := Lr ho8; have HB8 := Lr hb8; have HK8 := Lr hk8; clear ho8 hb8 hk8)
   obtain ⟨row, hg8, hr8⟩ := yF HO5.out HB8.out HK8.out; have HBL' := HBL.out; have hRR := HR.out; have HR8 : Hid (oN w8 b R D.pu s.hm s.ks (rmv v left)) := Lr (HR5'.out.kept hg8 (hr8 b (by omega)) (hr8 R (by omega))); have HB9 : Hid (Below w6.heap.size w6 w8) := Lr (HB5'.out.trans (HB8.out.mono (by omega)))
   go_roundg (rmv v left).length
   case measure => omega
   case rel => exact ⟨rmv v left, dn ++ [v], _, Ls _, rfl, (show Aside _ from HR8.out), (show Aside _ from HO8.out), (show Aside _ from HPM2.out), (show Aside _ from HB9.out)⟩
end Go.Proofs.YtgohddfnhofjhaaGreatDoor
namespace Go.Proofs.YtgohddfnhofjhaaGreatDoor
open Go.RowKit Go.Lib
def aC (h : Xh) : List Value := [.string h.ke, .int .i64 h.an.ve, .int .i64 h.an.bo, .int .i64 h.us]
theorem aG (h : Xh) : (aC h).length = 4 := rfl
theorem iT {P : Program} (w : World) (dT sT ty elem : TypeId) (k b o dLen dCap : Nat) (a : Addr) (sLen sCap n : Nat) (cs : List Value)
 (hu : P.underlying dT = some (.slice elem)) (hs : (P.info? elem).map (·.size) = some k) (hn : n = Nat.min sLen dLen) (hcs : cs.length = n * k)
 (hsrc : ∀ j v, cs[j]? = some v → w.cell? (a.add j) = some v) (hc : ∀ j, j < cs.length → (w.cell? ⟨b, o + j, none⟩).isSome = true) (hf : ∀ j, j < cs.length → w.frozen? ⟨b, o + j, none⟩ = false) (h1 : ∀ v ∈ cs, v.oneCell' = true) :
 (Builtin.copy_ #[dT, sT] ty #[.slice (some ⟨b, o, none⟩) dLen dCap, .slice (some a) sLen sCap]).run P w = .ok (goInt n) (w.setCells b o cs) := by
 have hl := run_loadCells_list (P := P) w a cs hsrc; have hst := run_storeCells_cells (P := P) b o cs 0 w (by simpa using hc) (by simpa using hf) h1; cases hq : P.info? elem with
 | none => simp [hq] at hs
 | some i =>
  have hi : i.size = k := by simpa [hq] using hs
  simp [Builtin.copy_, run_underlying hu, Builtin.lenOf, Builtin.firstCells, sizeOf, typeInfo, hq, hi, ← hn, ← hcs, hl, hst]
theorem Own.FU {α : Type} {w : World} {base : Nat} {E : TypeId} {k : Nat} {enc : α → List Value} {m : List α} {g cap : Nat} {cur : Array Value} (hk : ∀ x, (enc x).length = k) (hg : base ≤ g) (hh : w.heap[g]? = some (.cells cur E (0, 0))) (hs : cur.size = cap * k) (hn : m.length ≤ cap) (hm : cap ≤ maxLen) (ht : cur.toList.take (m.length * k) = m.flatMap enc) :
 Own w base E k enc (.slice (some ⟨g, 0, none⟩) m.length cap) m := ⟨by rw [ay hk], .inr ⟨g, cap, cur, rfl, hg, hh, hn, hm, hs, ht⟩⟩
theorem qU (l : List Xh) (x : Xh) (i : Nat) (hi : i ≤ l.length) : (l.take i ++ x :: l.drop i).length = l.length + 1 := by simp; omega
theorem xn {l : List Xh} {x : Xh} {i : Nat} (hi : i ≤ l.length) {A B : List Value} (hA : A.take (i * 4) = (l.take i).flatMap aC) (hB : B = A.take (i * 4) ++ aC x ++ (l.drop i).flatMap aC ++ B.drop ((l.length + 1) * 4)) : B.take ((l.length + 1) * 4) = (l.take i ++ x :: l.drop i).flatMap aC := by
 have e : (l.take i ++ x :: l.drop i).flatMap aC = (l.take i).flatMap aC ++ aC x ++ (l.drop i).flatMap aC := by simp
 have hl : ((l.take i).flatMap aC ++ aC x ++ (l.drop i).flatMap aC).length = (l.length + 1) * 4 := by
  rw [← e, ay aG, qU l x i hi]
 rw [hB, hA, List.take_append_of_le_length (by rw [hl]; exact Ls _), List.take_of_length_le (by rw [hl]; exact Ls _), e]
def dY (w : World) (base : Nat) (m : List Xh) : Ending → World → Prop := fun e w' => ∃ v', e = .returned v' ∧ Own w' base 59 4 aC v' m ∧ Below base w w'
theorem dY.mk {w w' : World} {base : Nat} {m : List Xh} {v' : Value} (h : Own w' base 59 4 aC v' m) (hb : Below base w w') : dY w base m (.returned v') w' := ⟨v', rfl, h, hb⟩
theorem AV {w : World} {vb : Nat} {x : Xh} (h : w.heap[vb]? = some (.cells (aC x).toArray 59 (0, 0))) : Sl w 4 aC (.slice (some ⟨vb, 0, none⟩) 1 1) [x] := by
 refine ⟨_, 1, rfl, Ls _, by simp [maxLen], fun e => by simp at e, fun i y hy => ⟨vb, 0, rfl, fun j u hu => ?_⟩⟩; cases i with
 | zero =>
  simp at hy; subst hy
  rw [cell_of_block h]
  simpa using hu
 | succ i => simp at hy
theorem jl {b g : Nat} (h : b ≠ g) : ∀ (vs : List Value) (o : Nat) (w : World), (w.setCells g o vs).heap[b]? = w.heap[b]?
 | [], _, _ => rfl
 | v :: r, o, w => (jl h r (o + 1) _).trans (Below.heap_setCell w ⟨g, o, none⟩ v b h)
theorem EJ (w : World) (base g cap vb : Nat) (l : List Xh) (x : Xh) (hown : Own w base 59 4 aC (.slice (some ⟨g, 0, none⟩) l.length cap) l) (hbase : base ≤ w.heap.size) (hlen : l.length ≤ 100000) (hvb : w.heap[vb]? = some (.cells (aC x).toArray 59 (0, 0))) :
 Calls Tryz.prog 45 #[.slice (some ⟨g, 0, none⟩) l.length cap, .int .i64 l.length, .slice (some ⟨vb, 0, none⟩) 1 1] w (dY w base (l ++ [x])) := by
 have HO := Lr hown; have HV := Lr (AV hvb); have hin : (l.length : Int) ≤ (l.length : Int) := Int.le_refl _; clear hown hvb
 go_enter Tryz.func45, Tryz.ntmps45
 go_wp2_with (at_builtin; go_loud (refine gJ (v := .slice (some ⟨g, 0, none⟩) l.length cap) (u := .slice (some ⟨vb, 0, none⟩) 1 1) (l := l) (m := [x]) rfl _ _ 55 rfl Jt aG (fun _ => rfl) rfl rfl HO.out HV.out (by simp; omega) hbase ?_); intro v' w1 ho1 hb1; have HO1 := Lr ho1; have HB1 := Lr hb1; clear ho1 hb1)
 all_goals
  go_ret
  exact dY.mk HO1.out HB1.out
theorem iV : (Tryz.prog.info? 59).map (·.size) = some 4 := by kernel_rfl
theorem Ei (w : World) : (Go.sizeOf 59).run Tryz.prog w = .ok 4 w := by kernel_rfl
theorem Cm (w : World) (base g cap vb i : Nat) (l : List Xh) (x : Xh) (hown : Own w base 59 4 aC (.slice (some ⟨g, 0, none⟩) l.length cap) l) (hlen : l.length ≤ 100000) (hi : i < l.length) (hc : l.length + 1 ≤ cap) (hvb : w.heap[vb]? = some (.cells (aC x).toArray 59 (0, 0))) (hne : vb ≠ g) :
 Calls Tryz.prog 45 #[.slice (some ⟨g, 0, none⟩) l.length cap, .int .i64 i, .slice (some ⟨vb, 0, none⟩) 1 1] w (dY w base (l.take i ++ x :: l.drop i)) := by
 obtain ⟨gg, cap', he, hgb, hgl, hgc, hgm, hgcell, hgf⟩ := Own.gZ aG hown (by intro e; rw [e] at hi; simp at hi); simp only [Value.slice.injEq, Option.some.injEq, Addr.mk.injEq, and_true, true_and] at he
 obtain ⟨rfl, rfl⟩ := he; unfold maxLen at hgm; obtain ⟨h1, h2⟩ := hown; rcases h2 with ⟨h2, _⟩ | ⟨g', cap', cur, hv, hg, hh, hn, hm, hs, ht⟩
 ·cases h2
 simp only [Value.slice.injEq, Option.some.injEq, Addr.mk.injEq, and_true, true_and] at hv
 obtain ⟨rfl, rfl⟩ := hv; have hcl : ∀ j u, cur.toList[j]? = some u → w.cell? ⟨g, j, none⟩ = some u := fun j u hu => by rw [cell_of_block hh]; simpa using hu
 have hcs : cur.toList.length = cap * 4 := by simpa using hs
 obtain ⟨cs, hcsd⟩ : ∃ cs, cs = (l.drop i).flatMap aC := ⟨_, rfl⟩
 have hcsl : cs.length = (l.length - i) * 4 := by rw [hcsd, ay aG, List.length_drop]
 have hcsat : ∀ j u, cs[j]? = some u → w.cell? ⟨g, i * 4 + j, none⟩ = some u := fun j u hu => by
  refine hcl _ _ ?_; have h3 : (l.flatMap aC)[i * 4 + j]? = some u := by
   have e : l.flatMap aC = (l.take i).flatMap aC ++ cs := by rw [hcsd, ← List.flatMap_append, List.take_append_drop]
   have e2 : ((l.take i).flatMap aC).length = i * 4 := by rw [ay aG, List.length_take, Nat.min_eq_left (by omega)]
   rw [e, List.getElem?_append_right (by omega), e2, Nat.add_sub_cancel_left]; exact hu
  rw [← ht, List.getElem?_take] at h3; split at h3
  ·exact h3
  ·cases h3
 have h1c : ∀ u, u ∈ cs → u.oneCell' = true := fun u hu => by
  rw [hcsd, List.mem_flatMap] at hu; obtain ⟨y, _, hu⟩ := hu; exact List.all_eq_true.1 (show (aC y).all Value.oneCell' = true from rfl) u hu
 have hsome : ∀ j, j < cap * 4 → (w.cell? ⟨g, j, none⟩).isSome = true := fun j hj => by
  rw [hcl j _ (Lu (by rw [hcs]; exact hj))]; rfl
 have hcp1 : ∀ ty dc sc, (Builtin.copy_ #[55, 55] ty #[.slice (some ⟨g, (i + 1) * 4, none⟩) (l.length - i) dc, .slice (some ⟨g, i * 4, none⟩) (l.length + 1 - i) sc]).run Tryz.prog w.drew = .ok (goInt ((l.length - i : Nat) : Int)) (w.drew.setCells g ((i + 1) * 4) cs) := fun ty dc sc =>
  iT w.drew _ _ ty 59 4 g ((i + 1) * 4) (l.length - i) dc ⟨g, i * 4, none⟩ (l.length + 1 - i) sc (l.length - i) cs Tryz.underlying55 iV (by simp only [Nat.min_def]; split <;> omega) hcsl
   (fun j v hj => by rw [Addr.add_lit]; exact hcsat j v hj)
   (fun j hj => hsome _ (by rw [hcsl] at hj; omega)) (fun j hj => hgf _) h1c
 obtain ⟨W1, hW1⟩ : ∃ W1, W1 = w.drew.setCells g ((i + 1) * 4) cs := ⟨_, rfl⟩
 rw [← hW1] at hcp1; obtain ⟨cur1, hc1, hl1⟩ := aH (g := g) cs ((i + 1) * 4) w.drew cur hh (by rw [hcsl]; have : cur.size = cap * 4 := hs; omega); rw [← hW1] at hc1; have hW1v : W1.heap[vb]? = some (.cells (aC x).toArray 59 (0, 0)) := by
  rw [hW1]; exact (jl hne cs _ w.drew).trans hvb
 have hW1b : Below base w W1 := by rw [hW1]; exact aF hgb _ _ _ (LD base w).drew
 have hc1s : cur1.size = cap * 4 := by
  have : cur1.toList.length = cap * 4 := by
   rw [hl1]; simp only [List.length_append, List.length_take, List.length_drop, hcsl, hcs]
   omega
  simpa using this
 have hcl1 : ∀ j, j < cap * 4 → (W1.cell? ⟨g, j, none⟩).isSome = true := fun j hj => by
  rw [cell_of_block hc1, Array.getElem?_eq_getElem (by rw [hc1s]; exact hj)]; rfl
 have hfr1 : ∀ j, W1.frozen? ⟨g, j, none⟩ = false := fun j => by simp [World.frozen?, hc1]
 have hcp2 : ∀ (W : World), (∀ x, W.cell? x = W1.cell? x) → (∀ x, W.frozen? x = W1.frozen? x) → ∀ ty dc, (Builtin.copy_ #[55, 55] ty #[.slice (some ⟨g, i * 4, none⟩) (l.length + 1 - i) dc, .slice (some ⟨vb, 0, none⟩) 1 1]).run Tryz.prog W = .ok (goInt ((1 : Nat) : Int)) (W.setCells g (i * 4) (aC x)) := fun W hWc hWf ty dc =>
  iT W _ _ ty 59 4 g (i * 4) (l.length + 1 - i) dc ⟨vb, 0, none⟩ 1 1 1 (aC x) Tryz.underlying55 iV (by simp only [Nat.min_def]; split <;> omega) rfl
   (fun j v hj => by rw [Addr.add_lit, hWc, Nat.zero_add, cell_of_block hW1v]; simpa using hj)
   (fun j hj => by rw [hWc]; exact hcl1 _ (by have : (aC x).length = 4 := rfl; omega)) (fun j hj => by rw [hWf]; exact hfr1 _) (fun u hu => List.all_eq_true.1 (show (aC x).all Value.oneCell' = true from rfl) u hu)
 obtain ⟨cur2, hc2, hl2⟩ := aH (g := g) (aC x) (i * 4) W1 cur1 hc1 (by have : (aC x).length = 4 := rfl; omega); have hc2s : cur2.size = cap * 4 := by
  have : cur2.toList.length = cap * 4 := by
   have e7 : (aC x).length = 4 := rfl; rw [hl2]; simp only [List.length_append, List.length_take, List.length_drop, e7, Array.length_toList, hc1s]
   omega
  simpa using this
 have X : Aside (Own (W1.setCells g (i * 4) (aC x)) base 59 4 aC (.slice (some ⟨g, 0, none⟩) (l.length + 1) cap) (l.take i ++ x :: l.drop i)) := by
  show Own _ _ _ _ _ _ _
  have hml := qU l x i (by omega); have h := Own.FU (w := W1.setCells g (i * 4) (aC x)) (base := base) (m := l.take i ++ x :: l.drop i) aG hgb hc2 hc2s (by rw [hml]; exact hc) (by unfold maxLen; omega) (by
   rw [hml]; have hA : cur.toList.take (i * 4) = (l.take i).flatMap aC := by
    have e1 : cur.toList.take (i * 4) = (cur.toList.take (l.length * 4)).take (i * 4) := by rw [List.take_take, Nat.min_eq_left (by omega)]
    rw [e1, ht, mW aG]
   refine xn (A := cur.toList) (by omega) hA ?_; have e7 : (aC x).length = 4 := rfl; have hA7 : (cur.toList.take (i * 4)).length = i * 4 := by rw [List.length_take, hcs]; omega
   have hA8 : (cur.toList.take ((i + 1) * 4)).length = (i + 1) * 4 := by rw [List.length_take, hcs]; omega
   have hd : cur1.toList.take (i * 4) = cur.toList.take (i * 4) := by
    rw [hl1, List.append_assoc, List.take_append_of_le_length (by rw [hA8]; omega), List.take_take, Nat.min_eq_left (by omega)]
   have hd2 : cur1.toList.drop (i * 4 + (aC x).length) = cs ++ cur.toList.drop ((i + 1) * 4 + cs.length) := by
    rw [hl1, e7, List.append_assoc, List.drop_append_of_le_length (by rw [hA8]; omega), List.drop_of_length_le (by rw [hA8]; omega), List.nil_append]
   rw [hd, hd2, hcsd] at hl2; have hfin : cur2.toList.drop ((l.length + 1) * 4) = cur.toList.drop ((i + 1) * 4 + ((l.drop i).flatMap aC).length) := by
    have e8 : (cur.toList.take (i * 4) ++ aC x ++ (l.drop i).flatMap aC).length = (l.length + 1) * 4 := by
     rw [List.length_append, List.length_append, hA7, e7, ay aG, List.length_drop]; omega
    rw [hl2, ← List.append_assoc, List.drop_append_of_le_length (by rw [e8]; exact Ls _), List.drop_of_length_le (by rw [e8]; exact Ls _), List.nil_append]
   rw [hfin, hl2]; simp only [List.append_assoc])
  rw [hml] at h; exact h
 have Y : Aside (Below base w (W1.setCells g (i * 4) (aC x))) := aF hgb _ _ _ hW1b; have hsa : w.shape? vb = some (59, 4) := by simp [World.shape?, hvb, aG]
 have hsb : w.shape? g = some (59, cap * 4) := by simp [World.shape?, hh, hs]
 have hfa : w.frozen? ⟨vb, 0, none⟩ = false := by simp [World.frozen?, hvb]
 have hfe : w.frozen? ⟨vb, 4, none⟩ = false := by simp [World.frozen?, hvb]
 have hov : ∀ lb cb, (callFunc 77 #[.slice (some ⟨vb, 0, none⟩) 1 1, .slice (some ⟨g, (i + 1) * 4, none⟩) lb cb]).run Tryz.prog w = .ok (.value (.bool false)) w := fun lb cb => by
  rw [run_callFunc_extern Tryz.func77 (by kernel_rfl) (by kernel_rfl) (by kernel_rfl) (e := Extern.SlicesOverlaps.overlaps #[55, 55] #[4]) (by kernel_rfl),
   Lib.run_overlaps_apart w 55 4 59 Tryz.underlying55 4 Ei ⟨vb, 0, none⟩ ⟨g, (i + 1) * 4, none⟩ 1 1 lb cb hne _ _ _ _ hsa hsb (by omega) hfa hfe]
  rfl
 have hz2 : ¬ ((i : Int) = (l.length : Int)) := by omega
 have hwr : IntKind.i64.wrap ((i : Int) + 1) = (i : Int) + 1 := IntWalk.i64_in _ (by omega); have hin : i ≤ l.length := by omega
 have hb1 : (0 : Int) ≤ (i : Int) + 1 := by omega
 have htn : ((i : Int) + 1).toNat = i + 1 := by omega
 have htn2 : ((l.length : Int) + 1).toNat = l.length + 1 := by omega
 have hb2 : ¬ (cap = i + 1) := by omega
 have hb3 : (i : Int) ≤ (l.length : Int) + 1 := by omega
 have hb4 : ¬ (cap = i) := by omega
 have hb5 : ¬ ((cap : Int) < (l.length : Int) + 1) := by omega
 have hW := Lr hW1; clear hW1 hl2 hl1 ht hcl hcsat hgcell hsome hcl1 hc1 hc2 hh hvb hW1v hs hcs hc1s hc2s hcsl hcsd hsa hsb hfa hfe hgf hfr1
 go_enter Tryz.func45, Tryz.ntmps45
 go_wp2_with (simp only [hov])
 go_region_law (refine step_copy_runI rfl _ _ 55 55 rfl _ _ (by simp [Act.eval, Act.put]) (by simp [Act.eval, Act.put]) (hcp1 _ _ _) ?_)
 go_wp2_with (at_builtin; refine wpList_copy_runI _ rfl _ _ 55 55 rfl _ _ rfl rfl (hcp2 _ (fun _ => rfl) (fun _ => rfl) _ _) ?_)
 go_ret
 exact dY.mk X.out Y.out
theorem mJ (n : Nat) : (Builtin.zeroCells (Value.agg #[.string ⟨#[]⟩, .int .i64 0, .int .i64 0, .int .i64 0]).cells n).size = n * 4 := by
 simp [Builtin.zeroCells, Value.cells]
theorem CB (w : World) (base g vb i : Nat) (l : List Xh) (x : Xh) (hown : Own w base 59 4 aC (.slice (some ⟨g, 0, none⟩) l.length l.length) l) (hbase : base ≤ w.heap.size) (hlen : l.length ≤ 100000) (hi : i < l.length) (hvb : w.heap[vb]? = some (.cells (aC x).toArray 59 (0, 0))) :
 Calls Tryz.prog 45 #[.slice (some ⟨g, 0, none⟩) l.length l.length, .int .i64 i, .slice (some ⟨vb, 0, none⟩) 1 1] w (dY w base (l.take i ++ x :: l.drop i)) := by
 obtain ⟨gg, cap', he, hgb, hgl, hgc, hgm, hgcell, hgf⟩ := Own.gZ aG hown (by intro e; rw [e] at hi; simp at hi); simp only [Value.slice.injEq, Option.some.injEq, Addr.mk.injEq, and_true, true_and] at he
 obtain ⟨rfl, rfl⟩ := he; have hall : ∀ j u, (l.flatMap aC)[j]? = some u → w.cell? ⟨g, j, none⟩ = some u := fun j u hu => by
  obtain ⟨y, hy, hyu⟩ := kZ aG (by decide) hu; have := hgcell _ _ _ _ hy hyu
  rwa [show j / 4 * 4 + j % 4 = j by omega] at this
 obtain ⟨cs, hcsd⟩ : ∃ cs, cs = (l.drop i).flatMap aC := ⟨_, rfl⟩
 have hcsl : cs.length = (l.length - i) * 4 := by rw [hcsd, ay aG, List.length_drop]
 have hcsat : ∀ j u, cs[j]? = some u → w.cell? ⟨g, i * 4 + j, none⟩ = some u := fun j u hu => by
  refine hall _ _ ?_; have e : l.flatMap aC = (l.take i).flatMap aC ++ cs := by rw [hcsd, ← List.flatMap_append, List.take_append_drop]
  have e2 : ((l.take i).flatMap aC).length = i * 4 := by rw [ay aG, List.length_take, Nat.min_eq_left (by omega)]
  rw [e, List.getElem?_append_right (by omega), e2, Nat.add_sub_cancel_left]; exact hu
 have h1c : ∀ u, u ∈ cs → u.oneCell' = true := fun u hu => by
  rw [hcsd, List.mem_flatMap] at hu; obtain ⟨y, _, hu⟩ := hu; exact List.all_eq_true.1 (show (aC y).all Value.oneCell' = true from rfl) u hu
 have hvw := tY hvb; obtain ⟨hu0, i0, hi0, hz0, hzs, hzb⟩ : Tryz.prog.underlying 55 = some (.slice 59) ∧ ∃ i0, Tryz.prog.info? 59 = some i0 ∧ i0.zero = some (.agg #[.string ⟨#[]⟩, .int .i64 0, .int .i64 0, .int .i64 0]) ∧ i0.size = 4 ∧ i0.bytes = 40 := ⟨Tryz.underlying55, info_parts FX⟩
 have hold : (Builtin.firstCells i0.size i (.slice (some ⟨g, 0, none⟩) i l.length)).run Tryz.prog w.drew = .ok ((l.take i).flatMap aC).toArray w.drew := by
  rw [hzs]; refine run_firstCells_some w.drew 4 i ⟨g, 0, none⟩ i l.length ((l.take i).flatMap aC) (by rw [ay aG, List.length_take, Nat.min_eq_left (by omega)]) (fun j v hj => ?_); rw [Addr.add_lit, Nat.zero_add]; refine hall j v ?_; have e : l.flatMap aC = (l.take i).flatMap aC ++ cs := by rw [hcsd, ← List.flatMap_append, List.take_append_drop]
  rw [e, List.getElem?_append_left (List.getElem?_eq_some_iff.1 hj).1]; exact hj
 obtain ⟨G, hG⟩ : ∃ G, G = grownCap w (l.length + 1) l.length 59 := ⟨_, rfl⟩
 obtain ⟨ROW, hROW⟩ : ∃ ROW : Array Value, ROW = ((l.take i).flatMap aC).toArray ++ Builtin.zeroCells (Value.agg #[.string ⟨#[]⟩, .int .i64 0, .int .i64 0, .int .i64 0]).cells (l.length + 1 - i) ++ Builtin.zeroCells (Value.agg #[.string ⟨#[]⟩, .int .i64 0, .int .i64 0, .int .i64 0]).cells (G - (l.length + 1)) := ⟨_, rfl⟩
 have hkk : (l.length : Int) + 1 - (i : Int) = ((l.length + 1 - i : Nat) : Int) := by omega
 have hik : i + (l.length + 1 - i) = l.length + 1 := by omega
 have hrz : ∀ ty, (Builtin.append_ #[55, 3] ty #[.slice (some ⟨g, 0, none⟩) i l.length, .int .i64 ((l.length : Int) + 1 - (i : Int))]).run Tryz.prog w = .ok (.slice (some ⟨w.heap.size, 0, none⟩) (l.length + 1) G) (w.drew.alloc (.cells ROW 59)) := fun ty => by
  have h := Lib.run_append_grow_zeros w 55 3 ty 59 i0 _ .i64 .i64 hu0 Tryz.underlying3 hi0 hz0 (some ⟨g, 0, none⟩) i l.length ((l.take i).flatMap aC) hold (l.length + 1 - i) (by omega) (by omega) (by omega) (by omega) (by rw [hzb]; omega) (by rw [hzb, hik]; exact growslice_fits (by omega) (by omega)); rw [hik, ← hG, ← hROW] at h; rw [hkk]; exact h
 have hGn : l.length + 1 ≤ G := by rw [hG]; exact grownCap_ge w _ _ _
 have hGm : G ≤ maxLen := by rw [hG]; exact grownCap_le_maxLen w (l.length + 1) l.length 59 (by unfold maxLen; omega)
 have hG63 : G ≤ 9223372036854775807 := by unfold maxLen at hGm; omega
 have hRs : ROW.size = G * 4 := by
  rw [hROW, Array.size_append, Array.size_append, mJ, mJ, List.size_toArray, ay aG, List.length_take, Nat.min_eq_left (by omega)]; omega
 have hRt : ROW.toList.take (i * 4) = (l.take i).flatMap aC := by
  have e2 : ((l.take i).flatMap aC).length = i * 4 := by rw [ay aG, List.length_take, Nat.min_eq_left (by omega)]
  rw [hROW, Array.toList_append, Array.toList_append, List.append_assoc, List.take_append_of_le_length (by simp [e2]), List.take_of_length_le (by simp [e2])]
 obtain ⟨W1, hW1⟩ : ∃ W1, W1 = (w.alloc (.cells ROW 59)).drew := ⟨_, rfl⟩
 have hb0 : W1.heap[w.heap.size]? = some (.cells ROW 59 (0, 0)) := by rw [hW1]; exact ag w _
 have hWb : Below w.heap.size w W1 := by rw [hW1]; exact ((LD w.heap.size w).alloc (Ls _) _).drew
 have hW1v : W1.heap[vb]? = some (.cells (aC x).toArray 59 (0, 0)) := (hWb.block vb hvw).trans hvb; have hcl1 : ∀ j, j < G * 4 → (W1.cell? ⟨w.heap.size, j, none⟩).isSome = true := fun j hj => by
  rw [cell_of_block hb0, Array.getElem?_eq_getElem (by rw [hRs]; exact hj)]; rfl
 have hfr1 : ∀ j, W1.frozen? ⟨w.heap.size, j, none⟩ = false := fun j => by simp [World.frozen?, hb0]
 have e7 : (aC x).length = 4 := rfl; have hcpA : ∀ (W : World), (∀ x, W.cell? x = W1.cell? x) → (∀ x, W.frozen? x = W1.frozen? x) → ∀ ty dc, (Builtin.copy_ #[55, 55] ty #[.slice (some ⟨w.heap.size, i * 4, none⟩) (l.length + 1 - i) dc, .slice (some ⟨vb, 0, none⟩) 1 1]).run Tryz.prog W = .ok (goInt ((1 : Nat) : Int)) (W.setCells w.heap.size (i * 4) (aC x)) := fun W hWc hWf ty dc =>
  iT W _ _ ty 59 4 w.heap.size (i * 4) (l.length + 1 - i) dc ⟨vb, 0, none⟩ 1 1 1 (aC x) hu0 iV (by simp only [Nat.min_def]; split <;> omega) rfl
   (fun j v hj => by rw [Addr.add_lit, hWc, Nat.zero_add, cell_of_block hW1v]; simpa using hj)
   (fun j hj => by rw [hWc]; exact hcl1 _ (by omega)) (fun j hj => by rw [hWf]; exact hfr1 _) (fun u hu => List.all_eq_true.1 (show (aC x).all Value.oneCell' = true from rfl) u hu)
 obtain ⟨cur1, hc1, hl1⟩ := aH (g := w.heap.size) (aC x) (i * 4) W1 ROW hb0 (by omega); have hc1s : cur1.size = G * 4 := by
  have : cur1.toList.length = G * 4 := by
   rw [hl1]; simp only [List.length_append, List.length_take, List.length_drop, e7, Array.length_toList, hRs]
   omega
  simpa using this
 have hWa0 : Below w.heap.size w (W1.setCells w.heap.size (i * 4) (aC x)) := aF (Ls _) _ _ _ hWb; obtain ⟨Wa, hWa⟩ : ∃ Wa, Wa = W1.setCells w.heap.size (i * 4) (aC x) := ⟨_, rfl⟩
 rw [← hWa] at hc1 hWa0; obtain ⟨W2, hW2⟩ : ∃ W2, W2 = Wa.drew := ⟨_, rfl⟩
 have hc1 : W2.heap[w.heap.size]? = some (.cells cur1 59 (0, 0)) := by rw [hW2]; exact hc1
 have hWb2 : Below w.heap.size w W2 := by rw [hW2]; exact hWa0.drew
 have hcl2 : ∀ j, j < G * 4 → (W2.cell? ⟨w.heap.size, j, none⟩).isSome = true := fun j hj => by
  rw [cell_of_block hc1, Array.getElem?_eq_getElem (by rw [hc1s]; exact hj)]; rfl
 have hfr2 : ∀ j, W2.frozen? ⟨w.heap.size, j, none⟩ = false := fun j => by simp [World.frozen?, hc1]
 have hcpB : ∀ (W : World), (∀ x, W.cell? x = W2.cell? x) → (∀ x, W.frozen? x = W2.frozen? x) → ∀ ty dc sc, (Builtin.copy_ #[55, 55] ty #[.slice (some ⟨w.heap.size, (i + 1) * 4, none⟩) (l.length - i) dc, .slice (some ⟨g, i * 4, none⟩) (l.length - i) sc]).run Tryz.prog W = .ok (goInt ((l.length - i : Nat) : Int)) (W.setCells w.heap.size ((i + 1) * 4) cs) := fun W hWc hWf ty dc sc =>
  iT W _ _ ty 59 4 w.heap.size ((i + 1) * 4) (l.length - i) dc ⟨g, i * 4, none⟩ (l.length - i) sc (l.length - i) cs hu0 iV (by simp only [Nat.min_def]; split <;> omega) hcsl
   (fun j v hj => by rw [Addr.add_lit, hWc, hWb2.cell (p := ⟨g, i * 4 + j, none⟩) hgl]; exact hcsat j v hj)
   (fun j hj => by rw [hWc]; exact hcl2 _ (by rw [hcsl] at hj; omega)) (fun j hj => by rw [hWf]; exact hfr2 _) h1c
 obtain ⟨cur2, hc2, hl2⟩ := aH (g := w.heap.size) cs ((i + 1) * 4) W2 cur1 hc1 (by rw [hcsl, hc1s]; omega); have hc2s : cur2.size = G * 4 := by
  have : cur2.toList.length = G * 4 := by
   rw [hl2]; simp only [List.length_append, List.length_take, List.length_drop, hcsl, Array.length_toList, hc1s]
   omega
  simpa using this
 have X : Aside (Own (W2.setCells w.heap.size ((i + 1) * 4) cs) base 59 4 aC (.slice (some ⟨w.heap.size, 0, none⟩) (l.length + 1) G) (l.take i ++ x :: l.drop i)) := by
  show Own _ _ _ _ _ _ _
  have hml := qU l x i (by omega); have h := Own.FU (w := W2.setCells w.heap.size ((i + 1) * 4) cs) (base := base) (m := l.take i ++ x :: l.drop i) aG hbase hc2 hc2s (by rw [hml]; exact hGn) hGm (by
   rw [hml]; refine xn (A := ROW.toList) (by omega) hRt ?_; have hA7 : (ROW.toList.take (i * 4)).length = i * 4 := by rw [List.length_take, Array.length_toList, hRs]; omega
   have hd : cur1.toList.take ((i + 1) * 4) = ROW.toList.take (i * 4) ++ aC x := by
    rw [hl1, List.take_append_of_le_length (by rw [List.length_append, hA7, e7]; omega), List.take_of_length_le (by rw [List.length_append, hA7, e7]; omega)]
   rw [hd, hcsd] at hl2; have hfin : cur2.toList.drop ((l.length + 1) * 4) = cur1.toList.drop ((i + 1) * 4 + ((l.drop i).flatMap aC).length) := by
    have e8 : (ROW.toList.take (i * 4) ++ aC x ++ (l.drop i).flatMap aC).length = (l.length + 1) * 4 := by
     rw [List.length_append, List.length_append, hA7, e7, ay aG, List.length_drop]; omega
    rw [hl2, List.drop_append_of_le_length (by rw [e8]; exact Ls _), List.drop_of_length_le (by rw [e8]; exact Ls _), List.nil_append]
   rw [hfin]; exact hl2)
  rw [hml] at h; exact h
 have Y : Aside (Below base w (W2.setCells w.heap.size ((i + 1) * 4) cs)) := aF hbase _ _ _ (hWb2.mono hbase); have hz2 : ¬ ((i : Int) = (l.length : Int)) := by omega
 have hwr : IntKind.i64.wrap ((i : Int) + 1) = (i : Int) + 1 := IntWalk.i64_in _ (by omega); have hin : i ≤ l.length := by omega
 have hb1 : (0 : Int) ≤ (i : Int) + 1 := by omega
 have htn : ((i : Int) + 1).toNat = i + 1 := by omega
 have hb3 : (i : Int) ≤ (l.length : Int) := by omega
 have hb5 : (l.length : Int) < (l.length : Int) + 1 := by omega
 have hGi : ¬ (G = i) := by omega
 have hGim : ¬ (G = i + 1) := by omega
 have hli : ¬ (l.length = i) := by omega
 have hA1 := Lr (fun ty dc => hcpA W1 (fun _ => rfl) (fun _ => rfl) ty dc); have hB1 := Lr (fun ty dc sc => hcpB W2 (fun _ => rfl) (fun _ => rfl) ty dc sc); clear hcpA hcpB; subst hW2; subst hWa; have HRZ := Lr hrz; clear hrz; clear hc1; clear hl2 hl1 hcl1 hcl2 hfr1 hfr2 hc1 hc2 hvb hW1v hc1s hc2s hcsl hcsd hgf hgcell hall hcsat hold hROW hRs hRt hb0 hik hkk hzs hzb hz0 hi0 hG hGm; subst hW1; clear e7 h1c hWb hWb2 hWa0; generalize aC x = vs at hA1 hB1 X Y
 go_enter Tryz.func45, Tryz.ntmps45
 go_upto_region 10 with (at_builtin; go_loud (refine Lib.wpList_append_run _ rfl _ _ _ _ rfl _ _ rfl rfl _ _ (HRZ.out _) ?_))
 have ha1 := hA1.out
 go_upto_region 11 with (fail)
 go_region_law (refine step_copy_runI rfl _ _ 55 55 rfl (.slice (some ⟨w.heap.size, (i + 1) * 4, none⟩) (l.length - i) (G - (i + 1))) (.slice (some ⟨g, i * 4, none⟩) (l.length - i) (l.length - i)) (by simp [Act.eval, Act.put]) (by simp [Act.eval, Act.put]) (hB1.out _ _ _) ?_)
 go_wp2
 go_ret
 exact dY.mk X.out Y.out
theorem EH (w : World) (base vb : Nat) (x : Xh) (hbase : base ≤ w.heap.size) (hvb : w.heap[vb]? = some (.cells (aC x).toArray 59 (0, 0))) :
 Calls Tryz.prog 45 #[.slice none 0 0, .int .i64 0, .slice (some ⟨vb, 0, none⟩) 1 1] w (dY w base [x]) := by
 have HO := Lr (Own.nil (w := w) (base := base) (E := 59) (k := 4) (enc := aC)); have HV := Lr (AV hvb); clear hvb
 go_enter Tryz.func45, Tryz.ntmps45
 go_wp2_with (at_builtin; go_loud (refine gJ (v := .slice none 0 0) (u := .slice (some ⟨vb, 0, none⟩) 1 1) (l := []) (m := [x]) rfl _ _ 55 rfl Jt aG (fun _ => rfl) rfl rfl HO.out HV.out (by simp) hbase ?_); intro v' w1 ho1 hb1; have HO1 := Lr ho1; have HB1 := Lr hb1; clear ho1 hb1)
 all_goals
  go_ret
  exact dY.mk HO1.out HB1.out
theorem EL (w : World) (base vb i : Nat) (l : List Xh) (x : Xh) (v : Value) (hown : Own w base 59 4 aC v l) (hbase : base ≤ w.heap.size) (hlen : l.length ≤ 100000) (hi : i ≤ l.length) (hvb : w.heap[vb]? = some (.cells (aC x).toArray 59 (0, 0))) (hoff : df vb v) :
 Calls Tryz.prog 45 #[v, .int .i64 i, .slice (some ⟨vb, 0, none⟩) 1 1] w (dY w base (l.take i ++ x :: l.drop i)) := by
 have hq := hown; obtain ⟨q1, q2⟩ := hown; rcases q2 with ⟨rfl, q2⟩ | ⟨g, cap, cur, rfl, hg, hh, hn, hm, hs, ht⟩
 ·obtain rfl : l = [] := List.length_eq_zero_iff.1 q2; obtain rfl : i = 0 := by simpa using hi
  exact EH w base vb x hbase hvb
 ·by_cases he : i = l.length
  ·subst he; rw [List.take_length, List.drop_length]; exact EJ w base g cap vb l x hq hbase hlen hvb
  ·have hne : vb ≠ g := fun e => hoff _ _ _ rfl e.symm
   by_cases hc : l.length + 1 ≤ cap
   ·exact Cm w base g cap vb i l x hq hlen (by omega) hc hvb hne
   ·obtain rfl : cap = l.length := by omega
    exact CB w base g vb i l x hq hbase hlen (by omega) hvb
def lsK (x y : Xh) : Bool := Op.bytesLess y.ke.toList x.ke.toList
def atH (l : List Xh) (x : Xh) : Nat := (l.takeWhile (lsK x)).length
def uX (l : List Xh) (x : Xh) : List Xh := l.take (atH l x) ++ x :: l.drop (atH l x)
def lF (l : List Xh) : List Xh := l.foldl uX []
theorem IB {α : Type} (p : α → Bool) : ∀ (l : List α) (k : Nat) (y : α), k ≤ (l.takeWhile p).length → l[k]? = some y → (p y = true → k + 1 ≤ (l.takeWhile p).length) ∧ (p y = false → (l.takeWhile p).length = k)
 | [], _, _, _, h => by cases h
 | a :: l, 0, y, _, h => by
  have e : a = y := by simpa using h
  subst e; refine ⟨fun h1 => ?_, fun h1 => ?_⟩
  ·rw [List.takeWhile_cons_of_pos h1]; exact Nat.succ_le_succ (Nat.zero_le _)
  ·rw [List.takeWhile_cons_of_neg (by rw [h1]; decide)]; rfl
 | a :: l, k + 1, y, hk, h => by
  have h' : l[k]? = some y := by simpa using h
  by_cases ha : p a = true
  ·rw [List.takeWhile_cons_of_pos ha] at hk ⊢; obtain ⟨h1, h2⟩ := IB p l k y (Nat.le_of_succ_le_succ hk) h'; exact ⟨fun e => Nat.succ_le_succ (h1 e), fun e => congrArg Nat.succ (h2 e)⟩
  ·rw [List.takeWhile_cons_of_neg ha] at hk; exact absurd hk (by simp)
theorem Gw {α : Type} (p : α → Bool) : ∀ l : List α, (l.takeWhile p).length ≤ l.length
 | [] => Ls _
 | a :: l => by
  by_cases ha : p a = true
  ·rw [List.takeWhile_cons_of_pos ha]; exact Nat.succ_le_succ (Gw p l)
  ·rw [List.takeWhile_cons_of_neg ha]; exact Nat.zero_le _
theorem EN (l : List Xh) (x : Xh) : (uX l x).length = l.length + 1 := by
 unfold uX; rw [List.length_append, List.length_cons, List.length_take, List.length_drop]; have h : atH l x ≤ l.length := Gw _ _; omega
theorem Be {C : List Cch} {R : List Crl} {E : List Rel} {P : List Pur} {L : List Gt} {lim : Int} (hv : Val C R E P L) {m : Mod} {X : Xd} (h : cu C R E P L lim .out (xd0 C L.length) m X) : RInv C R E P L lim m X := by
 generalize hm0 : Mod.out = m0 at h; generalize hX0 : xd0 C L.length = X0 at h
 induction h with
 | refl => subst hm0; subst hX0; exact .zero hv
 | step _ hn ih => exact (ih hX0).next hv hn
theorem qp.JX {C : List Cch} {R : List Crl} {E : List Rel} {P : List Pur} {L : List Gt} {lim : Int} {X : Xd} (h : qp C R E P L lim X) (hv : Val C R E P L) (i : Nat) : (X.H i).length ≤ 61200 := by
 obtain ⟨n, hc, hn⟩ := (Be hv h.rch).cap; have := hc.he i; omega
structure OrH (N : Nat) (w W : World) (v : Value) (m : List Xh) : Prop where
 o : Own W N 59 4 aC v m
 b : Below w.heap.size w W
theorem OrH.drew {N : Nat} {w W : World} {v : Value} {m : List Xh} (h : OrH N w W v m) : OrH N w W.drew v m := ⟨h.o.drewN 1, h.b.drew⟩
theorem zL (w : World) (C : List Cch) (R : List Crl) (E : List Rel) (P : List Pur) (L : List Gt) (vc vr ve vp vl : Value) (cn : ByteArray) (t : Int) (h : InS w C R E P L vc vr ve vp vl) (hw : WfS C R E P L) :
 Calls Tryz.prog 28 #[.agg #[vc, vr, ve, vp], vl, .string cn, .int .i64 t] w fun e w' => (∃ v, e = .returned (.tuple #[v, .int .i64 (nS C R E P L cn t)]) ∧ ∃ l, Sl w' 4 aC v l ∧ (nS C R E P L cn t ≠ 0 → l = []) ∧ (nS C R E P L cn t = 0 → ∃ X, qp C R E P L t X ∧ l = lF (X.H (fC C cn).toNat))) ∧ Below w.heap.size w w' := by
 obtain ⟨w2, hbx⟩ := La w h hw; have HW2 := Lr hbx.al; have HB2 := Lr hbx.bel; have HF := Lr (hbx.flt w2 (LD _ _)); have HPL := Lr hbx.ply; have HQ := Lr hbx.q; obtain ⟨q0, q1, q2, q3⟩ := hbx.q w2 (LD _ _); have h2 := h.below hbx.bel; have HV := Lr (pG (C := C) (R := R) (E := E) (P := P) (L := L)); have HHF : Hid (nS C R E P L cn t = if bY C R E P L ≠ 0 then bY C R E P L else if fC C cn < 0 then 5 else if t < 0 ∨ 2000000000000 < t then 1 else 0) := Lr rfl; have HCO : Hid (∀ (W : World) (n : ByteArray), Below w2.heap.size w2 W → Calls Tryz.prog 43 #[vc, .string n] W fun e w' => e = .returned (.int .i64 (fC C n)) ∧ Below W.heap.size W w') := Lr fun W n hW => fP W C vc n (h2.c.below hW (Ls _))
 have HWI := Lr bC; clear hbx h h2 hw; generalize nS C R E P L cn t = F at HHF ⊢; generalize bY C R E P L = S at HF HV HHF HPL ⊢
 go_enter Tryz.func28, Tryz.ntmps28
 go_upto_region 1 with (fail)
 rw [← HW2.out]
 go_upto_region 2 with (go_at_call 35; (with_reducible refine HF.out.mono ?_); rintro e w3 ⟨rfl, hb3⟩; have HB3 := Lr hb3; obtain ⟨r0, r1, r2, r3⟩ := HQ.out w3 hb3; clear hb3 q0 q1 q2 q3)
 by_cases hS : S = 0
 case neg =>
  have hv : Hid (S = F) := Lr (by rw [HHF.out, if_pos hS]); have hne : (S != 0) = true := by simpa using hS
  have HS := Lr hS; clear hS
  go_wp2_with fail
  go_ret2
  exact ⟨⟨_, by rw [← hv.out]; rfl, [], Sl.nil, fun _ => rfl, fun h => absurd (hv.out.trans h) HS.out⟩, HB2.out.bf HB3.out⟩
 subst hS; have HC3 := Lr (HCO.out w3 cn HB3.out)
 go_upto_region 5 with (go_at_call 43; (with_reducible refine HC3.out.mono ?_); rintro e w4 ⟨rfl, hb4⟩; have HB4 : Hid (Below w2.heap.size w2 w4) := Lr (HB3.out.bf hb4); obtain ⟨s0, s1, s2, s3⟩ := HQ.out w4 HB4.out; clear hb4 r0 r1 r2 r3)
 have HBW : Hid (Below w.heap.size w w4) := Lr (HB2.out.bf HB4.out); obtain ⟨ci, hci⟩ : ∃ ci, ci = fC C cn := ⟨_, rfl⟩
 rw [← hci] at HHF ⊢; by_cases hc : ci < 0
 ·have hv : Hid (5 = F) := Lr (by rw [HHF.out, if_neg (by simp), if_pos hc]); clear hci
  go_wp2_with fail
  go_ret2
  exact ⟨⟨_, by rw [← hv.out]; rfl, [], Sl.nil, fun _ => rfl, fun h => by rw [← hv.out] at h; cases h⟩, HBW.out⟩
 have HW4 := Lr (HWI.out t 0 2000000000000 w4); by_cases hT : t < 0 ∨ 2000000000000 < t
 ·have hv : Hid (1 = F) := Lr (by rw [HHF.out, if_neg (by simp), if_neg hc, if_pos hT]); have ho : aN t 0 2000000000000 = true := by simp only [aN, Bool.or_eq_true, decide_eq_true_eq]; omega
  rw [ho] at HW4; clear hci hT
  go_wp2_with (go_at_call 44; (with_reducible refine HW4.out.mono ?_); rintro e w5 ⟨rfl, rfl⟩)
  go_ret2
  exact ⟨⟨_, by rw [← hv.out]; rfl, [], Sl.nil, fun _ => rfl, fun h => by rw [← hv.out] at h; cases h⟩, HBW.out⟩
 have hv : Hid (0 = F) := Lr (by rw [HHF.out, if_neg (by simp), if_neg hc, if_neg hT]); have ho : aN t 0 2000000000000 = false := by simp only [aN, Bool.or_eq_false_iff, decide_eq_false_iff_not]; omega
 rw [ho] at HW4; obtain ⟨i, hi⟩ : ∃ i : Nat, ci = (i : Int) := ⟨ci.toNat, by omega⟩
 subst hi; have HCI := Lr hci; have hil : i < C.length := by
  have h := HCI.out; unfold fC iI at h; split at h
  ·omega
  ·have := List.findIdx_le_length (p := fun o => isC o cn) (xs := C); omega
 have HR4 := Lr (HPL.out (by trivial) w4 HB4.out t t (.inr ⟨by omega, rfl⟩)); have HVV := Lr (HV.out (by trivial)); clear hci hT hc
 go_upto_region 9 with (go_at_call 44; (with_reducible refine HW4.out.mono ?_); rintro e w5 ⟨rfl, rfl⟩)
 go_wp2_with fail
 (with_reducible refine HR4.out.mono ?_)
 rintro e w6 ⟨B, A, X, rfl, hBl, hp, hE, hb6⟩; have c8 : w6.cell? ⟨A.q, 8, none⟩ = some A.hh := af hp.qb.2 8 rfl; have HP := Lr hp; have HE := Lr hE; have HB6 : Hid (Below w.heap.size w w6) := Lr (HBW.out.bf hb6); clear hb6 hp hE hBl s0 s1 s2 s3; have hXl : A.hs.length = C.length := by rw [HP.out.hl, HE.out.inv.le.1]
 have hHl := HE.out.JX HVV.out i; obtain ⟨v, hvi⟩ : ∃ v, A.hs[i]? = some v := ⟨_, Lu (by omega)⟩
 obtain ⟨so, sc, hsv, -, -, -, hel⟩ := HP.out.rows.sl dV; rw [hXl] at hsv; rw [hsv] at c8; obtain ⟨bs, off, rfl, hc2⟩ := hel i v hvi; obtain ⟨ho, hc', rfl, -, -, -, hel2⟩ := (HP.out.held hvi).sl aJ; have c9 : w6.cell? ⟨bs, off + i, none⟩ = some (.slice ho (X.H i).length hc') := by have h := hc2 0 _ rfl; simpa using h
 obtain ⟨H, hH⟩ : ∃ H, H = X.H i := ⟨_, rfl⟩
 rw [← hH] at c9 hel2 hHl; have HEQ := Lr hH; have HEL := Lr hel2; obtain ⟨M, hM⟩ : ∃ M : Nat → List Xh, M = fun k => lF (H.take k) := ⟨_, rfl⟩
 have HM0 : Hid (M 0 = []) := Lr (by rw [hM]; rfl); have HMS : Hid (∀ k x, H[k]? = some x → M (k + 1) = uX (M k) x) := Lr fun k x hx => by
  rw [hM]; show lF (H.take (k + 1)) = uX (lF (H.take k)) x; unfold lF; rw [List.take_add_one, hx, Option.toList_some, List.foldl_append, List.foldl_cons, List.foldl_nil]
 have HML : Hid (lF H = M H.length) := Lr (by rw [hM]; show _ = lF (H.take H.length); rw [List.take_length]); have HMN : Hid (∀ k, k ≤ H.length → (M k).length = k) := Lr fun k => by
  induction k with
  | zero => intro _; rw [HM0.out]; rfl
  | succ k ih =>
   intro hk; rw [HMS.out k _ (Lu (show k < H.length by omega)), EN, ih (by omega)]
 have hiz : (i : Int) < (C.length : Int) := by omega
 have hi0 : (0 : Int) ≤ (i : Int) := by omega
 have hEX := Lr (show ∃ X, qp C R E P L t X ∧ X.H (fC C cn).toNat = H from ⟨X, HE.out, by rw [← HCI.out, Int.toNat_natCast]; exact HEQ.out.symm⟩); clear hsv hel hc2 hel2 hH hM hvi hXl HE HP HEQ
 go_wp2_with fail
 go_loopg [12, 14, 15, 42] H.length (fun gg s12 s14 s15 s42 wr => ∃ kk : Nat, kk ≤ H.length ∧ H.length - kk ≤ gg ∧ s42 = .int .i64 kk ∧ ∃ a n c, s12 = .slice a n c ∧ Aside (OrH w6.heap.size w6 wr (.slice a n c) (M kk)))
 case atStart => exact ⟨0, Nat.zero_le _, by omega, rfl, none, 0, 0, rfl, ⟨by rw [HM0.out]; exact ⟨rfl, .inl ⟨rfl, rfl⟩⟩, LD _ _⟩⟩
 case round =>
  obtain ⟨wz, rfl⟩ : ∃ wz, wz = wr := ⟨_, rfl⟩
  obtain ⟨kk, hkk, hg, rfl, a, n, c, rfl, OS⟩ := hrel; by_cases hlt : kk < H.length
  ·have hltz : (kk : Int) < (H.length : Int) := by omega
   obtain ⟨x, hx⟩ : ∃ x, H[kk]? = some x := ⟨_, Lu hlt⟩
   obtain ⟨b, boff, rfl, hcx⟩ := HEL.out kk x hx; have hl6 := LC w6 _ (hcx 0 _ rfl); have hBz := OS.out.b; have c0 : wz.cell? ⟨b, boff + kk * 6, none⟩ = some (.string x.ke) := by have h := (hBz.cell (p := ⟨b, boff + kk * 6 + 0, none⟩) hl6).trans (hcx 0 _ rfl); simpa using h
   have c1 : wz.cell? ⟨b, boff + kk * 6 + 1, none⟩ = some (.int .i64 x.an.ve) := (hBz.cell (p := ⟨b, boff + kk * 6 + 1, none⟩) hl6).trans (hcx 1 _ rfl); have c2 : wz.cell? ⟨b, boff + kk * 6 + 2, none⟩ = some (.int .i64 x.an.bo) := (hBz.cell (p := ⟨b, boff + kk * 6 + 2, none⟩) hl6).trans (hcx 2 _ rfl); have c3 : wz.cell? ⟨b, boff + kk * 6 + 3, none⟩ = some (.int .i64 x.an.si) := (hBz.cell (p := ⟨b, boff + kk * 6 + 3, none⟩) hl6).trans (hcx 3 _ rfl); have c4 : wz.cell? ⟨b, boff + kk * 6 + 4, none⟩ = some (.string x.an.fr) := (hBz.cell (p := ⟨b, boff + kk * 6 + 4, none⟩) hl6).trans (hcx 4 _ rfl); have c5 : wz.cell? ⟨b, boff + kk * 6 + 5, none⟩ = some (.int .i64 x.us) := (hBz.cell (p := ⟨b, boff + kk * 6 + 5, none⟩) hl6).trans (hcx 5 _ rfl); have HNX := Lr (HMS.out kk x hx); have hml := HMN.out kk hkk; generalize M kk = m at OS HNX hml; obtain ⟨oa, oc, oP, e5, ho1, ho2, ho3, hoel⟩ := tJ aG OS.out.o; simp only [Value.slice.injEq] at e5
   obtain ⟨rfl, rfl, rfl⟩ := e5; have hmx : m.length ≤ 100000 := by omega
   obtain ⟨wn, hwn⟩ : ∃ wn, wn = wz.alloc (.cells #[.string x.ke, .int .i64 x.an.ve, .int .i64 x.an.bo, .int .i64 x.an.si, .string x.an.fr, .int .i64 x.us] 107) := ⟨_, rfl⟩
   have HWN := Lr hwn; have HBX : Hid (wn.heap[wz.heap.size]? = some (.cells #[.string x.ke, .int .i64 x.an.ve, .int .i64 x.an.bo, .int .i64 x.an.si, .string x.an.fr, .int .i64 x.us] 107 (0, 0))) := Lr (by rw [hwn]; exact ag wz _); have HON : Hid (OrH w6.heap.size wn wn (.slice a m.length c) m) := Lr ⟨by rw [hwn]; exact OS.out.o.al _, LD _ _⟩; have HBN : Hid (Below w6.heap.size w6 wn) := Lr (by rw [hwn]; exact OS.out.b.alloc OS.out.b.size _); have hN6 := OS.out.b.size; clear hml hcx hx hoel ho1 ho2 ho3 OS hBz hwn hl6
   go_upto_region 13 with (fail)
   rw [← HWN.out]; obtain ⟨NN, hNN⟩ : ∃ NN, NN = wz.heap.size := ⟨_, rfl⟩
   rw [← hNN] at HBX ⊢; have HNN := Lr hNN; clear hNN HWN c0 c1 c2 c3 c4 c5; have HQB : Hid (∀ W : World, Below wn.heap.size wn W → W.cell? ⟨NN, 0, none⟩ = some (.string x.ke) ∧ W.cell? ⟨NN, 1, none⟩ = some (.int .i64 x.an.ve) ∧ W.cell? ⟨NN, 2, none⟩ = some (.int .i64 x.an.bo) ∧ W.cell? ⟨NN, 5, none⟩ = some (.int .i64 x.us)) := Lr fun W hW => by
    have h1 := (hW.block _ (Array.getElem?_eq_some_iff.1 HBX.out).1).trans HBX.out; exact ⟨af h1 0 rfl, af h1 1 rfl, af h1 2 rfl, af h1 5 rfl⟩
   obtain ⟨PO, hPO⟩ : ∃ PO, PO = atH m x := ⟨_, rfl⟩
   have HPO := Lr hPO; clear hPO
   go_wp2_with fail
   go_loopg [15] m.length (fun gg s15 wr => ∃ p : Nat, p ≤ m.length ∧ m.length - p ≤ gg ∧ s15 = .int .i64 p ∧ Aside (OrH w6.heap.size wn wr (.slice a m.length c) m) ∧ Aside (p ≤ PO))
   case atStart => exact ⟨0, Nat.zero_le _, by omega, rfl, (show Aside _ from HON.out), (show Aside _ from Nat.zero_le _)⟩
   case round =>
    obtain ⟨wy, rfl⟩ : ∃ wy, wy = wr := ⟨_, rfl⟩
    obtain ⟨p, hp, hpg, rfl, OY, PP⟩ := hrel; have HOY := Lr OY.out; have HPP := Lr PP.out; clear OY PP
    (first | go_upto_region 15 with (fail) | go_upto_region 14 with (fail))
    go_cut [59] from 46 to 61 (fun s59 W => ∃ t : Bool, s59 = .bool t ∧ Aside (OrH w6.heap.size wn W (.slice a m.length c) m ∧ ((t = true ∧ p < m.length ∧ p + 1 ≤ PO) ∨ (t = false ∧ PO = p))))
    case first =>
     have HBQ : Hid (Below wy.heap.size wy wy.drew) := Lr (LD _ wy).drew; by_cases hpm : p < m.length
     ·obtain ⟨y, hy⟩ : ∃ y, m[p]? = some y := ⟨_, Lu hpm⟩
      obtain ⟨g2, c2, e2, -, hg2, -, -, hgc, -⟩ := Own.gZ aG HOY.out.o (fun e => by rw [e] at hpm; simp at hpm); simp only [Value.slice.injEq, true_and] at e2
      obtain ⟨rfl, rfl⟩ := e2; have og : wy.cell? ⟨g2, p * 4, none⟩ = some (.string y.ke) := by have h := hgc p y 0 _ hy rfl; simpa using h
      have HSQ : Hid (∀ W : World, Below wy.heap.size wy W → W.cell? ⟨g2, p * 4, none⟩ = some (.string y.ke) ∧ W.cell? ⟨NN, 0, none⟩ = some (.string x.ke)) := Lr fun W hW => ⟨(hW.cell (p := ⟨g2, p * 4, none⟩) hg2).trans og, (HQB.out W (HOY.out.b.bf hW)).1⟩
      have HDEC : Hid (∀ t : Bool, t = Op.bytesLess y.ke.toList x.ke.toList → ((t = true ∧ p < m.length ∧ p + 1 ≤ PO) ∨ (t = false ∧ PO = p))) := Lr fun t ht => by
       have h0 := HPP.out; rw [HPO.out] at h0 ⊢; obtain ⟨h1, h2⟩ := IB (lsK x) m p y h0 hy; cases t
       ·exact .inr ⟨rfl, h2 ht.symm⟩
       ·exact .inl ⟨rfl, hpm, h1 ht.symm⟩
      have hpz : (p : Int) < (m.length : Int) := by omega
      have hp0 : (0 : Int) ≤ (p : Int) := by omega
      have hz : decide ((p : Int) < (m.length : Int)) = true := decide_eq_true hpz; have hz2 : decide (p < m.length) = true := decide_eq_true hpm; clear hgc og hy; refine wp_region_held_drew (S := fun W => Below wy.heap.size wy W) (by kernel_rfl) HBQ.out (fun hHeld => ?_); refine tkI 0 46 hHeld (h := ?_)
      try simp only [pu]
      refine tkI 1 47 hHeld (h := ?_)
      try simp only [pu]
      refine tkI 2 48 hHeld (h := ?_)
      try simp only [pu]
      refine tkI 3 49 hHeld (h := ?_)
      try simp only [pu]
      refine tkI 4 50 hHeld (h := ?_)
      try simp only [pu]
      refine tkI 5 51 hHeld (h := ?_)
      try simp only [pu]
      refine tkI 6 52 hHeld (h := ?_)
      try simp only [pu]
      refine tkI 7 53 hHeld (h := ?_)
      try simp only [pu]
      refine tkI 8 54 hHeld (h := ?_)
      try simp only [pu]
      refine tkI 9 55 hHeld (hy := by (intro w' hSw; have z1 := (HSQ.out _ hSw).1; go_simp) <;> with_reducible rfl) (h := ?_)
      try simp only [pu]
      refine tkI 10 56 hHeld (h := ?_)
      try simp only [pu]
      refine tkI 11 57 hHeld (hy := by (intro w' hSw; have z1 := (HSQ.out _ hSw).2; go_simp) <;> with_reducible rfl) (h := ?_)
      try simp only [pu]
      refine tkI 12 58 hHeld (h := ?_)
      try simp only [pu]
      refine tkI 13 59 hHeld (h := ?_)
      try simp only [pu]
      refine wpAnyH_done (by kernel_rfl) ?_ _; clear hHeld
      go_wp2_with fail
      go_meet
      exact ⟨_, rfl, HOY.out.drew, HDEC.out _ rfl⟩
     ·obtain rfl : p = m.length := by omega
      have hpz : ¬ (m.length : Int) < (m.length : Int) := by omega
      have hz : decide ((m.length : Int) < (m.length : Int)) = false := decide_eq_false hpz; have hz2 : decide (m.length < m.length) = false := decide_eq_false (Nat.lt_irrefl _); have HDE : Hid (PO = m.length) := Lr (by have h1 := HPP.out; have h2 : atH m x ≤ m.length := Gw _ _; rw [← HPO.out] at h2; omega); refine wp_region_held_drew (S := fun W => Below wy.heap.size wy W) (by kernel_rfl) HBQ.out (fun hHeld => ?_); refine tkI 0 46 hHeld (h := ?_)
      try simp only [pu]
      refine tkI 1 47 hHeld (h := ?_)
      try simp only [pu]
      refine tkI 2 48 hHeld (h := ?_)
      try simp only [pu]
      refine tkI 3 49 hHeld (h := ?_)
      try simp only [pu]
      refine tkI 4 50 hHeld (h := ?_)
      try simp only [pu]
      refine tkO 5 51 hHeld (h := ?_)
      try simp only [pu]
      refine tkO 6 52 hHeld (h := ?_)
      try simp only [pu]
      refine tkO 7 53 hHeld (h := ?_)
      try simp only [pu]
      refine tkO 8 54 hHeld (h := ?_)
      try simp only [pu]
      refine tkO 9 55 hHeld (h := ?_)
      try simp only [pu]
      refine tkO 10 56 hHeld (h := ?_)
      try simp only [pu]
      refine tkO 11 57 hHeld (h := ?_)
      try simp only [pu]
      refine tkO 12 58 hHeld (h := ?_)
      try simp only [pu]
      refine tkI 13 59 hHeld (h := ?_)
      try simp only [pu]
      refine wpAnyH_done (by kernel_rfl) ?_ _; clear hHeld
      go_wp2_with fail
      go_meet
      exact ⟨false, rfl, HOY.out.drew, .inr ⟨rfl, HDE.out⟩⟩
    obtain ⟨tb, rfl, TT⟩ := hcut; have HOC := Lr TT.out.1; have HTD := Lr TT.out.2; clear TT; cases tb
    ·have hpp : Hid (PO = p) := Lr (by
      rcases HTD.out with ⟨h, _⟩ | ⟨_, h⟩
      ·cases h
      ·exact h)
     have HNX2 : Hid (M (kk + 1) = m.take p ++ x :: m.drop p) := Lr (by rw [HNX.out]; unfold uX; rw [← HPO.out, hpp.out]); have hbs := HOC.out.b.size; have hbs2 := HBN.out.size; obtain ⟨z0, z1, z2, z5⟩ := HQB.out wc HOC.out.b; have hins := EL (wc.alloc (.cells #[.string x.ke, .int .i64 x.an.ve, .int .i64 x.an.bo, .int .i64 x.us] 59)) w6.heap.size wc.heap.size p m x (.slice a m.length c) (HOC.out.o.al _) (by simp; omega) hmx hp (ag _ _) (nC HOC.out.o (Ls _)); have HINS := Lr hins; have HBA := Lr ((HBN.out.trans (HOC.out.b.mono hbs2)).alloc (by omega) (.cells #[.string x.ke, .int .i64 x.an.ve, .int .i64 x.an.bo, .int .i64 x.us] 59)); clear hins hbs hbs2
     go_wp2_with (go_at_call 45; (with_reducible refine HINS.out.mono ?_); rintro e w7 ⟨v7, rfl, ho7, hb7⟩; obtain ⟨a7, n7, c7, rfl⟩ := Own.slv aG ho7; have HO7 := Lr ho7; have HB7 := Lr hb7; clear ho7 hb7)
     go_roundg (H.length - (kk + 1))
     case measure => omega
     case rel => exact ⟨kk + 1, by omega, by omega, by go_num, a7, n7, c7, rfl, ⟨by rw [HNX2.out]; exact HO7.out, HBA.out.trans HB7.out⟩⟩
    ·have hpp : Hid (p < m.length ∧ p + 1 ≤ PO) := Lr (by
      rcases HTD.out with ⟨_, h⟩ | ⟨h, _⟩
      ·exact h
      ·cases h)
     have hpm := hpp.out.1
     go_wp2_with fail
     go_roundg (m.length - (p + 1))
     case measure => omega
     case rel => exact ⟨p + 1, by omega, by omega, by go_num, (show Aside _ from HOC.out), (show Aside _ from hpp.out.2)⟩
  ·obtain rfl : kk = H.length := by omega
   have hltz : ¬ (H.length : Int) < (H.length : Int) := by omega
   have HOS := Lr OS.out; clear OS
   go_wp2_with fail
   go_ret2
   obtain ⟨X', hE', hH'⟩ := hEX.out; exact ⟨⟨_, by rw [← hv.out]; rfl, _, HOS.out.o.sl aG, fun h => absurd hv.out.symm h, fun _ => ⟨X', hE', by rw [hH', HML.out]⟩⟩, HB6.out.trans (HOS.out.b.mono HB6.out.size)⟩
section
variable {C : List Cch} {R : List Crl} {E : List Rel} {P : List Pur} {L : List Gt} {X X' : Xd} {pd pd' : List Xw} {T lim : Int} {v : Nat → Option Gtn}
theorem cu.trans {m m' m'' : Mod} {X'' : Xd} (h : cu C R E P L lim m X m' X') (k : cu C R E P L lim m' X' m'' X'') : cu C R E P L lim m X m'' X'' := by
 induction k with
 | refl => exact h
 | step _ hn ih => exact .step (ih h) hn
theorem cu.inv {m m' : Mod} (h : cu C R E P L lim m X m' X') : (m' = m ∧ X' = X) ∨ ∃ m1 X1, X.next C R E P L lim m = some (m1, X1) ∧ cu C R E P L lim m1 X1 m' X' := by
 induction h with
 | refl => exact .inl ⟨rfl, rfl⟩
 | step _ hn ih =>
  right
  rcases ih with ⟨rfl, rfl⟩ | ⟨m1, X1, h1, h2⟩
  ·exact ⟨_, _, hn, .refl _ _⟩
  ·exact ⟨m1, X1, h1, .step h2 hn⟩
theorem cu.dir {m m1 m2 : Mod} {X1 X2 : Xd} (h : cu C R E P L lim m X m1 X1) (k : cu C R E P L lim m X m2 X2) : cu C R E P L lim m1 X1 m2 X2 ∨ cu C R E P L lim m2 X2 m1 X1 := by
 induction k with
 | refl => exact .inr h
 | step _ hn ih =>
  rcases ih h with h1 | h1
  ·exact .inl (.step h1 hn)
  ·rcases h1.inv with ⟨rfl, rfl⟩ | ⟨m3, X3, h2, h3⟩
   ·exact .inl (.step (.refl _ _) hn)
   ·rw [hn] at h2; cases h2
    exact .inr h3
theorem cu.last {m m1 m2 : Mod} {X1 X2 : Xd} (h : cu C R E P L lim m X m1 X1) (k : cu C R E P L lim m X m2 X2) (h1 : X1.next C R E P L lim m1 = none) : cu C R E P L lim m2 X2 m1 X1 := by
 rcases h.dir k with g | g
 ·rcases g.inv with ⟨rfl, rfl⟩ | ⟨m3, X3, h2, h3⟩
  ·exact .refl _ _
  ·rw [h1] at h2; cases h2
 ·exact g
theorem qp.uniq (h : qp C R E P L lim X) (k : qp C R E P L lim X') : X = X' := by
 rcases (h.rch.last k.rch h.nxt).inv with ⟨_, e⟩ | ⟨m3, X3, h2, _⟩
 ·exact e
 ·rw [k.nxt] at h2; cases h2
theorem Val.take (h : Val C R E P L) (k : Nat) : Val C R E P (L.take k) :=
 { h with
   l := by rw [List.length_take]; have := h.l; omega
   ls := fun i j x y hij hx hy => by
    rw [List.getElem?_take] at hx hy; split at hx
    ·split at hy
     ·exact h.ls i j x y hij hx hy
     ·cases hy
    ·cases hx
   lt := fun x hx => h.lt x (List.mem_of_mem_take hx) }
end
end Go.Proofs.YtgohddfnhofjhaaGreatDoor

/- The law: gets are answered with nothing old. -/
import Derived.Test.YtgohddfnhofjhaaGreatDoorNoOldPG1
import Derived.Test.YtgohddfnhofjhaaGreatDoorB27
import Derived.Test.YtgohddfnhofjhaaGreatDoorB18
namespace Go.Proofs.YtgohddfnhofjhaaGreatDoor
open Go.RowKit

section
variable {C : List Cch} {R : List Crl} {E : List Rel} {P : List Pur} {L : List Gt} {X : Xd}
/-- What the law asks of an answer. -/
structure LawG (R : List Crl) (E : List Rel) (P : List Pur) (q : Gt) (g : Gtn) : Prop where
  ti : q.ti ≤ g.ti
  bo : g.bo ≤ g.ti
  pu : pbI P q.ke q.ti P.length ≤ g.bo
  ve : g.ve = (oriM E q.ke g.bo).ve
  bb : 0 ≤ g.bo ∧ g.bo ≤ 10000000000000
  h1 : g.ho = 1 → g.ti = q.ti ∧ g.ti < lifB R q.ke g false
  h2 : g.ho = 2 → g.ti = q.ti ∧ lifB R q.ke g false ≤ g.ti ∧ g.ti < lifB R q.ke g true
theorem EndX.law (h : EndX C R E P L 1152921504606846976 X) (hv : Val C R E P L) {i : Nat} (hi : i < L.length) : LawG R E P (L.getD i default) (X.G i) := by
  have hg := h.ginv hv
  have hd := h.done hv
  have hl := h.inv.le.2.2.1
  have g := hg.ga i (by rw [hd.nx]; exact hi) (fun w hw => by rw [List.nil_append, hd.wt] at hw; cases hw)
  have hm : X.G i ∈ X.go := by
    unfold Xd.G
    rw [getD_at (List.getElem?_eq_getElem (by omega : i < X.go.length))]
    exact List.getElem_mem _
  obtain ⟨_, hb⟩ := h.gob hv _ hm
  have ho := oriM_ok (E := E) hv.e (L.getD i default).ke (no := (X.G i).bo) hb
  have hu : ∀ r b, untM r (oriM E (L.getD i default).ke (X.G i).bo) b = untM r ⟨(X.G i).ve, (X.G i).bo, 0, decide ((X.G i).ve < 0), ⟨#[]⟩⟩ b := fun r b => by
    have e : (oriM E (L.getD i default).ke (X.G i).bo).no = decide ((X.G i).ve < 0) := by
      rw [g.ve]
      cases hn : (oriM E (L.getD i default).ke (X.G i).bo).no
      · exact (decide_eq_false fun c => by rw [ho.ve.2 c] at hn; cases hn).symm
      · exact (decide_eq_true (ho.ve.1 hn)).symm
    unfold untM
    rw [e, oriM_bo]
  have hs : (X.G i).ti < untM (rulO R (L.getD i default).ke) (oriM E (L.getD i default).ke (X.G i).bo) true → (ruI R (L.getD i default).ke R.length).isSome = true := fun c => by
    cases hr : ruI R (L.getD i default).ke R.length with
    | some _ => rfl
    | none =>
      have e : rulO R (L.getD i default).ke = default := by unfold rulO; rw [hr]; rfl
      rw [e] at c
      have hz : untM default (oriM E (L.getD i default).ke (X.G i).bo) true = (X.G i).bo := by
        unfold untM
        rw [oriM_bo]
        split
        · show (X.G i).bo + 0 = _; omega
        · show (X.G i).bo + 0 + 0 = _; omega
      have := g.bo
      omega
  have hf : untM (rulO R (L.getD i default).ke) (oriM E (L.getD i default).ke (X.G i).bo) false ≤ untM (rulO R (L.getD i default).ke) (oriM E (L.getD i default).ke (X.G i).bo) true := by
    refine untM_le ?_
    unfold rulO outU
    cases hr : ruI R (L.getD i default).ke R.length with
    | none => exact Int.le_refl _
    | some j =>
      have hj := ruI_lt hr
      show 0 ≤ (R.getD j default).st
      rw [getD_at (List.getElem?_eq_getElem hj)]
      exact (hv.rb _ (List.getElem_mem hj)).2.1.1
  refine ⟨g.ti, g.bo, ?_, g.ve, hb, fun e => ?_, fun e => ?_⟩
  · rw [pbI_pur hv.ps (fun x hx => (hv.pt x hx).1.1) _ _ (Nat.le_refl _)]
    exact g.pu
  · obtain ⟨k1, k2⟩ := g.h1 e
    refine ⟨k1, ?_⟩
    unfold lifB
    rw [if_pos (hs (by omega)), ← hu]
    exact k2
  · obtain ⟨k1, k2, k3⟩ := g.h2 e
    refine ⟨k1, ?_⟩
    unfold lifB
    rw [if_pos (hs k3), if_pos (hs k3), ← hu, ← hu]
    exact ⟨k2, k3⟩
end
set_option maxRecDepth 100000 in
set_option maxHeartbeats 8000000 in
theorem nothingOld_any (w : World) (C : List Cch) (R : List Crl) (E : List Rel) (P : List Pur) (L : List Gt) (vc vr ve vp vl : Value) (h : InS w C R E P L vc vr ve vp vl) (hw : WfS C R E P L) (m : Int) (hm : w.cell? ⟨0, 0, none⟩ = some (.int .i64 m)) :
    Calls Tryz.prog 3 #[.agg #[vc, vr, ve, vp], vl] w fun e' w' => e' = .returned (.bool true) ∧ Below w.heap.size w w' := by
  have h0 := World.block_lt_of_cell? w _ hm
  obtain ⟨w2, hw2⟩ : ∃ w2, w2 = w.alloc (.cells #[vc, vr, ve, vp] 27) := ⟨_, rfl⟩
  have hb2 : Below w.heap.size w w2 := by rw [hw2]; exact (Below.refl _ w).alloc (Nat.le_refl _) _
  have hnb : w2.heap[w.heap.size]? = some (.cells #[vc, vr, ve, vp] 27 (0, 0)) := by rw [hw2]; exact block_new w _
  have hlt : w.heap.size < w2.heap.size := (Array.getElem?_eq_some_iff.1 hnb).1
  have h2 := h.below hb2
  have H1 := Lib.hid (Serve_any w2 C R E P L vc vr ve vp vl h2 hw)
  have H5 := Lib.hid (fun (W : World) (hW : Below w.heap.size w W) => awakeE_any W m ((hW.cell (p := ⟨0, 0, none⟩) h0).trans hm))
  have HPu := Lib.hid (fun (W : World) (hW : Below w2.heap.size w2 W) (k : ByteArray) (t : Int) => purgedBy_any W vc vr ve vp P k t (h2.below hW).p)
  have HVe := Lib.hid (fun (W : World) (hW : Below w2.heap.size w2 W) (k : ByteArray) (t : Int) => versionOf_any W vc vr ve vp E k t (h2.below hW).e)
  have HFr := Lib.hid (fun (W : World) (hW : Below w2.heap.size w2 W) => isFresh_any W vc vr ve vp R (hr := (h2.below hW).r))
  have HUs := Lib.hid (fun (W : World) (hW : Below w2.heap.size w2 W) => isUsable_any W vc vr ve vp R (hr := (h2.below hW).r))
  have HQ := Lib.hid (fun (W : World) (hW : Below w2.heap.size w2 W) => (hW.block _ hlt).trans hnb)
  have HV := Lib.hid (val_of (C := C) (R := R) (E := E) (P := P) (L := L))
  obtain ⟨lo, lc, rfl, hlc, hlm, -, hlel⟩ := h2.l
  unfold maxLen at hlm
  have HLL := Lib.hid hlel
  have q0 : w2.cell? ⟨w.heap.size, 0, none⟩ = some vc := cellF hnb 0 rfl
  have q1 : w2.cell? ⟨w.heap.size, 1, none⟩ = some vr := cellF hnb 1 rfl
  have q2 : w2.cell? ⟨w.heap.size, 2, none⟩ = some ve := cellF hnb 2 rfl
  have q3 : w2.cell? ⟨w.heap.size, 3, none⟩ = some vp := cellF hnb 3 rfl
  have HW2 := Lib.hid hw2
  have HB2 := Lib.hid hb2
  clear h h2 hw hm hw2 hb2 hnb hlel
  obtain ⟨D0, hD0⟩ : ∃ D0, D0 = w.heap.size := ⟨_, rfl⟩
  have HD := Lib.hid hD0
  rw [← hD0] at HQ q0 q1 q2 q3
  clear hD0
  generalize checkS C R E P L = S at H1 HV ⊢
  go_enter Tryz.func3, Tryz.ntmps3
  go_upto_region 1 with (fail)
  rw [← HW2.out, ← HD.out]
  go_upto_region 2 with (go_at_call 10; (with_reducible refine H1.out.mono ?_); rintro e w3 ⟨⟨v, rfl, l, hs, hl1, hl2⟩, hb3⟩; have HS := Lib.hid hs; have HB3 := Lib.hid hb3; have HL1 := Lib.hid hl1; have HL2 := Lib.hid hl2; clear hs hb3 hl1 hl2 q0 q1 q2 q3)
  have HB3' := Lib.hid (HB2.out.thru HB3.out)
  by_cases hS : S = 0
  case neg =>
    obtain rfl := HL1.out hS
    obtain ⟨a1, c1, rfl, -⟩ := HS.out
    have hne : (S != 0) = true := by simpa using hS
    clear hS
    go_wp2_with (go_at_call 11; (with_reducible refine (H5.out w3 HB3'.out).mono ?_); rintro e w6 ⟨rfl, hb6⟩; have HB6 := Lib.hid (HB3'.out.thru hb6); clear hb6)
    go_ret
    exact ⟨rfl, HB6.out⟩
  subst hS
  have hv := HV.out rfl
  obtain ⟨X, hE, rfl⟩ := HL2.out rfl
  have hgl : X.go.length = L.length := hE.inv.le.2.2.1
  have hl1000 := hv.l
  have HLaw : Hid (∀ i, i < L.length → LawG R E P (L.getD i default) (X.G i)) := Lib.hid fun i hi => hE.law hv hi
  have HRB := Lib.hid hv.rb
  obtain ⟨ao, cap, hvv, hcap, hmax, -, hel⟩ := HS.out
  unfold maxLen at hmax
  rw [hgl] at hvv hcap
  subst hvv
  have HEL := Lib.hid hel
  clear hel hv hE HL1 HL2 HV HS H1
  go_wp2_with (go_at_call 11; (with_reducible refine (H5.out w3 HB3'.out).mono ?_); rintro e w6 ⟨rfl, hb6⟩; have HB6 := Lib.hid (HB3.out.thru hb6); have HB7 := Lib.hid hb6; clear hb6)
  go_loopg [7, 8, 34] L.length (fun gg s7 s8 s34 wr => ∃ (kk : Nat), kk ≤ L.length ∧ L.length - kk ≤ gg ∧ s34 = .int .i64 kk ∧ Aside (Below w3.heap.size w3 wr))
  case atStart => exact ⟨0, Nat.zero_le _, by omega, rfl, HB7.out⟩
  case round =>
    obtain ⟨kk, hkk, hg, rfl, BW⟩ := hrel
    have HBr : Hid (Below w2.heap.size w2 wr) := Lib.hid (HB3.out.thru BW.out)
    by_cases hlt2 : kk < L.length
    · have hltz : (kk : Int) < (L.length : Int) := by omega
      obtain ⟨g, hgk⟩ : ∃ g, g = X.G kk := ⟨_, rfl⟩
      obtain ⟨q, hqk⟩ : ∃ q, q = L.getD kk default := ⟨_, rfl⟩
      have hge : X.go[kk]? = some g := by rw [hgk]; unfold Xd.G; rw [getD_at (List.getElem?_eq_getElem (by omega : kk < X.go.length))]; exact List.getElem?_eq_getElem _
      have hqe : L[kk]? = some q := by rw [hqk, getD_at (List.getElem?_eq_getElem hlt2)]; exact List.getElem?_eq_getElem _
      have hlaw := HLaw.out kk hlt2
      rw [← hgk, ← hqk] at hlaw
      obtain ⟨l1, l2, l3, l4, ⟨l5, l6⟩, l7, l8⟩ := hlaw
      obtain ⟨b, off, rfl, hc⟩ := HEL.out kk g hge
      obtain ⟨b', off', rfl, hc'⟩ := HLL.out kk q hqe
      have hlb := World.block_lt_of_cell? w3 _ (hc 0 _ rfl)
      have hlb' := World.block_lt_of_cell? w2 _ (hc' 0 _ rfl)
      have c0 : wr.cell? ⟨b, off + kk * 5, none⟩ = some (.int .i64 g.ti) := by have h := (BW.out.cell (p := ⟨b, off + kk * 5 + 0, none⟩) hlb).trans (hc 0 _ rfl); simpa using h
      have c1 : wr.cell? ⟨b, off + kk * 5 + 1, none⟩ = some (.int .i64 g.ve) := (BW.out.cell (p := ⟨b, off + kk * 5 + 1, none⟩) hlb).trans (hc 1 _ rfl)
      have c2 : wr.cell? ⟨b, off + kk * 5 + 2, none⟩ = some (.int .i64 g.bo) := (BW.out.cell (p := ⟨b, off + kk * 5 + 2, none⟩) hlb).trans (hc 2 _ rfl)
      have c3 : wr.cell? ⟨b, off + kk * 5 + 3, none⟩ = some (.string g.fr) := (BW.out.cell (p := ⟨b, off + kk * 5 + 3, none⟩) hlb).trans (hc 3 _ rfl)
      have c4 : wr.cell? ⟨b, off + kk * 5 + 4, none⟩ = some (.int .i64 g.ho) := (BW.out.cell (p := ⟨b, off + kk * 5 + 4, none⟩) hlb).trans (hc 4 _ rfl)
      obtain ⟨wq, hwq⟩ : ∃ wq, wq = wr.alloc (.cells #[.int .i64 g.ti, .int .i64 g.ve, .int .i64 g.bo, .string g.fr, .int .i64 g.ho] 35) := ⟨_, rfl⟩
      have hbq : Below wr.heap.size wr wq := by rw [hwq]; exact (Below.refl _ wr).alloc (Nat.le_refl _) _
      have hnq : wq.heap[wr.heap.size]? = some (.cells #[.int .i64 g.ti, .int .i64 g.ve, .int .i64 g.bo, .string g.fr, .int .i64 g.ho] 35 (0, 0)) := by rw [hwq]; exact block_new wr _
      have hltq : wr.heap.size < wq.heap.size := (Array.getElem?_eq_some_iff.1 hnq).1
      obtain ⟨N, hN⟩ : ∃ N, N = wr.heap.size := ⟨_, rfl⟩
      have HBQ : Hid (Below w2.heap.size w2 wq) := Lib.hid (HBr.out.thru hbq)
      have HBW : Hid (Below w3.heap.size w3 wq) := Lib.hid (BW.out.trans (hbq.mono BW.out.size))
      have hle3 : w3.heap.size ≤ wq.heap.size := Nat.le_trans BW.out.size hbq.size
      have HC : Hid (∀ W, Below wq.heap.size wq W → W.cell? ⟨N, 0, none⟩ = some (.int .i64 g.ti) ∧ W.cell? ⟨N, 1, none⟩ = some (.int .i64 g.ve) ∧ W.cell? ⟨N, 2, none⟩ = some (.int .i64 g.bo) ∧ W.cell? ⟨N, 3, none⟩ = some (.string g.fr) ∧ W.cell? ⟨N, 4, none⟩ = some (.int .i64 g.ho) ∧ W.cell? ⟨b', off' + kk * 3, none⟩ = some (.int .i64 q.ti) ∧ W.cell? ⟨b', off' + kk * 3 + 2, none⟩ = some (.string q.ke) ∧ W.cell? ⟨D0, 0, none⟩ = some vc ∧ W.cell? ⟨D0, 1, none⟩ = some vr ∧ W.cell? ⟨D0, 2, none⟩ = some ve ∧ W.cell? ⟨D0, 3, none⟩ = some vp) := Lib.hid fun W hW => by
        have h1 := (hW.block _ hltq).trans hnq
        have hb0 := HBQ.out.thru hW
        have h3 := HQ.out W hb0
        rw [hN]
        refine ⟨cellF h1 0 rfl, cellF h1 1 rfl, cellF h1 2 rfl, cellF h1 3 rfl, cellF h1 4 rfl, ?_, (hb0.cell (p := ⟨b', off' + kk * 3 + 2, none⟩) hlb').trans (hc' 2 _ rfl), cellF h3 0 rfl, cellF h3 1 rfl, cellF h3 2 rfl, cellF h3 3 rfl⟩
        have h := (hb0.cell (p := ⟨b', off' + kk * 3 + 0, none⟩) hlb').trans (hc' 0 _ rfl)
        simpa using h
      have HPu' := Lib.hid (fun (W : World) (hW : Below wq.heap.size wq W) => HPu.out W (HBQ.out.thru hW) q.ke q.ti)
      have HVe' := Lib.hid (fun (W : World) (hW : Below wq.heap.size wq W) => HVe.out W (HBQ.out.thru hW) q.ke g.bo)
      have HFr' := Lib.hid (fun (W : World) (hW : Below wq.heap.size wq W) => HFr.out W (HBQ.out.thru hW) q.ke g ⟨l5, l6⟩ HRB.out)
      have HUs' := Lib.hid (fun (W : World) (hW : Below wq.heap.size wq W) => HUs.out W (HBQ.out.thru hW) q.ke g ⟨l5, l6⟩ HRB.out)
      have HWQ := Lib.hid hwq
      have n1 : ¬ g.ti < q.ti := by omega
      have n2 : ¬ g.ti < g.bo := by omega
      generalize pbI P q.ke q.ti P.length = pb at HPu' l3
      have n3 : ¬ g.bo < pb := by omega
      rw [← l4] at HVe'
      have n4 : (g.ve != g.ve) = false := by simp
      generalize lifB R q.ke g false = fa at HFr' HUs' l7 l8
      generalize lifB R q.ke g true = tr at HUs' l8
      have L7 := Lib.hid l7
      have L8 := Lib.hid l8
      have HN := Lib.hid hN
      clear hc hc' hge hqe l3 l4 l7 l8 hwq hnq hbq hgk hqk hN
      go_upto_region 9 with (fail)
      rw [← HWQ.out, ← HN.out]
      have HQ0 : Below wq.heap.size wq wq.drew := (Below.refl _ wq).drew
      go_region_held3 (fun w' => w'.cell? ⟨N, 0, none⟩ = some (.int .i64 g.ti) ∧ w'.cell? ⟨N, 1, none⟩ = some (.int .i64 g.ve) ∧ w'.cell? ⟨N, 2, none⟩ = some (.int .i64 g.bo) ∧ w'.cell? ⟨N, 3, none⟩ = some (.string g.fr) ∧ w'.cell? ⟨N, 4, none⟩ = some (.int .i64 g.ho) ∧ w'.cell? ⟨b', off' + kk * 3, none⟩ = some (.int .i64 q.ti) ∧ w'.cell? ⟨b', off' + kk * 3 + 2, none⟩ = some (.string q.ke) ∧ w'.cell? ⟨D0, 0, none⟩ = some vc ∧ w'.cell? ⟨D0, 1, none⟩ = some vr ∧ w'.cell? ⟨D0, 2, none⟩ = some ve ∧ w'.cell? ⟨D0, 3, none⟩ = some vp)
        (first | exact HC.out _ HQ0 | fail)
        (first | (go_at_call 12; (with_reducible refine (HPu'.out _ HQ0).mono ?_); rintro e w' ⟨rfl, hb⟩; have HQ0 := HQ0.trans (hb.mono HQ0.size)) | fail)
      go_upto_region 11 with (fail)
      have HQ0 := HQ0.drew
      go_region_held3 (fun w' => w'.cell? ⟨N, 0, none⟩ = some (.int .i64 g.ti) ∧ w'.cell? ⟨N, 1, none⟩ = some (.int .i64 g.ve) ∧ w'.cell? ⟨N, 2, none⟩ = some (.int .i64 g.bo) ∧ w'.cell? ⟨N, 3, none⟩ = some (.string g.fr) ∧ w'.cell? ⟨N, 4, none⟩ = some (.int .i64 g.ho) ∧ w'.cell? ⟨b', off' + kk * 3, none⟩ = some (.int .i64 q.ti) ∧ w'.cell? ⟨b', off' + kk * 3 + 2, none⟩ = some (.string q.ke) ∧ w'.cell? ⟨D0, 0, none⟩ = some vc ∧ w'.cell? ⟨D0, 1, none⟩ = some vr ∧ w'.cell? ⟨D0, 2, none⟩ = some ve ∧ w'.cell? ⟨D0, 3, none⟩ = some vp)
        (first | exact HC.out _ HQ0 | fail)
        (first | (go_at_call 13; (with_reducible refine (HVe'.out _ HQ0).mono ?_); rintro e w' ⟨rfl, hb⟩; have HQ0 := HQ0.trans (hb.mono HQ0.size)) | fail)
      go_upto_region 13 with (fail)
      have HQ0 := HQ0.drew
      by_cases e1 : g.ho = 1
      · obtain ⟨e2, e3⟩ := L7.out e1
        have b1 : (g.ho == 1) = true := by simpa using e1
        have b2 : (g.ho == 2) = false := by rw [e1]; rfl
        have b3 : (g.ti != q.ti) = false := by simpa using e2
        have HF1 := Lib.hid (fun (W : World) (hW : Below wq.heap.size wq W) => HFr'.out W hW e3)
        clear e1 e2 e3
        refine wp_region_held_drew (S := fun W => W.cell? ⟨N, 0, none⟩ = some (.int .i64 g.ti) ∧ W.cell? ⟨N, 1, none⟩ = some (.int .i64 g.ve) ∧ W.cell? ⟨N, 2, none⟩ = some (.int .i64 g.bo) ∧ W.cell? ⟨N, 3, none⟩ = some (.string g.fr) ∧ W.cell? ⟨N, 4, none⟩ = some (.int .i64 g.ho) ∧ W.cell? ⟨b', off' + kk * 3, none⟩ = some (.int .i64 q.ti) ∧ W.cell? ⟨b', off' + kk * 3 + 2, none⟩ = some (.string q.ke) ∧ W.cell? ⟨D0, 0, none⟩ = some vc ∧ W.cell? ⟨D0, 1, none⟩ = some vr ∧ W.cell? ⟨D0, 2, none⟩ = some ve ∧ W.cell? ⟨D0, 3, none⟩ = some vp) (by kernel_rfl) (by exact HC.out _ HQ0) (fun hHeld => ?_)
        have HB9 := Lib.hid HQ0
        clear HQ0
        refine takeIn (v := ?_) 0 83 rfl rfl (by kernel_rfl) (by kernel_rfl) (by kernel_rfl) (fun _ _ _ h => h) hHeld (by rfl) ?_ ?_
        rotate_left
        · (intro w' hSw; (try dsimp only at hSw); go_simp) <;> with_reducible rfl
        try simp only [Act.put, List.setIfInBounds_toArray, List.set_cons_zero, List.set_cons_succ]
        refine takeIn (v := ?_) 1 84 rfl rfl (by kernel_rfl) (by kernel_rfl) (by kernel_rfl) (fun _ _ _ h => h) hHeld (by rfl) ?_ ?_
        rotate_left
        · (intro w' hSw; (try dsimp only at hSw); go_simp) <;> with_reducible rfl
        try simp only [Act.put, List.setIfInBounds_toArray, List.set_cons_zero, List.set_cons_succ]
        refine takeIn (v := ?_) 2 85 rfl rfl (by kernel_rfl) (by kernel_rfl) (by kernel_rfl) (fun _ _ _ h => h) hHeld (by rfl) ?_ ?_
        rotate_left
        · (intro w' hSw; (try dsimp only at hSw); go_simp) <;> with_reducible rfl
        try simp only [Act.put, List.setIfInBounds_toArray, List.set_cons_zero, List.set_cons_succ]
        refine takeIn (v := ?_) 3 86 rfl rfl (by kernel_rfl) (by kernel_rfl) (by kernel_rfl) (fun _ _ _ h => h) hHeld (by rfl) ?_ ?_
        rotate_left
        · (intro w' hSw; (try dsimp only at hSw); go_simp) <;> with_reducible rfl
        try simp only [Act.put, List.setIfInBounds_toArray, List.set_cons_zero, List.set_cons_succ]
        refine takeIn (v := ?_) 4 87 rfl rfl (by kernel_rfl) (by kernel_rfl) (by kernel_rfl) (fun _ _ _ h => h) hHeld (by rfl) ?_ ?_
        rotate_left
        · (intro w' hSw; (try dsimp only at hSw); go_simp) <;> with_reducible rfl
        try simp only [Act.put, List.setIfInBounds_toArray, List.set_cons_zero, List.set_cons_succ]
        refine takeIn (v := ?_) 5 88 rfl rfl (by kernel_rfl) (by kernel_rfl) (by kernel_rfl) (fun _ _ _ h => h) hHeld (by rfl) ?_ ?_
        rotate_left
        · (intro w' hSw; (try dsimp only at hSw); go_simp) <;> with_reducible rfl
        try simp only [Act.put, List.setIfInBounds_toArray, List.set_cons_zero, List.set_cons_succ]
        refine takeIn (v := ?_) 6 89 rfl rfl (by kernel_rfl) (by kernel_rfl) (by kernel_rfl) (fun _ _ _ h => h) hHeld (by rfl) ?_ ?_
        rotate_left
        · (intro w' hSw; (try dsimp only at hSw); go_simp) <;> with_reducible rfl
        try simp only [Act.put, List.setIfInBounds_toArray, List.set_cons_zero, List.set_cons_succ]
        refine takeIn (v := ?_) 7 90 rfl rfl (by kernel_rfl) (by kernel_rfl) (by kernel_rfl) (fun _ _ _ h => h) hHeld (by rfl) ?_ ?_
        rotate_left
        · (intro w' hSw; (try dsimp only at hSw); go_simp) <;> with_reducible rfl
        try simp only [Act.put, List.setIfInBounds_toArray, List.set_cons_zero, List.set_cons_succ]
        refine takeIn (v := ?_) 8 91 rfl rfl (by kernel_rfl) (by kernel_rfl) (by kernel_rfl) (fun _ _ _ h => h) hHeld (by rfl) ?_ ?_
        rotate_left
        · (intro w' hSw; (try dsimp only at hSw); go_simp) <;> with_reducible rfl
        try simp only [Act.put, List.setIfInBounds_toArray, List.set_cons_zero, List.set_cons_succ]
        refine takeIn (v := ?_) 9 92 rfl rfl (by kernel_rfl) (by kernel_rfl) (by kernel_rfl) (fun _ _ _ h => h) hHeld (by rfl) ?_ ?_
        rotate_left
        · (intro w' hSw; (try dsimp only at hSw); go_simp) <;> with_reducible rfl
        try simp only [Act.put, List.setIfInBounds_toArray, List.set_cons_zero, List.set_cons_succ]
        refine takeIn (v := ?_) 10 93 rfl rfl (by kernel_rfl) (by kernel_rfl) (by kernel_rfl) (fun _ _ _ h => h) hHeld (by rfl) ?_ ?_
        rotate_left
        · (intro w' hSw; (try dsimp only at hSw); go_simp) <;> with_reducible rfl
        try simp only [Act.put, List.setIfInBounds_toArray, List.set_cons_zero, List.set_cons_succ]
        refine takeIn (v := ?_) 11 94 rfl rfl (by kernel_rfl) (by kernel_rfl) (by kernel_rfl) (fun _ _ _ h => h) hHeld (by rfl) ?_ ?_
        rotate_left
        · (intro w' hSw; (try dsimp only at hSw); go_simp) <;> with_reducible rfl
        try simp only [Act.put, List.setIfInBounds_toArray, List.set_cons_zero, List.set_cons_succ]
        refine takeIn (v := ?_) 12 95 rfl rfl (by kernel_rfl) (by kernel_rfl) (by kernel_rfl) (fun _ _ _ h => h) hHeld (by rfl) ?_ ?_
        rotate_left
        · (intro w' hSw; (try dsimp only at hSw); go_simp) <;> with_reducible rfl
        try simp only [Act.put, List.setIfInBounds_toArray, List.set_cons_zero, List.set_cons_succ]
        refine takeIn (v := ?_) 13 96 rfl rfl (by kernel_rfl) (by kernel_rfl) (by kernel_rfl) (fun _ _ _ h => h) hHeld (by rfl) ?_ ?_
        rotate_left
        · (intro w' hSw; (try dsimp only at hSw); go_simp) <;> with_reducible rfl
        try simp only [Act.put, List.setIfInBounds_toArray, List.set_cons_zero, List.set_cons_succ]
        refine takeIn (v := ?_) 14 97 rfl rfl (by kernel_rfl) (by kernel_rfl) (by kernel_rfl) (fun _ _ _ h => h) hHeld (by rfl) ?_ ?_
        rotate_left
        · (intro w' hSw; (try dsimp only at hSw); go_simp) <;> with_reducible rfl
        try simp only [Act.put, List.setIfInBounds_toArray, List.set_cons_zero, List.set_cons_succ]
        refine takeIn (v := ?_) 15 98 rfl rfl (by kernel_rfl) (by kernel_rfl) (by kernel_rfl) (fun _ _ _ h => h) hHeld (by rfl) ?_ ?_
        rotate_left
        · (intro w' hSw; (try dsimp only at hSw); go_simp) <;> with_reducible rfl
        try simp only [Act.put, List.setIfInBounds_toArray, List.set_cons_zero, List.set_cons_succ]
        refine takeIn (v := ?_) 16 99 rfl rfl (by kernel_rfl) (by kernel_rfl) (by kernel_rfl) (fun _ _ _ h => h) hHeld (by rfl) ?_ ?_
        rotate_left
        · (intro w' hSw; (try dsimp only at hSw); go_simp) <;> with_reducible rfl
        try simp only [Act.put, List.setIfInBounds_toArray, List.set_cons_zero, List.set_cons_succ]
        refine takeIn (v := ?_) 17 100 rfl rfl (by kernel_rfl) (by kernel_rfl) (by kernel_rfl) (fun _ _ _ h => h) hHeld (by rfl) ?_ ?_
        rotate_left
        · (intro w' hSw; (try dsimp only at hSw); go_simp) <;> with_reducible rfl
        try simp only [Act.put, List.setIfInBounds_toArray, List.set_cons_zero, List.set_cons_succ]
        refine takeIn (v := ?_) 18 101 rfl rfl (by kernel_rfl) (by kernel_rfl) (by kernel_rfl) (fun _ _ _ h => h) hHeld (by rfl) ?_ ?_
        rotate_left
        · (intro w' hSw; (try dsimp only at hSw); go_simp) <;> with_reducible rfl
        try simp only [Act.put, List.setIfInBounds_toArray, List.set_cons_zero, List.set_cons_succ]
        refine takeIn (v := ?_) 19 102 rfl rfl (by kernel_rfl) (by kernel_rfl) (by kernel_rfl) (fun _ _ _ h => h) hHeld (by rfl) ?_ ?_
        rotate_left
        · (intro w' hSw; (try dsimp only at hSw); go_simp) <;> with_reducible rfl
        try simp only [Act.put, List.setIfInBounds_toArray, List.set_cons_zero, List.set_cons_succ]
        refine callIn (f := 14) (args := #[.agg #[vc, vr, ve, vp], .string q.ke, aggN g]) 20 103 rfl rfl (by kernel_rfl) (by rfl) (by go_simp) ?_
        clear hHeld
        refine (HF1.out _ HB9.out).mono ?_
        rintro e w9 ⟨rfl, hb9⟩
        replace HB9 := Lib.hid (HB9.out.thru hb9)
        clear hb9
        have hHeld : w9.cell? ⟨N, 0, none⟩ = some (.int .i64 g.ti) ∧ w9.cell? ⟨N, 1, none⟩ = some (.int .i64 g.ve) ∧ w9.cell? ⟨N, 2, none⟩ = some (.int .i64 g.bo) ∧ w9.cell? ⟨N, 3, none⟩ = some (.string g.fr) ∧ w9.cell? ⟨N, 4, none⟩ = some (.int .i64 g.ho) ∧ w9.cell? ⟨b', off' + kk * 3, none⟩ = some (.int .i64 q.ti) ∧ w9.cell? ⟨b', off' + kk * 3 + 2, none⟩ = some (.string q.ke) ∧ w9.cell? ⟨D0, 0, none⟩ = some vc ∧ w9.cell? ⟨D0, 1, none⟩ = some vr ∧ w9.cell? ⟨D0, 2, none⟩ = some ve ∧ w9.cell? ⟨D0, 3, none⟩ = some vp := HC.out _ HB9.out
        refine ⟨_, rfl, hHeld, ?_⟩
        try simp only [Act.put, List.setIfInBounds_toArray, List.set_cons_zero, List.set_cons_succ]
        refine takeIn (v := ?_) 21 104 rfl rfl (by kernel_rfl) (by kernel_rfl) (by kernel_rfl) (fun _ _ _ h => h) hHeld (by rfl) ?_ ?_
        rotate_left
        · (intro w' hSw; (try dsimp only at hSw); go_simp) <;> with_reducible rfl
        try simp only [Act.put, List.setIfInBounds_toArray, List.set_cons_zero, List.set_cons_succ]
        refine takeIn (v := ?_) 22 105 rfl rfl (by kernel_rfl) (by kernel_rfl) (by kernel_rfl) (fun _ _ _ h => h) hHeld (by rfl) ?_ ?_
        rotate_left
        · (intro w' hSw; (try dsimp only at hSw); go_simp) <;> with_reducible rfl
        try simp only [Act.put, List.setIfInBounds_toArray, List.set_cons_zero, List.set_cons_succ]
        refine takeIn (v := ?_) 23 106 rfl rfl (by kernel_rfl) (by kernel_rfl) (by kernel_rfl) (fun _ _ _ h => h) hHeld (by rfl) ?_ ?_
        rotate_left
        · (intro w' hSw; (try dsimp only at hSw); go_simp) <;> with_reducible rfl
        try simp only [Act.put, List.setIfInBounds_toArray, List.set_cons_zero, List.set_cons_succ]
        refine takeIn (v := ?_) 24 107 rfl rfl (by kernel_rfl) (by kernel_rfl) (by kernel_rfl) (fun _ _ _ h => h) hHeld (by rfl) ?_ ?_
        rotate_left
        · (intro w' hSw; (try dsimp only at hSw); go_simp) <;> with_reducible rfl
        try simp only [Act.put, List.setIfInBounds_toArray, List.set_cons_zero, List.set_cons_succ]
        refine takeIn (v := ?_) 25 108 rfl rfl (by kernel_rfl) (by kernel_rfl) (by kernel_rfl) (fun _ _ _ h => h) hHeld (by rfl) ?_ ?_
        rotate_left
        · (intro w' hSw; (try dsimp only at hSw); go_simp) <;> with_reducible rfl
        try simp only [Act.put, List.setIfInBounds_toArray, List.set_cons_zero, List.set_cons_succ]
        refine takeIn (v := ?_) 26 109 rfl rfl (by kernel_rfl) (by kernel_rfl) (by kernel_rfl) (fun _ _ _ h => h) hHeld (by rfl) ?_ ?_
        rotate_left
        · (intro w' hSw; (try dsimp only at hSw); go_simp) <;> with_reducible rfl
        try simp only [Act.put, List.setIfInBounds_toArray, List.set_cons_zero, List.set_cons_succ]
        refine takeIn (v := ?_) 27 110 rfl rfl (by kernel_rfl) (by kernel_rfl) (by kernel_rfl) (fun _ _ _ h => h) hHeld (by rfl) ?_ ?_
        rotate_left
        · (intro w' hSw; (try dsimp only at hSw); go_simp) <;> with_reducible rfl
        try simp only [Act.put, List.setIfInBounds_toArray, List.set_cons_zero, List.set_cons_succ]
        refine takeIn (v := ?_) 28 111 rfl rfl (by kernel_rfl) (by kernel_rfl) (by kernel_rfl) (fun _ _ _ h => h) hHeld (by rfl) ?_ ?_
        rotate_left
        · (intro w' hSw; (try dsimp only at hSw); go_simp) <;> with_reducible rfl
        try simp only [Act.put, List.setIfInBounds_toArray, List.set_cons_zero, List.set_cons_succ]
        refine takeOut 29 112 rfl rfl (by kernel_rfl) (by kernel_rfl) (by kernel_rfl) (fun _ _ _ h => h) hHeld (by rfl) ?_
        try simp only [Act.put, List.setIfInBounds_toArray, List.set_cons_zero, List.set_cons_succ]
        refine takeOut 30 113 rfl rfl (by kernel_rfl) (by kernel_rfl) (by kernel_rfl) (fun _ _ _ h => h) hHeld (by rfl) ?_
        try simp only [Act.put, List.setIfInBounds_toArray, List.set_cons_zero, List.set_cons_succ]
        refine takeOut 31 114 rfl rfl (by kernel_rfl) (by kernel_rfl) (by kernel_rfl) (fun _ _ _ h => h) hHeld (by rfl) ?_
        try simp only [Act.put, List.setIfInBounds_toArray, List.set_cons_zero, List.set_cons_succ]
        refine takeOut 32 115 rfl rfl (by kernel_rfl) (by kernel_rfl) (by kernel_rfl) (fun _ _ _ h => h) hHeld (by rfl) ?_
        try simp only [Act.put, List.setIfInBounds_toArray, List.set_cons_zero, List.set_cons_succ]
        refine takeOut 33 116 rfl rfl (by kernel_rfl) (by kernel_rfl) (by kernel_rfl) (fun _ _ _ h => h) hHeld (by rfl) ?_
        try simp only [Act.put, List.setIfInBounds_toArray, List.set_cons_zero, List.set_cons_succ]
        refine takeOut 34 117 rfl rfl (by kernel_rfl) (by kernel_rfl) (by kernel_rfl) (fun _ _ _ h => h) hHeld (by rfl) ?_
        try simp only [Act.put, List.setIfInBounds_toArray, List.set_cons_zero, List.set_cons_succ]
        refine takeOut 35 118 rfl rfl (by kernel_rfl) (by kernel_rfl) (by kernel_rfl) (fun _ _ _ h => h) hHeld (by rfl) ?_
        try simp only [Act.put, List.setIfInBounds_toArray, List.set_cons_zero, List.set_cons_succ]
        refine takeOut 36 119 rfl rfl (by kernel_rfl) (by kernel_rfl) (by kernel_rfl) (fun _ _ _ h => h) hHeld (by rfl) ?_
        try simp only [Act.put, List.setIfInBounds_toArray, List.set_cons_zero, List.set_cons_succ]
        refine takeOut 37 120 rfl rfl (by kernel_rfl) (by kernel_rfl) (by kernel_rfl) (fun _ _ _ h => h) hHeld (by rfl) ?_
        try simp only [Act.put, List.setIfInBounds_toArray, List.set_cons_zero, List.set_cons_succ]
        refine takeOut 38 121 rfl rfl (by kernel_rfl) (by kernel_rfl) (by kernel_rfl) (fun _ _ _ h => h) hHeld (by rfl) ?_
        try simp only [Act.put, List.setIfInBounds_toArray, List.set_cons_zero, List.set_cons_succ]
        refine takeOut 39 122 rfl rfl (by kernel_rfl) (by kernel_rfl) (by kernel_rfl) (fun _ _ _ h => h) hHeld (by rfl) ?_
        try simp only [Act.put, List.setIfInBounds_toArray, List.set_cons_zero, List.set_cons_succ]
        refine takeOut 40 123 rfl rfl (by kernel_rfl) (by kernel_rfl) (by kernel_rfl) (fun _ _ _ h => h) hHeld (by rfl) ?_
        try simp only [Act.put, List.setIfInBounds_toArray, List.set_cons_zero, List.set_cons_succ]
        refine takeOut 41 124 rfl rfl (by kernel_rfl) (by kernel_rfl) (by kernel_rfl) (fun _ _ _ h => h) hHeld (by rfl) ?_
        try simp only [Act.put, List.setIfInBounds_toArray, List.set_cons_zero, List.set_cons_succ]
        refine takeOut 42 125 rfl rfl (by kernel_rfl) (by kernel_rfl) (by kernel_rfl) (fun _ _ _ h => h) hHeld (by rfl) ?_
        try simp only [Act.put, List.setIfInBounds_toArray, List.set_cons_zero, List.set_cons_succ]
        refine takeOut 43 126 rfl rfl (by kernel_rfl) (by kernel_rfl) (by kernel_rfl) (fun _ _ _ h => h) hHeld (by rfl) ?_
        try simp only [Act.put, List.setIfInBounds_toArray, List.set_cons_zero, List.set_cons_succ]
        refine takeOut 44 127 rfl rfl (by kernel_rfl) (by kernel_rfl) (by kernel_rfl) (fun _ _ _ h => h) hHeld (by rfl) ?_
        try simp only [Act.put, List.setIfInBounds_toArray, List.set_cons_zero, List.set_cons_succ]
        refine takeOut 45 128 rfl rfl (by kernel_rfl) (by kernel_rfl) (by kernel_rfl) (fun _ _ _ h => h) hHeld (by rfl) ?_
        try simp only [Act.put, List.setIfInBounds_toArray, List.set_cons_zero, List.set_cons_succ]
        refine takeOut 46 129 rfl rfl (by kernel_rfl) (by kernel_rfl) (by kernel_rfl) (fun _ _ _ h => h) hHeld (by rfl) ?_
        try simp only [Act.put, List.setIfInBounds_toArray, List.set_cons_zero, List.set_cons_succ]
        refine takeOut 47 130 rfl rfl (by kernel_rfl) (by kernel_rfl) (by kernel_rfl) (fun _ _ _ h => h) hHeld (by rfl) ?_
        try simp only [Act.put, List.setIfInBounds_toArray, List.set_cons_zero, List.set_cons_succ]
        refine takeIn (v := ?_) 48 131 rfl rfl (by kernel_rfl) (by kernel_rfl) (by kernel_rfl) (fun _ _ _ h => h) hHeld (by rfl) ?_ ?_
        rotate_left
        · (intro w' hSw; (try dsimp only at hSw); go_simp) <;> with_reducible rfl
        try simp only [Act.put, List.setIfInBounds_toArray, List.set_cons_zero, List.set_cons_succ]
        refine takeIn (v := ?_) 49 132 rfl rfl (by kernel_rfl) (by kernel_rfl) (by kernel_rfl) (fun _ _ _ h => h) hHeld (by rfl) ?_ ?_
        rotate_left
        · (intro w' hSw; (try dsimp only at hSw); go_simp) <;> with_reducible rfl
        try simp only [Act.put, List.setIfInBounds_toArray, List.set_cons_zero, List.set_cons_succ]
        refine wpAnyH_done (by kernel_rfl) ?_ _
        clear hHeld
        go_wp2_with fail
        go_roundg (L.length - (kk + 1))
        case measure => omega
        case rel => exact ⟨kk + 1, by omega, by omega, by go_num, HBW.out.trans (HB9.out.mono HBW.out.size)⟩
      · by_cases e0 : g.ho = 2
        · obtain ⟨e2, e3, e4⟩ := L8.out e0
          have b1 : (g.ho == 1) = false := by simpa using e1
          have b2 : (g.ho == 2) = true := by simpa using e0
          have b3 : (g.ti != q.ti) = false := by simpa using e2
          have HU1 := Lib.hid (fun (W : World) (hW : Below wq.heap.size wq W) => HUs'.out W hW e3 e4)
          clear e0 e1 e2 e3 e4
          refine wp_region_held_drew (S := fun W => W.cell? ⟨N, 0, none⟩ = some (.int .i64 g.ti) ∧ W.cell? ⟨N, 1, none⟩ = some (.int .i64 g.ve) ∧ W.cell? ⟨N, 2, none⟩ = some (.int .i64 g.bo) ∧ W.cell? ⟨N, 3, none⟩ = some (.string g.fr) ∧ W.cell? ⟨N, 4, none⟩ = some (.int .i64 g.ho) ∧ W.cell? ⟨b', off' + kk * 3, none⟩ = some (.int .i64 q.ti) ∧ W.cell? ⟨b', off' + kk * 3 + 2, none⟩ = some (.string q.ke) ∧ W.cell? ⟨D0, 0, none⟩ = some vc ∧ W.cell? ⟨D0, 1, none⟩ = some vr ∧ W.cell? ⟨D0, 2, none⟩ = some ve ∧ W.cell? ⟨D0, 3, none⟩ = some vp) (by kernel_rfl) (by exact HC.out _ HQ0) (fun hHeld => ?_)
          have HB9 := Lib.hid HQ0
          clear HQ0
          refine takeIn (v := ?_) 0 83 rfl rfl (by kernel_rfl) (by kernel_rfl) (by kernel_rfl) (fun _ _ _ h => h) hHeld (by rfl) ?_ ?_
          rotate_left
          · (intro w' hSw; (try dsimp only at hSw); go_simp) <;> with_reducible rfl
          try simp only [Act.put, List.setIfInBounds_toArray, List.set_cons_zero, List.set_cons_succ]
          refine takeIn (v := ?_) 1 84 rfl rfl (by kernel_rfl) (by kernel_rfl) (by kernel_rfl) (fun _ _ _ h => h) hHeld (by rfl) ?_ ?_
          rotate_left
          · (intro w' hSw; (try dsimp only at hSw); go_simp) <;> with_reducible rfl
          try simp only [Act.put, List.setIfInBounds_toArray, List.set_cons_zero, List.set_cons_succ]
          refine takeIn (v := ?_) 2 85 rfl rfl (by kernel_rfl) (by kernel_rfl) (by kernel_rfl) (fun _ _ _ h => h) hHeld (by rfl) ?_ ?_
          rotate_left
          · (intro w' hSw; (try dsimp only at hSw); go_simp) <;> with_reducible rfl
          try simp only [Act.put, List.setIfInBounds_toArray, List.set_cons_zero, List.set_cons_succ]
          refine takeIn (v := ?_) 3 86 rfl rfl (by kernel_rfl) (by kernel_rfl) (by kernel_rfl) (fun _ _ _ h => h) hHeld (by rfl) ?_ ?_
          rotate_left
          · (intro w' hSw; (try dsimp only at hSw); go_simp) <;> with_reducible rfl
          try simp only [Act.put, List.setIfInBounds_toArray, List.set_cons_zero, List.set_cons_succ]
          refine takeOut 4 87 rfl rfl (by kernel_rfl) (by kernel_rfl) (by kernel_rfl) (fun _ _ _ h => h) hHeld (by rfl) ?_
          try simp only [Act.put, List.setIfInBounds_toArray, List.set_cons_zero, List.set_cons_succ]
          refine takeOut 5 88 rfl rfl (by kernel_rfl) (by kernel_rfl) (by kernel_rfl) (fun _ _ _ h => h) hHeld (by rfl) ?_
          try simp only [Act.put, List.setIfInBounds_toArray, List.set_cons_zero, List.set_cons_succ]
          refine takeOut 6 89 rfl rfl (by kernel_rfl) (by kernel_rfl) (by kernel_rfl) (fun _ _ _ h => h) hHeld (by rfl) ?_
          try simp only [Act.put, List.setIfInBounds_toArray, List.set_cons_zero, List.set_cons_succ]
          refine takeOut 7 90 rfl rfl (by kernel_rfl) (by kernel_rfl) (by kernel_rfl) (fun _ _ _ h => h) hHeld (by rfl) ?_
          try simp only [Act.put, List.setIfInBounds_toArray, List.set_cons_zero, List.set_cons_succ]
          refine takeOut 8 91 rfl rfl (by kernel_rfl) (by kernel_rfl) (by kernel_rfl) (fun _ _ _ h => h) hHeld (by rfl) ?_
          try simp only [Act.put, List.setIfInBounds_toArray, List.set_cons_zero, List.set_cons_succ]
          refine takeOut 9 92 rfl rfl (by kernel_rfl) (by kernel_rfl) (by kernel_rfl) (fun _ _ _ h => h) hHeld (by rfl) ?_
          try simp only [Act.put, List.setIfInBounds_toArray, List.set_cons_zero, List.set_cons_succ]
          refine takeOut 10 93 rfl rfl (by kernel_rfl) (by kernel_rfl) (by kernel_rfl) (fun _ _ _ h => h) hHeld (by rfl) ?_
          try simp only [Act.put, List.setIfInBounds_toArray, List.set_cons_zero, List.set_cons_succ]
          refine takeOut 11 94 rfl rfl (by kernel_rfl) (by kernel_rfl) (by kernel_rfl) (fun _ _ _ h => h) hHeld (by rfl) ?_
          try simp only [Act.put, List.setIfInBounds_toArray, List.set_cons_zero, List.set_cons_succ]
          refine takeOut 12 95 rfl rfl (by kernel_rfl) (by kernel_rfl) (by kernel_rfl) (fun _ _ _ h => h) hHeld (by rfl) ?_
          try simp only [Act.put, List.setIfInBounds_toArray, List.set_cons_zero, List.set_cons_succ]
          refine takeOut 13 96 rfl rfl (by kernel_rfl) (by kernel_rfl) (by kernel_rfl) (fun _ _ _ h => h) hHeld (by rfl) ?_
          try simp only [Act.put, List.setIfInBounds_toArray, List.set_cons_zero, List.set_cons_succ]
          refine takeOut 14 97 rfl rfl (by kernel_rfl) (by kernel_rfl) (by kernel_rfl) (fun _ _ _ h => h) hHeld (by rfl) ?_
          try simp only [Act.put, List.setIfInBounds_toArray, List.set_cons_zero, List.set_cons_succ]
          refine takeOut 15 98 rfl rfl (by kernel_rfl) (by kernel_rfl) (by kernel_rfl) (fun _ _ _ h => h) hHeld (by rfl) ?_
          try simp only [Act.put, List.setIfInBounds_toArray, List.set_cons_zero, List.set_cons_succ]
          refine takeOut 16 99 rfl rfl (by kernel_rfl) (by kernel_rfl) (by kernel_rfl) (fun _ _ _ h => h) hHeld (by rfl) ?_
          try simp only [Act.put, List.setIfInBounds_toArray, List.set_cons_zero, List.set_cons_succ]
          refine takeOut 17 100 rfl rfl (by kernel_rfl) (by kernel_rfl) (by kernel_rfl) (fun _ _ _ h => h) hHeld (by rfl) ?_
          try simp only [Act.put, List.setIfInBounds_toArray, List.set_cons_zero, List.set_cons_succ]
          refine takeOut 18 101 rfl rfl (by kernel_rfl) (by kernel_rfl) (by kernel_rfl) (fun _ _ _ h => h) hHeld (by rfl) ?_
          try simp only [Act.put, List.setIfInBounds_toArray, List.set_cons_zero, List.set_cons_succ]
          refine takeOut 19 102 rfl rfl (by kernel_rfl) (by kernel_rfl) (by kernel_rfl) (fun _ _ _ h => h) hHeld (by rfl) ?_
          try simp only [Act.put, List.setIfInBounds_toArray, List.set_cons_zero, List.set_cons_succ]
          refine takeOut 20 103 rfl rfl (by kernel_rfl) (by kernel_rfl) (by kernel_rfl) (fun _ _ _ h => h) hHeld (by rfl) ?_
          try simp only [Act.put, List.setIfInBounds_toArray, List.set_cons_zero, List.set_cons_succ]
          refine takeOut 21 104 rfl rfl (by kernel_rfl) (by kernel_rfl) (by kernel_rfl) (fun _ _ _ h => h) hHeld (by rfl) ?_
          try simp only [Act.put, List.setIfInBounds_toArray, List.set_cons_zero, List.set_cons_succ]
          refine takeOut 22 105 rfl rfl (by kernel_rfl) (by kernel_rfl) (by kernel_rfl) (fun _ _ _ h => h) hHeld (by rfl) ?_
          try simp only [Act.put, List.setIfInBounds_toArray, List.set_cons_zero, List.set_cons_succ]
          refine takeIn (v := ?_) 23 106 rfl rfl (by kernel_rfl) (by kernel_rfl) (by kernel_rfl) (fun _ _ _ h => h) hHeld (by rfl) ?_ ?_
          rotate_left
          · (intro w' hSw; (try dsimp only at hSw); go_simp) <;> with_reducible rfl
          try simp only [Act.put, List.setIfInBounds_toArray, List.set_cons_zero, List.set_cons_succ]
          refine takeIn (v := ?_) 24 107 rfl rfl (by kernel_rfl) (by kernel_rfl) (by kernel_rfl) (fun _ _ _ h => h) hHeld (by rfl) ?_ ?_
          rotate_left
          · (intro w' hSw; (try dsimp only at hSw); go_simp) <;> with_reducible rfl
          try simp only [Act.put, List.setIfInBounds_toArray, List.set_cons_zero, List.set_cons_succ]
          refine takeIn (v := ?_) 25 108 rfl rfl (by kernel_rfl) (by kernel_rfl) (by kernel_rfl) (fun _ _ _ h => h) hHeld (by rfl) ?_ ?_
          rotate_left
          · (intro w' hSw; (try dsimp only at hSw); go_simp) <;> with_reducible rfl
          try simp only [Act.put, List.setIfInBounds_toArray, List.set_cons_zero, List.set_cons_succ]
          refine takeIn (v := ?_) 26 109 rfl rfl (by kernel_rfl) (by kernel_rfl) (by kernel_rfl) (fun _ _ _ h => h) hHeld (by rfl) ?_ ?_
          rotate_left
          · (intro w' hSw; (try dsimp only at hSw); go_simp) <;> with_reducible rfl
          try simp only [Act.put, List.setIfInBounds_toArray, List.set_cons_zero, List.set_cons_succ]
          refine takeIn (v := ?_) 27 110 rfl rfl (by kernel_rfl) (by kernel_rfl) (by kernel_rfl) (fun _ _ _ h => h) hHeld (by rfl) ?_ ?_
          rotate_left
          · (intro w' hSw; (try dsimp only at hSw); go_simp) <;> with_reducible rfl
          try simp only [Act.put, List.setIfInBounds_toArray, List.set_cons_zero, List.set_cons_succ]
          refine takeIn (v := ?_) 28 111 rfl rfl (by kernel_rfl) (by kernel_rfl) (by kernel_rfl) (fun _ _ _ h => h) hHeld (by rfl) ?_ ?_
          rotate_left
          · (intro w' hSw; (try dsimp only at hSw); go_simp) <;> with_reducible rfl
          try simp only [Act.put, List.setIfInBounds_toArray, List.set_cons_zero, List.set_cons_succ]
          refine takeIn (v := ?_) 29 112 rfl rfl (by kernel_rfl) (by kernel_rfl) (by kernel_rfl) (fun _ _ _ h => h) hHeld (by rfl) ?_ ?_
          rotate_left
          · (intro w' hSw; (try dsimp only at hSw); go_simp) <;> with_reducible rfl
          try simp only [Act.put, List.setIfInBounds_toArray, List.set_cons_zero, List.set_cons_succ]
          refine takeIn (v := ?_) 30 113 rfl rfl (by kernel_rfl) (by kernel_rfl) (by kernel_rfl) (fun _ _ _ h => h) hHeld (by rfl) ?_ ?_
          rotate_left
          · (intro w' hSw; (try dsimp only at hSw); go_simp) <;> with_reducible rfl
          try simp only [Act.put, List.setIfInBounds_toArray, List.set_cons_zero, List.set_cons_succ]
          refine takeIn (v := ?_) 31 114 rfl rfl (by kernel_rfl) (by kernel_rfl) (by kernel_rfl) (fun _ _ _ h => h) hHeld (by rfl) ?_ ?_
          rotate_left
          · (intro w' hSw; (try dsimp only at hSw); go_simp) <;> with_reducible rfl
          try simp only [Act.put, List.setIfInBounds_toArray, List.set_cons_zero, List.set_cons_succ]
          refine takeIn (v := ?_) 32 115 rfl rfl (by kernel_rfl) (by kernel_rfl) (by kernel_rfl) (fun _ _ _ h => h) hHeld (by rfl) ?_ ?_
          rotate_left
          · (intro w' hSw; (try dsimp only at hSw); go_simp) <;> with_reducible rfl
          try simp only [Act.put, List.setIfInBounds_toArray, List.set_cons_zero, List.set_cons_succ]
          refine takeIn (v := ?_) 33 116 rfl rfl (by kernel_rfl) (by kernel_rfl) (by kernel_rfl) (fun _ _ _ h => h) hHeld (by rfl) ?_ ?_
          rotate_left
          · (intro w' hSw; (try dsimp only at hSw); go_simp) <;> with_reducible rfl
          try simp only [Act.put, List.setIfInBounds_toArray, List.set_cons_zero, List.set_cons_succ]
          refine takeIn (v := ?_) 34 117 rfl rfl (by kernel_rfl) (by kernel_rfl) (by kernel_rfl) (fun _ _ _ h => h) hHeld (by rfl) ?_ ?_
          rotate_left
          · (intro w' hSw; (try dsimp only at hSw); go_simp) <;> with_reducible rfl
          try simp only [Act.put, List.setIfInBounds_toArray, List.set_cons_zero, List.set_cons_succ]
          refine takeIn (v := ?_) 35 118 rfl rfl (by kernel_rfl) (by kernel_rfl) (by kernel_rfl) (fun _ _ _ h => h) hHeld (by rfl) ?_ ?_
          rotate_left
          · (intro w' hSw; (try dsimp only at hSw); go_simp) <;> with_reducible rfl
          try simp only [Act.put, List.setIfInBounds_toArray, List.set_cons_zero, List.set_cons_succ]
          refine takeIn (v := ?_) 36 119 rfl rfl (by kernel_rfl) (by kernel_rfl) (by kernel_rfl) (fun _ _ _ h => h) hHeld (by rfl) ?_ ?_
          rotate_left
          · (intro w' hSw; (try dsimp only at hSw); go_simp) <;> with_reducible rfl
          try simp only [Act.put, List.setIfInBounds_toArray, List.set_cons_zero, List.set_cons_succ]
          refine takeIn (v := ?_) 37 120 rfl rfl (by kernel_rfl) (by kernel_rfl) (by kernel_rfl) (fun _ _ _ h => h) hHeld (by rfl) ?_ ?_
          rotate_left
          · (intro w' hSw; (try dsimp only at hSw); go_simp) <;> with_reducible rfl
          try simp only [Act.put, List.setIfInBounds_toArray, List.set_cons_zero, List.set_cons_succ]
          refine takeIn (v := ?_) 38 121 rfl rfl (by kernel_rfl) (by kernel_rfl) (by kernel_rfl) (fun _ _ _ h => h) hHeld (by rfl) ?_ ?_
          rotate_left
          · (intro w' hSw; (try dsimp only at hSw); go_simp) <;> with_reducible rfl
          try simp only [Act.put, List.setIfInBounds_toArray, List.set_cons_zero, List.set_cons_succ]
          refine takeIn (v := ?_) 39 122 rfl rfl (by kernel_rfl) (by kernel_rfl) (by kernel_rfl) (fun _ _ _ h => h) hHeld (by rfl) ?_ ?_
          rotate_left
          · (intro w' hSw; (try dsimp only at hSw); go_simp) <;> with_reducible rfl
          try simp only [Act.put, List.setIfInBounds_toArray, List.set_cons_zero, List.set_cons_succ]
          refine takeIn (v := ?_) 40 123 rfl rfl (by kernel_rfl) (by kernel_rfl) (by kernel_rfl) (fun _ _ _ h => h) hHeld (by rfl) ?_ ?_
          rotate_left
          · (intro w' hSw; (try dsimp only at hSw); go_simp) <;> with_reducible rfl
          try simp only [Act.put, List.setIfInBounds_toArray, List.set_cons_zero, List.set_cons_succ]
          refine takeIn (v := ?_) 41 124 rfl rfl (by kernel_rfl) (by kernel_rfl) (by kernel_rfl) (fun _ _ _ h => h) hHeld (by rfl) ?_ ?_
          rotate_left
          · (intro w' hSw; (try dsimp only at hSw); go_simp) <;> with_reducible rfl
          try simp only [Act.put, List.setIfInBounds_toArray, List.set_cons_zero, List.set_cons_succ]
          refine takeIn (v := ?_) 42 125 rfl rfl (by kernel_rfl) (by kernel_rfl) (by kernel_rfl) (fun _ _ _ h => h) hHeld (by rfl) ?_ ?_
          rotate_left
          · (intro w' hSw; (try dsimp only at hSw); go_simp) <;> with_reducible rfl
          try simp only [Act.put, List.setIfInBounds_toArray, List.set_cons_zero, List.set_cons_succ]
          refine takeIn (v := ?_) 43 126 rfl rfl (by kernel_rfl) (by kernel_rfl) (by kernel_rfl) (fun _ _ _ h => h) hHeld (by rfl) ?_ ?_
          rotate_left
          · (intro w' hSw; (try dsimp only at hSw); go_simp) <;> with_reducible rfl
          try simp only [Act.put, List.setIfInBounds_toArray, List.set_cons_zero, List.set_cons_succ]
          refine takeIn (v := ?_) 44 127 rfl rfl (by kernel_rfl) (by kernel_rfl) (by kernel_rfl) (fun _ _ _ h => h) hHeld (by rfl) ?_ ?_
          rotate_left
          · (intro w' hSw; (try dsimp only at hSw); go_simp) <;> with_reducible rfl
          try simp only [Act.put, List.setIfInBounds_toArray, List.set_cons_zero, List.set_cons_succ]
          refine callIn (f := 15) (args := #[.agg #[vc, vr, ve, vp], .string q.ke, aggN g]) 45 128 rfl rfl (by kernel_rfl) (by rfl) (by go_simp) ?_
          clear hHeld
          refine (HU1.out _ HB9.out).mono ?_
          rintro e w9 ⟨rfl, hb9⟩
          replace HB9 := Lib.hid (HB9.out.thru hb9)
          clear hb9
          have hHeld : w9.cell? ⟨N, 0, none⟩ = some (.int .i64 g.ti) ∧ w9.cell? ⟨N, 1, none⟩ = some (.int .i64 g.ve) ∧ w9.cell? ⟨N, 2, none⟩ = some (.int .i64 g.bo) ∧ w9.cell? ⟨N, 3, none⟩ = some (.string g.fr) ∧ w9.cell? ⟨N, 4, none⟩ = some (.int .i64 g.ho) ∧ w9.cell? ⟨b', off' + kk * 3, none⟩ = some (.int .i64 q.ti) ∧ w9.cell? ⟨b', off' + kk * 3 + 2, none⟩ = some (.string q.ke) ∧ w9.cell? ⟨D0, 0, none⟩ = some vc ∧ w9.cell? ⟨D0, 1, none⟩ = some vr ∧ w9.cell? ⟨D0, 2, none⟩ = some ve ∧ w9.cell? ⟨D0, 3, none⟩ = some vp := HC.out _ HB9.out
          refine ⟨_, rfl, hHeld, ?_⟩
          try simp only [Act.put, List.setIfInBounds_toArray, List.set_cons_zero, List.set_cons_succ]
          refine takeIn (v := ?_) 46 129 rfl rfl (by kernel_rfl) (by kernel_rfl) (by kernel_rfl) (fun _ _ _ h => h) hHeld (by rfl) ?_ ?_
          rotate_left
          · (intro w' hSw; (try dsimp only at hSw); go_simp) <;> with_reducible rfl
          try simp only [Act.put, List.setIfInBounds_toArray, List.set_cons_zero, List.set_cons_succ]
          refine takeIn (v := ?_) 47 130 rfl rfl (by kernel_rfl) (by kernel_rfl) (by kernel_rfl) (fun _ _ _ h => h) hHeld (by rfl) ?_ ?_
          rotate_left
          · (intro w' hSw; (try dsimp only at hSw); go_simp) <;> with_reducible rfl
          try simp only [Act.put, List.setIfInBounds_toArray, List.set_cons_zero, List.set_cons_succ]
          refine takeIn (v := ?_) 48 131 rfl rfl (by kernel_rfl) (by kernel_rfl) (by kernel_rfl) (fun _ _ _ h => h) hHeld (by rfl) ?_ ?_
          rotate_left
          · (intro w' hSw; (try dsimp only at hSw); go_simp) <;> with_reducible rfl
          try simp only [Act.put, List.setIfInBounds_toArray, List.set_cons_zero, List.set_cons_succ]
          refine takeIn (v := ?_) 49 132 rfl rfl (by kernel_rfl) (by kernel_rfl) (by kernel_rfl) (fun _ _ _ h => h) hHeld (by rfl) ?_ ?_
          rotate_left
          · (intro w' hSw; (try dsimp only at hSw); go_simp) <;> with_reducible rfl
          try simp only [Act.put, List.setIfInBounds_toArray, List.set_cons_zero, List.set_cons_succ]
          refine wpAnyH_done (by kernel_rfl) ?_ _
          clear hHeld
          go_wp2_with fail
          go_roundg (L.length - (kk + 1))
          case measure => omega
          case rel => exact ⟨kk + 1, by omega, by omega, by go_num, HBW.out.trans (HB9.out.mono HBW.out.size)⟩
        · have b1 : (g.ho == 1) = false := by simpa using e1
          have b2 : (g.ho == 2) = false := by simpa using e0
          clear e0 e1
          refine wp_region_held_drew (S := fun W => W.cell? ⟨N, 0, none⟩ = some (.int .i64 g.ti) ∧ W.cell? ⟨N, 1, none⟩ = some (.int .i64 g.ve) ∧ W.cell? ⟨N, 2, none⟩ = some (.int .i64 g.bo) ∧ W.cell? ⟨N, 3, none⟩ = some (.string g.fr) ∧ W.cell? ⟨N, 4, none⟩ = some (.int .i64 g.ho) ∧ W.cell? ⟨b', off' + kk * 3, none⟩ = some (.int .i64 q.ti) ∧ W.cell? ⟨b', off' + kk * 3 + 2, none⟩ = some (.string q.ke) ∧ W.cell? ⟨D0, 0, none⟩ = some vc ∧ W.cell? ⟨D0, 1, none⟩ = some vr ∧ W.cell? ⟨D0, 2, none⟩ = some ve ∧ W.cell? ⟨D0, 3, none⟩ = some vp) (by kernel_rfl) (by exact HC.out _ HQ0) (fun hHeld => ?_)
          have HB9 := Lib.hid HQ0
          clear HQ0
          refine takeIn (v := ?_) 0 83 rfl rfl (by kernel_rfl) (by kernel_rfl) (by kernel_rfl) (fun _ _ _ h => h) hHeld (by rfl) ?_ ?_
          rotate_left
          · (intro w' hSw; (try dsimp only at hSw); go_simp) <;> with_reducible rfl
          try simp only [Act.put, List.setIfInBounds_toArray, List.set_cons_zero, List.set_cons_succ]
          refine takeIn (v := ?_) 1 84 rfl rfl (by kernel_rfl) (by kernel_rfl) (by kernel_rfl) (fun _ _ _ h => h) hHeld (by rfl) ?_ ?_
          rotate_left
          · (intro w' hSw; (try dsimp only at hSw); go_simp) <;> with_reducible rfl
          try simp only [Act.put, List.setIfInBounds_toArray, List.set_cons_zero, List.set_cons_succ]
          refine takeIn (v := ?_) 2 85 rfl rfl (by kernel_rfl) (by kernel_rfl) (by kernel_rfl) (fun _ _ _ h => h) hHeld (by rfl) ?_ ?_
          rotate_left
          · (intro w' hSw; (try dsimp only at hSw); go_simp) <;> with_reducible rfl
          try simp only [Act.put, List.setIfInBounds_toArray, List.set_cons_zero, List.set_cons_succ]
          refine takeIn (v := ?_) 3 86 rfl rfl (by kernel_rfl) (by kernel_rfl) (by kernel_rfl) (fun _ _ _ h => h) hHeld (by rfl) ?_ ?_
          rotate_left
          · (intro w' hSw; (try dsimp only at hSw); go_simp) <;> with_reducible rfl
          try simp only [Act.put, List.setIfInBounds_toArray, List.set_cons_zero, List.set_cons_succ]
          refine takeOut 4 87 rfl rfl (by kernel_rfl) (by kernel_rfl) (by kernel_rfl) (fun _ _ _ h => h) hHeld (by rfl) ?_
          try simp only [Act.put, List.setIfInBounds_toArray, List.set_cons_zero, List.set_cons_succ]
          refine takeOut 5 88 rfl rfl (by kernel_rfl) (by kernel_rfl) (by kernel_rfl) (fun _ _ _ h => h) hHeld (by rfl) ?_
          try simp only [Act.put, List.setIfInBounds_toArray, List.set_cons_zero, List.set_cons_succ]
          refine takeOut 6 89 rfl rfl (by kernel_rfl) (by kernel_rfl) (by kernel_rfl) (fun _ _ _ h => h) hHeld (by rfl) ?_
          try simp only [Act.put, List.setIfInBounds_toArray, List.set_cons_zero, List.set_cons_succ]
          refine takeOut 7 90 rfl rfl (by kernel_rfl) (by kernel_rfl) (by kernel_rfl) (fun _ _ _ h => h) hHeld (by rfl) ?_
          try simp only [Act.put, List.setIfInBounds_toArray, List.set_cons_zero, List.set_cons_succ]
          refine takeOut 8 91 rfl rfl (by kernel_rfl) (by kernel_rfl) (by kernel_rfl) (fun _ _ _ h => h) hHeld (by rfl) ?_
          try simp only [Act.put, List.setIfInBounds_toArray, List.set_cons_zero, List.set_cons_succ]
          refine takeOut 9 92 rfl rfl (by kernel_rfl) (by kernel_rfl) (by kernel_rfl) (fun _ _ _ h => h) hHeld (by rfl) ?_
          try simp only [Act.put, List.setIfInBounds_toArray, List.set_cons_zero, List.set_cons_succ]
          refine takeOut 10 93 rfl rfl (by kernel_rfl) (by kernel_rfl) (by kernel_rfl) (fun _ _ _ h => h) hHeld (by rfl) ?_
          try simp only [Act.put, List.setIfInBounds_toArray, List.set_cons_zero, List.set_cons_succ]
          refine takeOut 11 94 rfl rfl (by kernel_rfl) (by kernel_rfl) (by kernel_rfl) (fun _ _ _ h => h) hHeld (by rfl) ?_
          try simp only [Act.put, List.setIfInBounds_toArray, List.set_cons_zero, List.set_cons_succ]
          refine takeOut 12 95 rfl rfl (by kernel_rfl) (by kernel_rfl) (by kernel_rfl) (fun _ _ _ h => h) hHeld (by rfl) ?_
          try simp only [Act.put, List.setIfInBounds_toArray, List.set_cons_zero, List.set_cons_succ]
          refine takeOut 13 96 rfl rfl (by kernel_rfl) (by kernel_rfl) (by kernel_rfl) (fun _ _ _ h => h) hHeld (by rfl) ?_
          try simp only [Act.put, List.setIfInBounds_toArray, List.set_cons_zero, List.set_cons_succ]
          refine takeOut 14 97 rfl rfl (by kernel_rfl) (by kernel_rfl) (by kernel_rfl) (fun _ _ _ h => h) hHeld (by rfl) ?_
          try simp only [Act.put, List.setIfInBounds_toArray, List.set_cons_zero, List.set_cons_succ]
          refine takeOut 15 98 rfl rfl (by kernel_rfl) (by kernel_rfl) (by kernel_rfl) (fun _ _ _ h => h) hHeld (by rfl) ?_
          try simp only [Act.put, List.setIfInBounds_toArray, List.set_cons_zero, List.set_cons_succ]
          refine takeOut 16 99 rfl rfl (by kernel_rfl) (by kernel_rfl) (by kernel_rfl) (fun _ _ _ h => h) hHeld (by rfl) ?_
          try simp only [Act.put, List.setIfInBounds_toArray, List.set_cons_zero, List.set_cons_succ]
          refine takeOut 17 100 rfl rfl (by kernel_rfl) (by kernel_rfl) (by kernel_rfl) (fun _ _ _ h => h) hHeld (by rfl) ?_
          try simp only [Act.put, List.setIfInBounds_toArray, List.set_cons_zero, List.set_cons_succ]
          refine takeOut 18 101 rfl rfl (by kernel_rfl) (by kernel_rfl) (by kernel_rfl) (fun _ _ _ h => h) hHeld (by rfl) ?_
          try simp only [Act.put, List.setIfInBounds_toArray, List.set_cons_zero, List.set_cons_succ]
          refine takeOut 19 102 rfl rfl (by kernel_rfl) (by kernel_rfl) (by kernel_rfl) (fun _ _ _ h => h) hHeld (by rfl) ?_
          try simp only [Act.put, List.setIfInBounds_toArray, List.set_cons_zero, List.set_cons_succ]
          refine takeOut 20 103 rfl rfl (by kernel_rfl) (by kernel_rfl) (by kernel_rfl) (fun _ _ _ h => h) hHeld (by rfl) ?_
          try simp only [Act.put, List.setIfInBounds_toArray, List.set_cons_zero, List.set_cons_succ]
          refine takeOut 21 104 rfl rfl (by kernel_rfl) (by kernel_rfl) (by kernel_rfl) (fun _ _ _ h => h) hHeld (by rfl) ?_
          try simp only [Act.put, List.setIfInBounds_toArray, List.set_cons_zero, List.set_cons_succ]
          refine takeOut 22 105 rfl rfl (by kernel_rfl) (by kernel_rfl) (by kernel_rfl) (fun _ _ _ h => h) hHeld (by rfl) ?_
          try simp only [Act.put, List.setIfInBounds_toArray, List.set_cons_zero, List.set_cons_succ]
          refine takeIn (v := ?_) 23 106 rfl rfl (by kernel_rfl) (by kernel_rfl) (by kernel_rfl) (fun _ _ _ h => h) hHeld (by rfl) ?_ ?_
          rotate_left
          · (intro w' hSw; (try dsimp only at hSw); go_simp) <;> with_reducible rfl
          try simp only [Act.put, List.setIfInBounds_toArray, List.set_cons_zero, List.set_cons_succ]
          refine takeIn (v := ?_) 24 107 rfl rfl (by kernel_rfl) (by kernel_rfl) (by kernel_rfl) (fun _ _ _ h => h) hHeld (by rfl) ?_ ?_
          rotate_left
          · (intro w' hSw; (try dsimp only at hSw); go_simp) <;> with_reducible rfl
          try simp only [Act.put, List.setIfInBounds_toArray, List.set_cons_zero, List.set_cons_succ]
          refine takeIn (v := ?_) 25 108 rfl rfl (by kernel_rfl) (by kernel_rfl) (by kernel_rfl) (fun _ _ _ h => h) hHeld (by rfl) ?_ ?_
          rotate_left
          · (intro w' hSw; (try dsimp only at hSw); go_simp) <;> with_reducible rfl
          try simp only [Act.put, List.setIfInBounds_toArray, List.set_cons_zero, List.set_cons_succ]
          refine takeIn (v := ?_) 26 109 rfl rfl (by kernel_rfl) (by kernel_rfl) (by kernel_rfl) (fun _ _ _ h => h) hHeld (by rfl) ?_ ?_
          rotate_left
          · (intro w' hSw; (try dsimp only at hSw); go_simp) <;> with_reducible rfl
          try simp only [Act.put, List.setIfInBounds_toArray, List.set_cons_zero, List.set_cons_succ]
          refine takeIn (v := ?_) 27 110 rfl rfl (by kernel_rfl) (by kernel_rfl) (by kernel_rfl) (fun _ _ _ h => h) hHeld (by rfl) ?_ ?_
          rotate_left
          · (intro w' hSw; (try dsimp only at hSw); go_simp) <;> with_reducible rfl
          try simp only [Act.put, List.setIfInBounds_toArray, List.set_cons_zero, List.set_cons_succ]
          refine takeIn (v := ?_) 28 111 rfl rfl (by kernel_rfl) (by kernel_rfl) (by kernel_rfl) (fun _ _ _ h => h) hHeld (by rfl) ?_ ?_
          rotate_left
          · (intro w' hSw; (try dsimp only at hSw); go_simp) <;> with_reducible rfl
          try simp only [Act.put, List.setIfInBounds_toArray, List.set_cons_zero, List.set_cons_succ]
          refine takeOut 29 112 rfl rfl (by kernel_rfl) (by kernel_rfl) (by kernel_rfl) (fun _ _ _ h => h) hHeld (by rfl) ?_
          try simp only [Act.put, List.setIfInBounds_toArray, List.set_cons_zero, List.set_cons_succ]
          refine takeOut 30 113 rfl rfl (by kernel_rfl) (by kernel_rfl) (by kernel_rfl) (fun _ _ _ h => h) hHeld (by rfl) ?_
          try simp only [Act.put, List.setIfInBounds_toArray, List.set_cons_zero, List.set_cons_succ]
          refine takeOut 31 114 rfl rfl (by kernel_rfl) (by kernel_rfl) (by kernel_rfl) (fun _ _ _ h => h) hHeld (by rfl) ?_
          try simp only [Act.put, List.setIfInBounds_toArray, List.set_cons_zero, List.set_cons_succ]
          refine takeOut 32 115 rfl rfl (by kernel_rfl) (by kernel_rfl) (by kernel_rfl) (fun _ _ _ h => h) hHeld (by rfl) ?_
          try simp only [Act.put, List.setIfInBounds_toArray, List.set_cons_zero, List.set_cons_succ]
          refine takeOut 33 116 rfl rfl (by kernel_rfl) (by kernel_rfl) (by kernel_rfl) (fun _ _ _ h => h) hHeld (by rfl) ?_
          try simp only [Act.put, List.setIfInBounds_toArray, List.set_cons_zero, List.set_cons_succ]
          refine takeOut 34 117 rfl rfl (by kernel_rfl) (by kernel_rfl) (by kernel_rfl) (fun _ _ _ h => h) hHeld (by rfl) ?_
          try simp only [Act.put, List.setIfInBounds_toArray, List.set_cons_zero, List.set_cons_succ]
          refine takeOut 35 118 rfl rfl (by kernel_rfl) (by kernel_rfl) (by kernel_rfl) (fun _ _ _ h => h) hHeld (by rfl) ?_
          try simp only [Act.put, List.setIfInBounds_toArray, List.set_cons_zero, List.set_cons_succ]
          refine takeOut 36 119 rfl rfl (by kernel_rfl) (by kernel_rfl) (by kernel_rfl) (fun _ _ _ h => h) hHeld (by rfl) ?_
          try simp only [Act.put, List.setIfInBounds_toArray, List.set_cons_zero, List.set_cons_succ]
          refine takeOut 37 120 rfl rfl (by kernel_rfl) (by kernel_rfl) (by kernel_rfl) (fun _ _ _ h => h) hHeld (by rfl) ?_
          try simp only [Act.put, List.setIfInBounds_toArray, List.set_cons_zero, List.set_cons_succ]
          refine takeOut 38 121 rfl rfl (by kernel_rfl) (by kernel_rfl) (by kernel_rfl) (fun _ _ _ h => h) hHeld (by rfl) ?_
          try simp only [Act.put, List.setIfInBounds_toArray, List.set_cons_zero, List.set_cons_succ]
          refine takeOut 39 122 rfl rfl (by kernel_rfl) (by kernel_rfl) (by kernel_rfl) (fun _ _ _ h => h) hHeld (by rfl) ?_
          try simp only [Act.put, List.setIfInBounds_toArray, List.set_cons_zero, List.set_cons_succ]
          refine takeOut 40 123 rfl rfl (by kernel_rfl) (by kernel_rfl) (by kernel_rfl) (fun _ _ _ h => h) hHeld (by rfl) ?_
          try simp only [Act.put, List.setIfInBounds_toArray, List.set_cons_zero, List.set_cons_succ]
          refine takeOut 41 124 rfl rfl (by kernel_rfl) (by kernel_rfl) (by kernel_rfl) (fun _ _ _ h => h) hHeld (by rfl) ?_
          try simp only [Act.put, List.setIfInBounds_toArray, List.set_cons_zero, List.set_cons_succ]
          refine takeOut 42 125 rfl rfl (by kernel_rfl) (by kernel_rfl) (by kernel_rfl) (fun _ _ _ h => h) hHeld (by rfl) ?_
          try simp only [Act.put, List.setIfInBounds_toArray, List.set_cons_zero, List.set_cons_succ]
          refine takeOut 43 126 rfl rfl (by kernel_rfl) (by kernel_rfl) (by kernel_rfl) (fun _ _ _ h => h) hHeld (by rfl) ?_
          try simp only [Act.put, List.setIfInBounds_toArray, List.set_cons_zero, List.set_cons_succ]
          refine takeOut 44 127 rfl rfl (by kernel_rfl) (by kernel_rfl) (by kernel_rfl) (fun _ _ _ h => h) hHeld (by rfl) ?_
          try simp only [Act.put, List.setIfInBounds_toArray, List.set_cons_zero, List.set_cons_succ]
          refine takeOut 45 128 rfl rfl (by kernel_rfl) (by kernel_rfl) (by kernel_rfl) (fun _ _ _ h => h) hHeld (by rfl) ?_
          try simp only [Act.put, List.setIfInBounds_toArray, List.set_cons_zero, List.set_cons_succ]
          refine takeOut 46 129 rfl rfl (by kernel_rfl) (by kernel_rfl) (by kernel_rfl) (fun _ _ _ h => h) hHeld (by rfl) ?_
          try simp only [Act.put, List.setIfInBounds_toArray, List.set_cons_zero, List.set_cons_succ]
          refine takeOut 47 130 rfl rfl (by kernel_rfl) (by kernel_rfl) (by kernel_rfl) (fun _ _ _ h => h) hHeld (by rfl) ?_
          try simp only [Act.put, List.setIfInBounds_toArray, List.set_cons_zero, List.set_cons_succ]
          refine takeIn (v := ?_) 48 131 rfl rfl (by kernel_rfl) (by kernel_rfl) (by kernel_rfl) (fun _ _ _ h => h) hHeld (by rfl) ?_ ?_
          rotate_left
          · (intro w' hSw; (try dsimp only at hSw); go_simp) <;> with_reducible rfl
          try simp only [Act.put, List.setIfInBounds_toArray, List.set_cons_zero, List.set_cons_succ]
          refine takeIn (v := ?_) 49 132 rfl rfl (by kernel_rfl) (by kernel_rfl) (by kernel_rfl) (fun _ _ _ h => h) hHeld (by rfl) ?_ ?_
          rotate_left
          · (intro w' hSw; (try dsimp only at hSw); go_simp) <;> with_reducible rfl
          try simp only [Act.put, List.setIfInBounds_toArray, List.set_cons_zero, List.set_cons_succ]
          refine wpAnyH_done (by kernel_rfl) ?_ _
          clear hHeld
          go_wp2_with fail
          go_roundg (L.length - (kk + 1))
          case measure => omega
          case rel => exact ⟨kk + 1, by omega, by omega, by go_num, HBW.out.trans (HB9.out.mono HBW.out.size)⟩
    · obtain rfl : kk = L.length := by omega
      have hltz : ¬ (L.length : Int) < (L.length : Int) := by omega
      go_wp2_with fail
      go_ret
      exact ⟨rfl, HB2.out.thru HBr.out⟩
end Go.Proofs.YtgohddfnhofjhaaGreatDoor

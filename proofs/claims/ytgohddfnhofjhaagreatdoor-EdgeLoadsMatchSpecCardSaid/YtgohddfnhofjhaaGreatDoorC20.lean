/- The day as the document tells it: all answers are right, step for step. -/
import Derived.Test.YtgohddfnhofjhaaGreatDoorC13
import Derived.Test.YtgohddfnhofjhaaGreatDoorC19
import Derived.Test.YtgohddfnhofjhaaGreatDoorC16
import Derived.Test.YtgohddfnhofjhaaGreatDoorC18
namespace Go.Proofs.YtgohddfnhofjhaaGreatDoor
open Go.RowKit
structure RunS (w : World) (B : Nat) (A : Adr) (P : List Pur) (L : List Gt) (I : Nat → Cfg → Prop) (k0 : Nat) (W : World) (k : Nat) (c : Cfg) : Prop where
 inv : I k c
 ex : ∃ A', PD W B A' c.D ∧ AdrLe A A' 0
 bel : Below B w W
 le : k ≤ k0
 due : c.m ≠ .out → (k < k0 ∨ due P L c)
theorem QCel {W : World} {B : Nat} {A : Adr} {D : Day} (h : PD W B A D) : ∃ ao cap, A.qv = .slice ao D.qu.length cap ∧ D.qu.length ≤ cap ∧ W.cell? ⟨A.q, 5, none⟩ = some (.slice ao D.qu.length cap) ∧
 (0 < D.qu.length → ∃ g, ao = some ⟨g, 0, none⟩ ∧ W.cell? ⟨g, 0, none⟩ = some (.int .i64 (hdE D).ti) ∧ W.cell? ⟨g, 1, none⟩ = some (.bool (hdE D).bk)) := by
 have ho := h.queue.own
 have hc := cellF h.qb.2 5 (v := A.qv) rfl
 by_cases hq : D.qu = []
 ·obtain ⟨ao, cap, hv, hcap, -, -, -⟩ := Sl.own (encE_len A.ab) ho
  refine ⟨ao, cap, hv, hcap, by rw [← hv]; exact hc, fun h0 => ?_⟩
  rw [hq] at h0
  exact absurd h0 (by simp)
 ·obtain ⟨g, cap, hv, h1, h2, h3, h4, h5, -⟩ := Own.getk (encE_len A.ab) ho hq
  refine ⟨_, cap, hv, h3, by rw [← hv]; exact hc, fun h0 => ⟨g, rfl, ?_, ?_⟩⟩
  ·have h := h5 0 (hdE D) 0 _ (hat_some h0) rfl
   simpa using h
  ·have h := h5 0 (hdE D) 1 _ (hat_some h0) rfl
   simpa using h
theorem pop_any (w : World) (B : Nat) (A : Adr) (D : Day) (n q : Nat) (he : q = A.q) (h : PD w B A D) (hF : Fit n D) (hn : n ≤ 800000) (hq : 0 < D.qu.length) :
 Calls Tryz.prog 69 #[.iface 135 (.pointer (some ⟨q, 5, none⟩))] w fun e w' => ∃ v', e = .returned (.iface 133 (.agg #[.int .i64 (hdE D).ti, .bool (hdE D).bk, .pointer (some ⟨A.ab (hdE D).ak, 0, none⟩), .int .i64 (hdE D).an.ve, .int .i64 (hdE D).an.bo, .int .i64 (hdE D).an.si, .bool (hdE D).an.no, .string (hdE D).an.fr])) ∧ PD w' B { A with qv := v' } D.popD ∧ Below B w w' := by
 subst he
 have H := heapPop_any w A.q B A.ab D.K A.qv D.qu h.queue (Nat.le_trans hF.qu (by omega)) hq (fun y hy => h.askR (hF.num.qu y hy))
 rw [hpop_fst (List.length_pos_iff.1 hq)] at H
 exact H.mono fun e w' ⟨h1, v', h2, h3⟩ => ⟨v', h1, h.setQu h2 h3, h3.toBelow h.queue h.qb.1⟩
theorem RunS.turn {w W : World} {B : Nat} {A : Adr} {C : List Cch} {R : List Crl} {E : List Rel} {P : List Pur} {L : List Gt} {lim : Int} {I : Nat → Cfg → Prop} {k0 k : Nat} {c c' : Cfg} (h : RunS w B A P L I k0 W k c) (hI : RunInv C R E P L lim I) (hn : c.next C R E P L lim = some c') (hD : c'.D = c.D) : ∃ k', k' ≤ k ∧ RunS w B A P L I k0 W k' c' := by
 obtain ⟨k1, g1, g2, g3⟩ := due_step C R E P L lim hI h.inv h.le h.due hn
 obtain ⟨k2, e1, e2, e3⟩ := hI.step k c c' h.inv hn
 by_cases hk : k1 ≤ k
 ·exact ⟨k1, hk, g1, by rw [hD]; exact h.ex, h.bel, g2, fun _ => g3⟩
 ·refine ⟨k2, e2, e1, by rw [hD]; exact h.ex, h.bel, Nat.le_trans e2 h.le, fun _ => ?_⟩
  rcases g3 with g3 | g3
  ·exact .inl (by omega)
  ·exact .inr g3
theorem RunS.work {w W W' : World} {B : Nat} {A A' : Adr} {C : List Cch} {R : List Crl} {E : List Rel} {P : List Pur} {L : List Gt} {lim : Int} {I : Nat → Cfg → Prop} {k0 k : Nat} {c c' : Cfg} (h : RunS w B A P L I k0 W k c) (hI : RunInv C R E P L lim I) (hn : c.next C R E P L lim = some c') (hm : c'.m = c.m) (hp : PD W' B A' c'.D) (hl : AdrLe A A' 0) (hb : Below B w W') : ∃ k', k' < k ∧ RunS w B A P L I k0 W' k' c' := by
 obtain ⟨k2, e1, e2, e3⟩ := hI.step k c c' h.inv hn
 have e3 := e3 hm
 exact ⟨k2, e3, e1, ⟨A', hp, hl⟩, hb, by have := h.le; omega, fun _ => .inl (by have := h.le; omega)⟩
set_option maxRecDepth 100000 in
set_option maxHeartbeats 8000000 in
theorem run_any (w0 w : World) (B : Nat) (A : Adr) (D : Day) (C : List Cch) (R : List Crl) (E : List Rel) (P : List Pur) (L : List Gt) (vl : Value) (lim : Int) (I : Nat → Cfg → Prop) (k0 : Nat) (hI : RunInv C R E P L lim I) (h : PD w B A D) (h0 : I k0 ⟨.out, D, 0, 0⟩) (hE : EnvD w0 B A C R E P) (hw : Below w0.heap.size w0 w) (hL : Sl w0 3 encT vl L) (hl : 0 ≤ lim ∧ lim ≤ 1152921504606846976) (hP : P.length ≤ 1000 ∧ L.length ≤ 1000) (hPk : ∀ x, x ∈ P → x.ke.size ≤ 300) :
 Calls Tryz.prog 39 #[.pointer (some ⟨A.q, 0, none⟩), vl, .int .i64 lim] w fun e w' => ∃ A' k c, e = .returned (.tuple #[]) ∧ PD w' B A' c.D ∧ AdrLe A A' 0 ∧ Below B w w' ∧ I k c ∧ c.next C R E P L lim = none := by
 have HS0 : Hid (RunS w B A P L I k0 w k0 ⟨.out, D, 0, 0⟩) := Lib.hid ⟨h0, ⟨A, h, AdrLe.refl _ _⟩, Below.refl _ _, Nat.le_refl _, fun h => absurd rfl h⟩
 have HI := Lib.hid hI
 have HE := Lib.hid hE
 have HW0B : Hid (∀ W, Below B w W → Below w0.heap.size w0 W) := Lib.hid (fun W hb => hw.trans (hb.mono hE.le))
 have HLL := Lib.hid hL
 obtain ⟨al, capl, rfl, hcapl, -, -, hell⟩ := hL
 have HELL := Lib.hid hell
 have HEP := Lib.hid (show Sl w0 2 encG A.d3 P from hE.p)
 obtain ⟨ap, capp, hd3, hcapp, -, -, hepp⟩ := hE.p
 have HEPP := Lib.hid hepp
 have HD3 := Lib.hid hd3
 have HB0 : Hid (w0.heap.size ≤ B) := Lib.hid hE.le
 have hwl : IntKind.i64.wrap (lim + 1) = lim + 1 := IntWalk.i64_in _ (by omega)
 have HWL := Lib.hid hwl
 have HPK := Lib.hid hPk
 have hPl : P.length ≤ 9223372036854775807 := by omega
 have hLl : L.length ≤ 9223372036854775807 := by omega
 clear h h0 hE hw hell hepp hd3 hI hwl hPk
 go_enter Tryz.func39, Tryz.ntmps39
 go_wp2_with fail
 go_loopg [6, 7, 8, 10, 11, 12, 13] k0 (fun gg s6 s7 s8 s10 s11 s12 s13 wr => ∃ (k : Nat) (D : Day) (g p : Nat), k ≤ gg ∧ s6 = .int .i64 (g : Nat) ∧ s7 = .int .i64 (p : Nat) ∧ Aside (RunS w B A P L I k wr k ⟨.out, D, g, p⟩))
 case atStart => exact ⟨k0, D, 0, 0, Nat.le_refl _, rfl, rfl, (show Aside _ from HS0.out)⟩
 case round =>
  obtain ⟨wq, rfl⟩ : ∃ wq : World, wq = wr := ⟨_, rfl⟩
  obtain ⟨k, D, g, p, hgk, rfl, rfl, RS⟩ := hrel
  obtain ⟨A', hp0, hl0⟩ := RS.out.ex
  obtain ⟨hg0, hp0', -⟩ := HI.out.pos _ _ RS.out.inv
  dsimp only at hg0 hp0'
  obtain ⟨ao, qc, hqv, hqc, q5, hq1⟩ := QCel hp0
  have hqb := hp0.qb.2
  have eq : A'.q = A.q := hl0.q
  rw [eq] at q5 hqb
  have q3 : wq.cell? ⟨A.q, 3, none⟩ = some (.slice ap P.length capp) := by rw [← HD3.out, ← hl0.d3]; exact cellF hqb 3 rfl
  have HRS := Lib.hid RS.out
  have HP0 := Lib.hid hp0
  have HL0 := Lib.hid hl0
  have HQB := Lib.hid hqb
  have HGKO := Lib.hid hgk
  have HBW := Lib.hid (HW0B.out _ RS.out.bel)
  clear RS hp0 hl0 hqv hqb hgk HS0
  have hwl := HWL.out
  go_upto_if 21 with (fail)
  clear hwl
  go_cut [8] (fun s8 W => s8 = .int .i64 (nxt1 D lim) ∧ wq = W)
  case first =>
   rename_i hK hB hJ hK2 hm1 hm2
   clear hB hK
   as_aux_lemma =>
    by_cases hq : 0 < D.qu.length
    ·obtain ⟨gq, rfl, e0, e1⟩ := hq1 hq
     have hqz : (0 : Int) < (D.qu.length : Int) := by omega
     have hv : Hid (nxt1 D lim = min (lim + 1) (hdE D).ti) := Lib.hid (if_pos hq)
     go_wp2
     go_meet
     exact ⟨by rw [hv.out], rfl⟩
    ·have hqz : ¬ (0 : Int) < (D.qu.length : Int) := by omega
     have hv : Hid (nxt1 D lim = lim + 1) := Lib.hid (if_neg hq)
     go_wp2
     go_meet
     exact ⟨by rw [hv.out], rfl⟩
  obtain ⟨rfl, rfl⟩ := hcut
  obtain ⟨t1, ht1⟩ : ∃ t, t = nxt1 D lim := ⟨_, rfl⟩
  rw [← ht1]
  have HT1 := Lib.hid ht1
  clear ht1
  go_upto_if 34 with (fail)
  go_cut [8] (fun s8 W => s8 = .int .i64 (nxt2 D L g lim) ∧ wq = W)
  case first =>
   rename_i hK hB hJ hK2 hm1 hm2
   clear hB hK
   as_aux_lemma =>
    by_cases hg : g < L.length
    ·have hgz : (g : Int) < (L.length : Int) := by omega
     obtain ⟨x, hx⟩ : ∃ x, L[g]? = some x := ⟨L[g], by simp [hg]⟩
     obtain ⟨b, off, hao, hc⟩ := HELL.out g x hx
     subst hao
     have p0 : w0.cell? ⟨b, off + g * 3, none⟩ = some (.int .i64 x.ti) := hc 0 _ rfl
     have c0 := (HBW.out.cell (p := ⟨b, off + g * 3, none⟩) (World.block_lt_of_cell? w0 _ p0)).trans p0
     have hv : Hid (nxt2 D L g lim = min t1 x.ti) := Lib.hid (by unfold nxt2; rw [if_pos hg, HT1.out, List.getD_eq_getElem?_getD, hx]; rfl)
     clear hc p0 hx
     go_wp2
     go_meet
     exact ⟨by rw [hv.out], rfl⟩
    ·have hgz : ¬ (g : Int) < (L.length : Int) := by omega
     have hv : Hid (nxt2 D L g lim = t1) := Lib.hid (by unfold nxt2; rw [if_neg hg, HT1.out])
     go_wp2
     go_meet
     exact ⟨by rw [hv.out], rfl⟩
  obtain ⟨rfl, rfl⟩ := hcut
  obtain ⟨t2, ht2⟩ : ∃ t, t = nxt2 D L g lim := ⟨_, rfl⟩
  rw [← ht2]
  have HT2 := Lib.hid ht2
  clear ht2
  go_upto_if 49 with (fail)
  go_cut [8] (fun s8 W => s8 = .int .i64 (nxtD D L P g p lim) ∧ wq = W)
  case first =>
   rename_i hK hB hJ hK2 hm1 hm2
   clear hB hK
   as_aux_lemma =>
    by_cases hp : p < P.length
    ·have hpz : (p : Int) < (P.length : Int) := by omega
     obtain ⟨x, hx⟩ : ∃ x, P[p]? = some x := ⟨P[p], by simp [hp]⟩
     obtain ⟨b, off, hao, hc⟩ := HEPP.out p x hx
     subst hao
     have p0 : w0.cell? ⟨b, off + p * 2, none⟩ = some (.int .i64 x.ti) := hc 0 _ rfl
     have c0 := (HBW.out.cell (p := ⟨b, off + p * 2, none⟩) (World.block_lt_of_cell? w0 _ p0)).trans p0
     have hv : Hid (nxtD D L P g p lim = min t2 x.ti) := Lib.hid (by unfold nxtD; rw [if_pos hp, HT2.out, List.getD_eq_getElem?_getD, hx]; rfl)
     clear hc p0 hx
     go_wp2
     go_meet
     exact ⟨by rw [hv.out], rfl⟩
    ·have hpz : ¬ (p : Int) < (P.length : Int) := by omega
     have hv : Hid (nxtD D L P g p lim = t2) := Lib.hid (by unfold nxtD; rw [if_neg hp, HT2.out])
     go_wp2
     go_meet
     exact ⟨by rw [hv.out], rfl⟩
  obtain ⟨rfl, rfl⟩ := hcut
  obtain ⟨t, ht⟩ : ∃ t, t = nxtD D L P g p lim := ⟨_, rfl⟩
  rw [← ht]
  have HT := Lib.hid ht
  clear ht
  by_cases hlt : lim < t
  ·have HNO : Hid ((⟨.out, D, g, p⟩ : Cfg).next C R E P L lim = none) := Lib.hid (by unfold Cfg.next; dsimp only; rw [if_pos (by rw [← HT.out]; exact hlt)])
   go_wp2_with fail
   ((try simp only [Exit.inBlock, Exit.then]); refine bodyPost_ret (results_none rfl _ _ _) rfl ?_)
   exact ⟨rfl, A', k, _, HP0.out, HL0.out, HRS.out.bel, HRS.out.inv, HNO.out⟩
  have HNX : Hid ((⟨.out, D, g, p⟩ : Cfg).next C R E P L lim = some ⟨.pur, D.nowD t, g, p⟩) := Lib.hid (by unfold Cfg.next; dsimp only; rw [if_neg (by rw [← HT.out]; exact hlt), ← HT.out])
  have f8 := frozF HQB.out 8
  have c8 := cellF HQB.out 8 (v := .int .i64 D.no) rfl
  obtain ⟨w2, hw2⟩ : ∃ w2, w2 = wq.setCell ⟨A.q, 8, none⟩ (.int .i64 t) := ⟨_, rfl⟩
  have hp2 : PD w2 B A' (D.nowD t) := by
   have h := HP0.out.setNow t
   rw [HL0.out.q, ← hw2] at h
   exact h
  have hb2 : Below B w w2 := by rw [hw2]; exact HRS.out.bel.setCell (by rw [← HL0.out.q]; exact HP0.out.qb.1) _
  have HR2 : Hid (∃ k', RunS w B A P L I k w2 k' ⟨.pur, D.nowD t, g, p⟩) := Lib.hid (by
   obtain ⟨k', h1, h2, h3⟩ := due_step C R E P L lim HI.out HRS.out.inv (Nat.le_refl k) (fun h => absurd rfl h) HNX.out
   exact ⟨k', h1, ⟨A', hp2, HL0.out⟩, hb2, h2, fun _ => h3⟩)
  have HW2 := Lib.hid hw2
  clear hp2 hb2 hw2 q5 q3 hq1
  go_upto_block 2 with (fail)
  rw [← HW2.out]
  clear f8 c8
  obtain ⟨k2, HR2⟩ := HR2.out
  have HR2 := Lib.hid HR2
  go_cut [7] (fun s7 W => ∃ (k' : Nat) (D' : Day) (p' : Nat), s7 = .int .i64 (p' : Nat) ∧ Aside (RunS w B A P L I k W k' ⟨.bak, D', g, p'⟩) ∧ Aside (D'.no = t))
  case first =>
   rename_i hK hB hJ hK2 hm1 hm2
   clear hB hK
   as_aux_lemma =>
    go_wp2_with fail
    go_loopg [7, 10, 96] k (fun gg s7 s10 s96 wr => ∃ (k' : Nat) (D' : Day) (p' : Nat), k' ≤ gg ∧ s7 = .int .i64 (p' : Nat) ∧ Aside (RunS w B A P L I k wr k' ⟨.pur, D', g, p'⟩) ∧ Aside (D'.no = t))
    case atStart => exact ⟨k2, _, p, HR2.out.le, rfl, (show Aside _ from HR2.out), (show Aside (_ = _) from rfl)⟩
    case round =>
     obtain ⟨wp, rfl⟩ : ∃ wp : World, wp = wr := ⟨_, rfl⟩
     obtain ⟨k', D', p', hgk, rfl, RS, NO⟩ := hrel
     obtain ⟨A1, hp1, hl1⟩ := RS.out.ex
     have hqb := hp1.qb.2
     rw [show A1.q = A.q from hl1.q] at hqb
     have q3 : wp.cell? ⟨A.q, 3, none⟩ = some (.slice ap P.length capp) := by rw [← HD3.out, ← hl1.d3]; exact cellF hqb 3 rfl
     have HRS := Lib.hid RS.out
     have HNO := Lib.hid NO.out
     have HP1 := Lib.hid hp1
     have HL1 := Lib.hid hl1
     have HQB := Lib.hid hqb
     have HGK := Lib.hid hgk
     have HBW1 := Lib.hid (HW0B.out _ RS.out.bel)
     have HEXIT : Hid (¬ purgeDue P ⟨.pur, D', g, p'⟩ → ∃ k'', RunS w B A P L I k wp k'' ⟨.bak, D', g, p'⟩) := Lib.hid (fun hn => by
      obtain ⟨k'', _, h2⟩ := HRS.out.turn HI.out (c' := ⟨.bak, D', g, p'⟩) (by unfold Cfg.next; dsimp only; rw [if_neg hn]) rfl
      exact ⟨k'', h2⟩)
     clear RS NO hp1 hl1 hqb hgk HR2
     by_cases hp : p' < P.length
     case neg =>
      have hpz : ¬ (p' : Int) < (P.length : Int) := by omega
      have hpd : decide ((p' : Int) < (P.length : Int)) = false := decide_eq_false hpz
      obtain ⟨k'', hK⟩ := HEXIT.out (fun h => hp h.1)
      have HK := Lib.hid hK
      clear hK
      go_wp2
      go_meet
      exact ⟨k'', D', p', rfl, (show Aside _ from HK.out), (show Aside (_ = _) from HNO.out)⟩
     have hpz : (p' : Int) < (P.length : Int) := by omega
     obtain ⟨x, hx⟩ : ∃ x, P[p']? = some x := ⟨P[p'], by simp [hp]⟩
     obtain ⟨b, off, hao, hc⟩ := HEPP.out p' x hx
     subst hao
     have p0 : w0.cell? ⟨b, off + p' * 2, none⟩ = some (.int .i64 x.ti) := hc 0 _ rfl
     have p1 : w0.cell? ⟨b, off + p' * 2 + 1, none⟩ = some (.string x.ke) := hc 1 _ rfl
     have c0 := (HBW1.out.cell (p := ⟨b, off + p' * 2, none⟩) (World.block_lt_of_cell? w0 _ p0)).trans p0
     have HGD : Hid (P.getD p' default = x) := Lib.hid (by rw [List.getD_eq_getElem?_getD, hx]; rfl)
     have HX := Lib.hid hx
     have HPP1 := Lib.hid p1
     clear hc p0 p1 hx
     by_cases ht : x.ti = t
     case neg =>
      have htb : (x.ti == t) = false := by rw [beq_eq_false_iff_ne]; exact ht
      obtain ⟨k'', hK⟩ := HEXIT.out (fun h => ht (by rw [← HGD.out, ← HNO.out]; exact h.2))
      have HK := Lib.hid hK
      clear hK ht
      go_wp2
      go_meet
      exact ⟨k'', D', p', rfl, (show Aside _ from HK.out), (show Aside (_ = _) from HNO.out)⟩
     have htb : (x.ti == t) = true := by rw [beq_iff_eq]; exact ht
     have HNX : Hid ((⟨.pur, D', g, p'⟩ : Cfg).next C R E P L lim = some ⟨.pur, D'.purD x.ke, g, p' + 1⟩) := Lib.hid (by unfold Cfg.next; dsimp only; rw [if_pos ⟨hp, by rw [HGD.out, HNO.out]; exact ht⟩, HGD.out])
     have hwp : IntKind.i64.wrap ((p' : Int) + 1) = (p' : Int) + 1 := IntWalk.i64_in _ (by omega)
     have HWP := Lib.hid hwp
     obtain ⟨n, hn, hF⟩ := HI.out.fit _ _ HRS.out.inv
     have HFT := Lib.hid hF
     have hks : ∀ (i : Nat) (s : Sto), D'.st[i]? = some s → True := fun _ _ _ => trivial
     obtain ⟨so, scap, hsv, hscap, hsmax, -, hsel⟩ := Sl.own (encP_len A1.sb) HP1.out.stores
     rw [List.length_range] at hsv
     have q4 : wp.cell? ⟨A.q, 4, none⟩ = some (.slice so D'.st.length scap) := by rw [cellF HQB.out 4 rfl, ← hsv]; rfl
     have HSV := Lib.hid hsv
     have hkx : x.ke.size ≤ maxLen := Nat.le_trans (HPK.out x (List.mem_of_getElem? HX.out)) (by unfold maxLen; omega)
     have HKX := Lib.hid hkx
     have hsm : D'.st.length ≤ 9223372036854775807 := Nat.le_trans (HI.out.pos _ _ HRS.out.inv).2.2 (by omega)
     clear ht hwp hF hsv hks hsel hsmax hscap hkx
     go_upto_region 12 with (fail)
     clear c0 htb
     go_wp2_with fail
     clear q4
     go_loopg [10, 96] D'.st.length (fun gg s10 s96 wr => ∃ i : Nat, i ≤ D'.st.length ∧ D'.st.length - i ≤ gg ∧ s96 = .int .i64 i ∧ Aside (PD wr B A1 (D'.purU x.ke i)) ∧ Aside (Below B w wr))
     case atStart => exact ⟨0, Nat.zero_le _, by omega, rfl, (show Aside _ by rw [Day.purU_zero]; exact HP1.out), (show Aside _ from HRS.out.bel)⟩
     case round =>
      obtain ⟨ws, rfl⟩ : ∃ ws : World, ws = wr := ⟨_, rfl⟩
      obtain ⟨i, hi, hgi, rfl, PU, BU⟩ := hrel
      have HPU := Lib.hid PU.out
      have HBU := Lib.hid BU.out
      clear PU BU
      have hqb := HPU.out.qb.2
      rw [show A1.q = A.q from HL1.out.q] at hqb
      by_cases hil : i < D'.st.length
      ·have hiz : (i : Int) < (D'.st.length : Int) := by omega
       have hs : (D'.purU x.ke i).st[i]? = some (D'.S i) := Day.purU_at hil
       have hne : List.range (D'.purU x.ke i).st.length ≠ [] := fun e => by rw [List.range_eq_nil, Day.purU_len] at e; omega
       obtain ⟨gs, cap2, hv2, hg1, hg2, hg3, hg4, hgc, -⟩ := Own.getk (encP_len A1.sb) HPU.out.stores hne
       rw [List.length_range, Day.purU_len, HSV.out] at hv2
       simp only [Value.slice.injEq] at hv2
       obtain ⟨hso, -, -⟩ := hv2
       subst hso
       have s0 : ws.cell? ⟨gs, i, none⟩ = some (.pointer (some ⟨A.sb i, 0, none⟩)) := by rw [← show A1.sb = A.sb from HL1.out.sb]; have h := hgc i i 0 _ (by simp [Day.purU_len, hil]) rfl; simpa using h
       have hsb := (HPU.out.sb hs).2
       rw [show A1.sb = A.sb from HL1.out.sb] at hsb
       have c5 : ws.cell? ⟨A.sb i, 5, none⟩ = some (.map (some (A.mb i))) := by rw [← show A1.mb = A.mb from HL1.out.mb]; exact cellF hsb 5 rfl
       have q3 : ws.cell? ⟨A.q, 3, none⟩ = some (.slice (some ⟨b, off, none⟩) P.length capp) := by rw [← HD3.out, ← HL1.out.d3]; exact cellF hqb 3 rfl
       have hb0 := HW0B.out _ HBU.out
       have c1 := (hb0.cell (p := ⟨b, off + p' * 2 + 1, none⟩) (World.block_lt_of_cell? w0 _ HPP1.out)).trans HPP1.out
       obtain ⟨hmb, hmp⟩ := HPU.out.map hs
       rw [show A1.mb = A.mb from HL1.out.mb] at hmb hmp
       obtain ⟨w9, hdl, hm9, hg9⟩ := (show MapH ws.drew (A.mb i) D'.pu (D'.S i).hm (D'.S i).ks from hmp).del x.ke HKX.out 0
       have hon : Onl (A.mb i) ws w9 := (Onl.of_below (Below.refl _ ws).drew).trans hg9
       have hp9 : PD w9 B A1 (D'.purU x.ke (i + 1)) := by
        have h := HPU.out.setMap hs (W' := w9) (n := D'.pu) (f := (D'.S i).hm) (ks := rmv x.ke (D'.S i).ks) (by rw [show A1.mb = A.mb from HL1.out.mb]; exact hm9) (Nat.le_refl _) (by rw [show A1.mb = A.mb from HL1.out.mb]; exact hon)
        rw [← Day.purU_next hil]
        exact h
       have HP9 := Lib.hid hp9
       have HB9 : Hid (Below B w w9) := Lib.hid (HBU.out.trans (Onl.toBelow hon HPU.out.base hmb))
       have hdl' : (Builtin.delete_ #[81, 9] 0 #[.map (some (A.mb i)), .string x.ke]).run Tryz.prog ws.drew = .ok (.tuple #[]) w9 := hdl
       have HGI := Lib.hid (And.intro hgi hil)
       clear hqb hs hne hg1 hg2 hg3 hg4 hgc hsb hb0 hmb hmp hdl hm9 hg9 hon hp9 hgi
       go_upto_region 15 with (fail)
       clear s0
       go_still_tail 13, (by kernel_rfl)
       change wpList _ _ _ _ _ ws.drew
       go_wp2_with fail
       go_roundg (D'.st.length - (i + 1))
       case measure => have := HGI.out; omega
       case rel => exact ⟨i + 1, by have := HGI.out; omega, by omega, by go_num, (show Aside _ from HP9.out), (show Aside _ from HB9.out)⟩
      ·obtain rfl : i = D'.st.length := by omega
       have hpu : PD ws B A1 (D'.purD x.ke) := by rw [← Day.purU_all]; exact HPU.out
       obtain ⟨k'', hk1, hk2⟩ := HRS.out.work HI.out HNX.out rfl hpu HL1.out HBU.out
       have HK := Lib.hid (And.intro hk1 hk2)
       have hwp := HWP.out
       clear hpu hk1 hk2 hqb
       go_wp2_with fail
       go_roundg k''
       case measure => have := HK.out.1; have := HGK.out; omega
       case rel => exact ⟨k'', _, p' + 1, Nat.le_refl _, by go_num, (show Aside _ from HK.out.2), (show Aside (_ = _) from HNO.out)⟩
  obtain ⟨k3, D3, p3, rfl, RS3, NO3⟩ := hcut
  obtain ⟨w3, rfl⟩ : ∃ W : World, W = wc := ⟨_, rfl⟩
  have HR3 := Lib.hid RS3.out
  have HN3 := Lib.hid NO3.out
  clear RS3 NO3 HR2
  go_upto_block 6 with (fail)
  go_cut [] (fun W => ∃ (k' : Nat) (D' : Day), Aside (RunS w B A P L I k W k' ⟨.get, D', g, p3⟩) ∧ Aside (D'.no = t))
  case first =>
   rename_i hK hB hJ hK2 hm1 hm2
   clear hB hK
   as_aux_lemma =>
    go_wp2_with fail
    go_loopg [11] k (fun gg s11 wr => ∃ (k' : Nat) (D' : Day), k' ≤ gg ∧ Aside (RunS w B A P L I k wr k' ⟨.bak, D', g, p3⟩) ∧ Aside (D'.no = t))
    case atStart => exact ⟨k3, D3, HR3.out.le, (show Aside _ from HR3.out), (show Aside (_ = _) from HN3.out)⟩
    case round =>
     obtain ⟨wp, rfl⟩ : ∃ wp : World, wp = wr := ⟨_, rfl⟩
     obtain ⟨k', D', hgk, RS, NO⟩ := hrel
     obtain ⟨A1, hp1, hl1⟩ := RS.out.ex
     obtain ⟨ao, qc, hqv, hqc, q5, hq1⟩ := QCel hp1
     rw [show A1.q = A.q from hl1.q] at q5
     have HRS := Lib.hid RS.out
     have HNO := Lib.hid NO.out
     have HP1 := Lib.hid hp1
     have HL1 := Lib.hid hl1
     have HGK := Lib.hid hgk
     obtain ⟨n, hn, hF⟩ := HI.out.fit _ _ HRS.out.inv
     have HFT := Lib.hid hF
     clear RS NO hp1 hl1 hgk hqv hF
     have HEXIT : Hid (¬ (headDue ⟨.bak, D', g, p3⟩ ∧ (hdE D').bk = true) → ∃ k'', RunS w B A P L I k wp k'' ⟨.get, D', g, p3⟩) := Lib.hid (fun hn => by
      obtain ⟨k'', _, h2⟩ := HRS.out.turn HI.out (c' := ⟨.get, D', g, p3⟩) (by unfold Cfg.next; dsimp only; rw [if_neg hn]) rfl
      exact ⟨k'', h2⟩)
     clear HR3 HN3
     by_cases hq : 0 < D'.qu.length
     case neg =>
      have hqz : ¬ (0 : Int) < (D'.qu.length : Int) := by omega
      have hqd : decide ((0 : Int) < (D'.qu.length : Int)) = false := decide_eq_false hqz
      obtain ⟨k'', hK⟩ := HEXIT.out (fun h => hq h.1.1)
      have HK := Lib.hid hK
      clear hK hq hq1
      go_wp2
      go_meet
      exact ⟨k'', D', (show Aside _ from HK.out), (show Aside (_ = _) from HNO.out)⟩
     have hqz : (0 : Int) < (D'.qu.length : Int) := by omega
     have hqd : decide ((0 : Int) < (D'.qu.length : Int)) = true := decide_eq_true hqz
     obtain ⟨gq, rfl, e0, e1⟩ := hq1 hq
     by_cases ht : (hdE D').ti = t
     case neg =>
      have htb : ((hdE D').ti == t) = false := by rw [beq_eq_false_iff_ne]; exact ht
      obtain ⟨k'', hK⟩ := HEXIT.out (fun h => ht (by rw [← HNO.out]; exact h.1.2))
      have HK := Lib.hid hK
      clear hK hq hq1 ht
      go_wp2
      go_meet
      exact ⟨k'', D', (show Aside _ from HK.out), (show Aside (_ = _) from HNO.out)⟩
     have htb : ((hdE D').ti == t) = true := by rw [beq_iff_eq]; exact ht
     obtain ⟨bk, hbk⟩ : ∃ b, b = (hdE D').bk := ⟨_, rfl⟩
     rw [← hbk] at e1
     have HBK := Lib.hid hbk
     have HT3 := Lib.hid ht
     clear hbk ht hq1
     cases bk
     case false =>
      obtain ⟨k'', hK⟩ := HEXIT.out (fun h => by rw [← HBK.out] at h; exact absurd h.2 (by simp))
      have HK := Lib.hid hK
      clear hK hq
      go_wp2
      go_meet
      exact ⟨k'', D', (show Aside _ from HK.out), (show Aside (_ = _) from HNO.out)⟩
     have hHD : headDue ⟨.bak, D', g, p3⟩ := ⟨hq, by rw [HNO.out]; exact HT3.out⟩
     have HHD := Lib.hid hHD
     clear hHD
     go_upto_region 18 with (fail)
     clear e0 e1 q5 htb hqd
     have hpop := pop_any wp B A1 D' n A.q HL1.out.q.symm HP1.out HFT.out (by omega) hq
     obtain ⟨e, he⟩ : ∃ e, e = hdE D' := ⟨_, rfl⟩
     rw [← he] at hpop
     have hjl : e.ak < D'.ak.length := by rw [he]; exact HFT.out.num.qu _ (hdE_mem hq)
     have hae : AFit e.an := by rw [he]; exact HFT.out.qa _ (hdE_mem hq)
     obtain ⟨ab, hab⟩ : ∃ x, x = A1.ab e.ak := ⟨_, rfl⟩
     rw [← hab] at hpop
     have HPOP := Lib.hid hpop
     have HEE := Lib.hid he
     have HJL := Lib.hid hjl
     have HAE := Lib.hid hae
     have HAB := Lib.hid hab
     have hta := assertEv
     clear hpop he hjl hae hab
     go_wp2_with fail
     refine HPOP.out.mono ?_
     rintro r w1 ⟨v1, rfl, hp2, hb2⟩
     obtain ⟨w2, hw2⟩ : ∃ W, W = w1.alloc (.cells #[.int .i64 e.ti, .bool e.bk, .pointer (some ⟨ab, 0, none⟩), .int .i64 e.an.ve, .int .i64 e.an.bo, .int .i64 e.an.si, .bool e.an.no, .string e.an.fr] 133) := ⟨_, rfl⟩
     have hp3 := hp2.addFr (.cells #[.int .i64 e.ti, .bool e.bk, .pointer (some ⟨ab, 0, none⟩), .int .i64 e.an.ve, .int .i64 e.an.bo, .int .i64 e.an.si, .bool e.an.no, .string e.an.fr] 133 (0, 0))
     rw [← hw2] at hp3
     obtain ⟨A2, hA2⟩ : ∃ A2, A2 = { A1 with qv := v1, x := A1.x ++ [(w1.heap.size, Obj.cells #[.int .i64 e.ti, .bool e.bk, .pointer (some ⟨ab, 0, none⟩), .int .i64 e.an.ve, .int .i64 e.an.bo, .int .i64 e.an.si, .bool e.an.no, .string e.an.fr] 133 (0, 0))] } := ⟨_, rfl⟩
     replace hp3 : PD w2 B A2 D'.popD := by rw [hA2]; exact hp3
     have hb3 : Below B w w2 := by rw [hw2]; exact (HRS.out.bel.trans hb2).alloc hp2.base _
     have hF2 : Fit n D'.popD := HFT.out.pop hq
     have HL2 : Hid (∀ A' m, AdrLe A2 A' m → AdrLe A { A' with x := A.x } 0) := Lib.hid (by
      intro A' m hl
      rw [hA2] at hl
      have h1 := HL1.out
      exact ⟨hl.q.trans h1.q, hl.d0.trans h1.d0, hl.d1.trans h1.d1, hl.d2.trans h1.d2, hl.d3.trans h1.d3, hl.sv.trans h1.sv, hl.gv.trans h1.gv, hl.sb.trans h1.sb, hl.mb.trans h1.mb, rfl, fun j hj => absurd hj (by omega)⟩)
     have HXX : Hid (∀ A' m, AdrLe A2 A' m → ∃ y, A'.x = A.x ++ y) := Lib.hid (by
      intro A' m hl
      rw [hl.x, hA2, ← HL1.out.x]
      exact ⟨_, rfl⟩)
     have HE2 : Hid (EnvD w0 B A2 C R E P) := Lib.hid (by rw [hA2]; exact ⟨(HE.out.adr HL1.out).le, (HE.out.adr HL1.out).c, (HE.out.adr HL1.out).r, (HE.out.adr HL1.out).e, (HE.out.adr HL1.out).p, HE.out.rb, HE.out.eb⟩)
     have HA2 : Hid (A2.q = A.q ∧ A2.sb = A.sb ∧ A2.ab e.ak = ab ∧ A2.x[A1.x.length]? = some (w1.heap.size, Obj.cells #[.int .i64 e.ti, .bool e.bk, .pointer (some ⟨ab, 0, none⟩), .int .i64 e.an.ve, .int .i64 e.an.bo, .int .i64 e.an.si, .bool e.an.no, .string e.an.fr] 133 (0, 0))) := Lib.hid (by rw [hA2]; exact ⟨HL1.out.q, HL1.out.sb, HAB.out.symm, by simp⟩)
     have hk := hp3.fr HA2.out.2.2.2
     have HP3 := Lib.hid hp3
     have HB3 := Lib.hid hb3
     have HF2 := Lib.hid hF2
     have HW2 := Lib.hid hw2
     have HK := Lib.hid hk
     clear hp2 hb2 hp3 hb3 hw2 hF2 hA2 hk
     have HJB : Hid (e.ak ∈ (D'.popD.S (D'.popD.K e.ak).ca).ar) := Lib.hid (by
      have h := HI.out.back _ _ HRS.out.inv rfl HHD.out HBK.out.symm
      rw [HEE.out]
      exact h)
     have hback := back_any w0 w2 B A2 D'.popD C R E P n e.ak e.an HP3.out HF2.out hn HJL.out HJB.out HAE.out HE2.out (HW0B.out _ HB3.out)
     rw [HA2.out.1, HA2.out.2.2.1] at hback
     have HBACK := Lib.hid hback
     have HNX : Hid ((⟨.bak, D', g, p3⟩ : Cfg).next C R E P L lim = some ⟨.bak, D'.popD.backD R P e.ak e.an, g, p3⟩) := Lib.hid (by
      unfold Cfg.next; dsimp only
      rw [if_pos ⟨HHD.out, HBK.out.symm⟩, HEE.out])
     clear hback
     go_upto_region 19 with (fail)
     rw [← HW2.out]
     clear hta
     have b2 := cellF HK.out 2 (v := .pointer (some ⟨ab, 0, none⟩)) rfl
     have b3 := cellF HK.out 3 (v := .int .i64 e.an.ve) rfl
     have b4 := cellF HK.out 4 (v := .int .i64 e.an.bo) rfl
     have b5 := cellF HK.out 5 (v := .int .i64 e.an.si) rfl
     have b6 := cellF HK.out 6 (v := .bool e.an.no) rfl
     have b7 := cellF HK.out 7 (v := .string e.an.fr) rfl
     go_wp2_with fail
     refine HBACK.out.mono ?_
     rintro r w4 ⟨A4, rfl, hp4, hl4, hb4⟩
     obtain ⟨k'', hk1, hk2⟩ := HRS.out.work HI.out HNX.out rfl (hp4.dropFr (HXX.out A4 _ hl4)) (HL2.out A4 _ hl4) (HB3.out.trans hb4)
     have HKK := Lib.hid (And.intro hk1 hk2)
     have HNO4 : Hid ((D'.popD.backD R P e.ak e.an).no = t) := Lib.hid (by rw [Day.backD_no]; exact HNO.out)
     clear hp4 hl4 hb4 hk1 hk2 b2 b3 b4 b5 b6 b7
     go_wp2_with fail
     go_roundg k''
     case measure => have := HKK.out.1; have := HGK.out; omega
     case rel => exact ⟨k'', _, Nat.le_refl _, (show Aside _ from HKK.out.2), (show Aside (_ = _) from HNO4.out)⟩
  obtain ⟨k4, D4, RS4, NO4⟩ := hcut
  obtain ⟨w4, rfl⟩ : ∃ W : World, W = wc := ⟨_, rfl⟩
  have HR4 := Lib.hid RS4.out
  have HN4 := Lib.hid NO4.out
  clear RS4 NO4 HR3 HN3
  go_upto_block 8 with (fail)
  go_cut [6] (fun s6 W => ∃ (k' : Nat) (D' : Day) (g' : Nat), s6 = .int .i64 (g' : Nat) ∧ Aside (RunS w B A P L I k W k' ⟨.arr, D', g', p3⟩) ∧ Aside (D'.no = t))
  case first =>
   rename_i hK hB hJ hK2 hm1 hm2
   clear hB hK
   as_aux_lemma =>
    go_wp2_with fail
    go_loopg [6] k (fun gg s6 wr => ∃ (k' : Nat) (D' : Day) (g' : Nat), k' ≤ gg ∧ s6 = .int .i64 (g' : Nat) ∧ Aside (RunS w B A P L I k wr k' ⟨.get, D', g', p3⟩) ∧ Aside (D'.no = t))
    case atStart => exact ⟨k4, D4, g, HR4.out.le, rfl, (show Aside _ from HR4.out), (show Aside (_ = _) from HN4.out)⟩
    case round =>
     obtain ⟨wp, rfl⟩ : ∃ wp : World, wp = wr := ⟨_, rfl⟩
     obtain ⟨k', D', g', hgk, rfl, RS, NO⟩ := hrel
     obtain ⟨A1, hp1, hl1⟩ := RS.out.ex
     have HRS := Lib.hid RS.out
     have HNO := Lib.hid NO.out
     have HP1 := Lib.hid hp1
     have HL1 := Lib.hid hl1
     have HGK := Lib.hid hgk
     have HBW1 := Lib.hid (HW0B.out _ RS.out.bel)
     obtain ⟨n, hn, hF⟩ := HI.out.fit _ _ HRS.out.inv
     have HFT := Lib.hid hF
     have HEXIT : Hid (¬ getDue L ⟨.get, D', g', p3⟩ → ∃ k'', RunS w B A P L I k wp k'' ⟨.arr, D', g', p3⟩) := Lib.hid (fun hn => by
      obtain ⟨k'', _, h2⟩ := HRS.out.turn HI.out (c' := ⟨.arr, D', g', p3⟩) (by unfold Cfg.next; dsimp only; rw [if_neg hn]) rfl
      exact ⟨k'', h2⟩)
     clear RS NO hp1 hl1 hgk hF HR4 HN4
     by_cases hg : g' < L.length
     case neg =>
      have hgz : ¬ (g' : Int) < (L.length : Int) := by omega
      have hgd : decide ((g' : Int) < (L.length : Int)) = false := decide_eq_false hgz
      obtain ⟨k'', hK⟩ := HEXIT.out (fun h => hg h.1)
      have HK := Lib.hid hK
      clear hK hg
      go_wp2
      go_meet
      exact ⟨k'', D', g', rfl, (show Aside _ from HK.out), (show Aside (_ = _) from HNO.out)⟩
     have hgz : (g' : Int) < (L.length : Int) := by omega
     have hgd : decide ((g' : Int) < (L.length : Int)) = true := decide_eq_true hgz
     obtain ⟨x, hx⟩ : ∃ x, L[g']? = some x := ⟨L[g'], by simp [hg]⟩
     obtain ⟨b, off, hao, hc⟩ := HELL.out g' x hx
     subst hao
     have p0 : w0.cell? ⟨b, off + g' * 3, none⟩ = some (.int .i64 x.ti) := hc 0 _ rfl
     have p1 : w0.cell? ⟨b, off + g' * 3 + 1, none⟩ = some (.string x.ca) := hc 1 _ rfl
     have p2 : w0.cell? ⟨b, off + g' * 3 + 2, none⟩ = some (.string x.ke) := hc 2 _ rfl
     have c0 := (HBW1.out.cell (p := ⟨b, off + g' * 3, none⟩) (World.block_lt_of_cell? w0 _ p0)).trans p0
     have HGD : Hid (L.getD g' default = x) := Lib.hid (by rw [List.getD_eq_getElem?_getD, hx]; rfl)
     have HSS : Hid (∀ W : World, Below B w W → W.cell? ⟨b, off + g' * 3 + 1, none⟩ = some (.string x.ca) ∧ W.cell? ⟨b, off + g' * 3 + 2, none⟩ = some (.string x.ke)) := Lib.hid fun W hb => ⟨((HW0B.out _ hb).cell (p := ⟨b, off + g' * 3 + 1, none⟩) (World.block_lt_of_cell? w0 _ p1)).trans p1, ((HW0B.out _ hb).cell (p := ⟨b, off + g' * 3 + 2, none⟩) (World.block_lt_of_cell? w0 _ p2)).trans p2⟩
     clear hc p0 p1 p2 hx
     by_cases ht : x.ti = t
     case neg =>
      have htb : (x.ti == t) = false := by rw [beq_eq_false_iff_ne]; exact ht
      obtain ⟨k'', hK⟩ := HEXIT.out (fun h => ht (by rw [← HGD.out, ← HNO.out]; exact h.2))
      have HK := Lib.hid hK
      clear hK ht hg
      go_wp2
      go_meet
      exact ⟨k'', D', g', rfl, (show Aside _ from HK.out), (show Aside (_ = _) from HNO.out)⟩
     have htb : (x.ti == t) = true := by rw [beq_iff_eq]; exact ht
     have hdu : getDue L ⟨.get, D', g', p3⟩ := ⟨hg, by rw [HGD.out, HNO.out]; exact ht⟩
     obtain ⟨i, hi1, hi2, hi3, hi4⟩ := HI.out.get _ _ HRS.out.inv rfl hdu
     rw [show L.getD (⟨.get, D', g', p3⟩ : Cfg).g default = x from HGD.out] at hi1 hi3
     have hgi : getI C L ⟨.get, D', g', p3⟩ = i := by
      unfold getI
      rw [show L.getD (⟨.get, D', g', p3⟩ : Cfg).g default = x from HGD.out, hi1]
      rfl
     have HNX : Hid ((⟨.get, D', g', p3⟩ : Cfg).next C R E P L lim = some ⟨.get, D'.cameD R P i (D'.S i) x.ke ⟨g', none⟩, g' + 1, p3⟩) := Lib.hid (by
      unfold Cfg.next; dsimp only
      rw [if_pos hdu, hgi, HGD.out])
     have hwp : IntKind.i64.wrap ((g' : Int) + 1) = (g' : Int) + 1 := IntWalk.i64_in _ (by omega)
     have HWP := Lib.hid hwp
     have hnu := number_any wp.drew A.q C A1.d0 x.ca (by rw [← show A1.q = A.q from HL1.out.q]; exact cellF (HP1.out.heapEq (W' := wp.drew) rfl).qb.2 0 rfl) ((HE.out.adr HL1.out).c.below ((HBW1.out).drew) (Nat.le_refl _))
     rw [hi1] at hnu
     have hcm : ∀ W, Below wp.heap.size wp W → Calls Tryz.prog 71 #[.pointer (some ⟨A.q, 0, none⟩), .int .i64 (i : Nat), .string x.ke, .agg #[.int .i64 (g' : Nat), .pointer none]] W fun e w' => ∃ A', e = .returned (.tuple #[]) ∧ PD w' B A' (D'.cameD R P i (D'.S i) x.ke ⟨g', none⟩) ∧ AdrLe A1 A' D'.ak.length ∧ Below B W w' := fun W hb => by
      have H := came_any w0 W B A1 D' C R E P n i (D'.S i) x.ke ⟨g', none⟩ (HP1.out.below hb) HFT.out (by omega) (Day.at_ hi2) hi4 (HE.out.adr HL1.out) (HW0B.out _ (HRS.out.bel.trans (hb.mono HP1.out.base))) hi3
      rw [show A1.q = A.q from HL1.out.q] at H
      exact H
     have HNU := Lib.hid hnu
     have HCM := Lib.hid hcm
     have HBD : Hid (Below wp.heap.size wp wp.drew) := Lib.hid (Below.refl _ wp).drew
     have HRB : Hid (Below B w wp.drew) := Lib.hid HRS.out.bel.drew
     have HNC : Hid ((D'.cameD R P i (D'.S i) x.ke ⟨g', none⟩).no = t) := Lib.hid (by rw [Day.cameD_no]; exact HNO.out)
     clear ht hg hdu hi1 hi2 hi3 hi4 hgi hnu hcm hwp
     go_upto_region 22 with (fail)
     clear c0 htb hgd
     go_region_held3 (fun W => W.cell? ⟨b, off + g' * 3 + 1, none⟩ = some (.string x.ca) ∧ W.cell? ⟨b, off + g' * 3 + 2, none⟩ = some (.string x.ke))
      (first | exact HSS.out _ HRB.out | exact HSS.out _ HB8.out | exact HSS.out _ HB9.out | fail)
      (first | (go_at_call 38; (with_reducible refine HNU.out.mono ?_); rintro e w8 ⟨rfl, hb8⟩; have HB8 := Lib.hid (HRB.out.trans (hb8.mono HP1.out.base)); have HCM8 := Lib.hid (HCM.out _ (HBD.out.thru hb8)); clear hb8)
             | (go_at_call 71; (with_reducible refine HCM8.out.mono ?_); rintro e w9 ⟨A9, rfl, hp9, hl9, hb9⟩; have HP9 := Lib.hid hp9; have HL9 := Lib.hid hl9; have HB9 := Lib.hid (HB8.out.trans hb9); clear hp9 hl9 hb9)
             | fail)
     obtain ⟨k'', hk1, hk2⟩ := HRS.out.work HI.out HNX.out rfl HP9.out (HL1.out.trans HL9.out (Nat.zero_le _)) HB9.out
     have HK := Lib.hid (And.intro hk1 hk2)
     have hwp := HWP.out
     clear hk1 hk2
     go_wp2_with fail
     go_roundg k''
     case measure => have := HK.out.1; have := HGK.out; omega
     case rel => exact ⟨k'', _, g' + 1, Nat.le_refl _, by go_num, (show Aside _ from HK.out.2), (show Aside (_ = _) from HNC.out)⟩
  obtain ⟨k5, D5, g5, rfl, RS5, NO5⟩ := hcut
  obtain ⟨w5, rfl⟩ : ∃ W : World, W = wc := ⟨_, rfl⟩
  have HR5 := Lib.hid RS5.out
  have HN5 := Lib.hid NO5.out
  clear RS5 NO5 HR4 HN4
  as_aux_lemma =>
   go_wp2_with fail
   go_loopg [12, 13] k (fun gg s12 s13 wr => ∃ (k' : Nat) (D' : Day), k' ≤ gg ∧ Aside (RunS w B A P L I k wr k' ⟨.arr, D', g5, p3⟩) ∧ Aside (D'.no = t))
   case atStart => exact ⟨k5, D5, HR5.out.le, (show Aside _ from HR5.out), (show Aside (_ = _) from HN5.out)⟩
   case round =>
    obtain ⟨wp, rfl⟩ : ∃ wp : World, wp = wr := ⟨_, rfl⟩
    obtain ⟨k', D', hgk, RS, NO⟩ := hrel
    obtain ⟨A1, hp1, hl1⟩ := RS.out.ex
    obtain ⟨ao, qc, hqv, hqc, q5, hq1⟩ := QCel hp1
    rw [show A1.q = A.q from hl1.q] at q5
    have HRS := Lib.hid RS.out
    have HNO := Lib.hid NO.out
    have HP1 := Lib.hid hp1
    have HL1 := Lib.hid hl1
    have HGK := Lib.hid hgk
    obtain ⟨n, hn, hF⟩ := HI.out.fit _ _ HRS.out.inv
    have HFT := Lib.hid hF
    clear RS NO hp1 hl1 hgk hqv hF
    have HEXIT : Hid (¬ headDue ⟨.arr, D', g5, p3⟩ → ∃ k'', k'' < k ∧ RunS w B A P L I k'' wp k'' ⟨.out, D', g5, p3⟩) := Lib.hid (fun hn => by
     obtain ⟨k'', h1, h2, h3⟩ := due_step C R E P L lim HI.out HRS.out.inv HRS.out.le HRS.out.due (c' := ⟨.out, D', g5, p3⟩) (by unfold Cfg.next; dsimp only; rw [if_neg hn])
     refine ⟨k'', ?_, h1, HRS.out.ex, HRS.out.bel, Nat.le_refl _, fun h => absurd rfl h⟩
     rcases h3 with h3 | h3
     ·exact h3
     ·exact h3.elim)
    clear HR5 HN5
    by_cases hq : 0 < D'.qu.length
    case neg =>
     have hqz : ¬ (0 : Int) < (D'.qu.length : Int) := by omega
     have hqd : decide ((0 : Int) < (D'.qu.length : Int)) = false := decide_eq_false hqz
     obtain ⟨k'', hK⟩ := HEXIT.out (fun h => hq h.1)
     have HK := Lib.hid hK
     clear hK hq hq1
     go_wp2
     go_roundg k''
     case measure => have := HK.out.1; have := HGKO.out; omega
     case rel => exact ⟨k'', D', g5, p3, Nat.le_refl _, rfl, rfl, (show Aside _ from HK.out.2)⟩
    have hqz : (0 : Int) < (D'.qu.length : Int) := by omega
    have hqd : decide ((0 : Int) < (D'.qu.length : Int)) = true := decide_eq_true hqz
    obtain ⟨gq, rfl, e0, e1⟩ := hq1 hq
    by_cases ht : (hdE D').ti = t
    case neg =>
     have htb : ((hdE D').ti == t) = false := by rw [beq_eq_false_iff_ne]; exact ht
     obtain ⟨k'', hK⟩ := HEXIT.out (fun h => ht (by rw [← HNO.out]; exact h.2))
     have HK := Lib.hid hK
     clear hK hq hq1 ht
     go_wp2
     go_roundg k''
     case measure => have := HK.out.1; have := HGKO.out; omega
     case rel => exact ⟨k'', D', g5, p3, Nat.le_refl _, rfl, rfl, (show Aside _ from HK.out.2)⟩
    have htb : ((hdE D').ti == t) = true := by rw [beq_iff_eq]; exact ht
    have hHD : headDue ⟨.arr, D', g5, p3⟩ := ⟨hq, by rw [HNO.out]; exact ht⟩
    have HHD := Lib.hid hHD
    clear hHD ht hq1
    go_upto_region 24 with (fail)
    clear e0 e1 q5 htb hqd
    have hpop := pop_any wp B A1 D' n A.q HL1.out.q.symm HP1.out HFT.out (by omega) hq
    obtain ⟨e, he⟩ : ∃ e, e = hdE D' := ⟨_, rfl⟩
    rw [← he] at hpop
    have hjl : e.ak < D'.ak.length := by rw [he]; exact HFT.out.num.qu _ (hdE_mem hq)
    have hae : AFit e.an := by rw [he]; exact HFT.out.qa _ (hdE_mem hq)
    obtain ⟨ab, hab⟩ : ∃ x, x = A1.ab e.ak := ⟨_, rfl⟩
    rw [← hab] at hpop
    have HPOP := Lib.hid hpop
    have HEE := Lib.hid he
    have HJL := Lib.hid hjl
    have HAE := Lib.hid hae
    have HAB := Lib.hid hab
    have hta := assertEv
    clear hpop he hjl hae hab
    go_wp2_with fail
    refine HPOP.out.mono ?_
    rintro r w1 ⟨v1, rfl, hp2, hb2⟩
    obtain ⟨w2, hw2⟩ : ∃ W, W = w1.alloc (.cells #[.int .i64 e.ti, .bool e.bk, .pointer (some ⟨ab, 0, none⟩), .int .i64 e.an.ve, .int .i64 e.an.bo, .int .i64 e.an.si, .bool e.an.no, .string e.an.fr] 133) := ⟨_, rfl⟩
    have hp3 := hp2.addFr (.cells #[.int .i64 e.ti, .bool e.bk, .pointer (some ⟨ab, 0, none⟩), .int .i64 e.an.ve, .int .i64 e.an.bo, .int .i64 e.an.si, .bool e.an.no, .string e.an.fr] 133 (0, 0))
    rw [← hw2] at hp3
    obtain ⟨A2, hA2⟩ : ∃ A2, A2 = { A1 with qv := v1, x := A1.x ++ [(w1.heap.size, Obj.cells #[.int .i64 e.ti, .bool e.bk, .pointer (some ⟨ab, 0, none⟩), .int .i64 e.an.ve, .int .i64 e.an.bo, .int .i64 e.an.si, .bool e.an.no, .string e.an.fr] 133 (0, 0))] } := ⟨_, rfl⟩
    replace hp3 : PD w2 B A2 D'.popD := by rw [hA2]; exact hp3
    have hb3 : Below B w w2 := by rw [hw2]; exact (HRS.out.bel.trans hb2).alloc hp2.base _
    have hF2 : Fit n D'.popD := HFT.out.pop hq
    have HL2 : Hid (∀ A' m, AdrLe A2 A' m → AdrLe A { A' with x := A.x } 0) := Lib.hid (by
     intro A' m hl
     rw [hA2] at hl
     have h1 := HL1.out
     exact ⟨hl.q.trans h1.q, hl.d0.trans h1.d0, hl.d1.trans h1.d1, hl.d2.trans h1.d2, hl.d3.trans h1.d3, hl.sv.trans h1.sv, hl.gv.trans h1.gv, hl.sb.trans h1.sb, hl.mb.trans h1.mb, rfl, fun j hj => absurd hj (by omega)⟩)
    have HXX : Hid (∀ A' m, AdrLe A2 A' m → ∃ y, A'.x = A.x ++ y) := Lib.hid (by
     intro A' m hl
     rw [hl.x, hA2, ← HL1.out.x]
     exact ⟨_, rfl⟩)
    have HE2 : Hid (EnvD w0 B A2 C R E P) := Lib.hid (by rw [hA2]; exact ⟨(HE.out.adr HL1.out).le, (HE.out.adr HL1.out).c, (HE.out.adr HL1.out).r, (HE.out.adr HL1.out).e, (HE.out.adr HL1.out).p, HE.out.rb, HE.out.eb⟩)
    have HA2 : Hid (A2.q = A.q ∧ A2.sb = A.sb ∧ A2.ab e.ak = ab ∧ A2.x[A1.x.length]? = some (w1.heap.size, Obj.cells #[.int .i64 e.ti, .bool e.bk, .pointer (some ⟨ab, 0, none⟩), .int .i64 e.an.ve, .int .i64 e.an.bo, .int .i64 e.an.si, .bool e.an.no, .string e.an.fr] 133 (0, 0))) := Lib.hid (by rw [hA2]; exact ⟨HL1.out.q, HL1.out.sb, HAB.out.symm, by simp⟩)
    have hk := hp3.fr HA2.out.2.2.2
    have HP3 := Lib.hid hp3
    have HB3 := Lib.hid hb3
    have HF2 := Lib.hid hF2
    have HW2 := Lib.hid hw2
    have HK := Lib.hid hk
    clear hp2 hb2 hp3 hb3 hw2 hF2 hA2 hk
    have HKC : Hid ((D'.popD.K e.ak).ca < D'.popD.st.length ∧ (D'.popD.K e.ak).ke.size ≤ 300) := Lib.hid (HF2.out.kk e.ak _ (Day.ak_at HJL.out))
    obtain ⟨i, hi⟩ : ∃ i, i = (D'.popD.K e.ak).ca := ⟨_, rfl⟩
    obtain ⟨s, hs⟩ : ∃ s, s = D'.popD.S i := ⟨_, rfl⟩
    have hsi : D'.popD.st[i]? = some s := by rw [hs]; exact Day.at_ (by rw [hi]; exact HKC.out.1)
    have hjk := Day.ak_at (D := D'.popD) HJL.out
    have hqb := HP3.out.qb.2
    rw [HA2.out.1] at hqb
    have hil : i < D'.popD.st.length := (List.getElem?_eq_some_iff.1 hsi).1
    have hne : List.range D'.popD.st.length ≠ [] := fun e => by rw [List.range_eq_nil] at e; omega
    obtain ⟨gs, scap, hsv, hg1, hg2, hg3, hg4, hgc, -⟩ := Own.getk (encP_len A2.sb) HP3.out.stores hne
    rw [List.length_range] at hsv
    obtain ⟨sl, hsl⟩ : ∃ n, n = D'.popD.st.length := ⟨_, rfl⟩
    rw [← hsl] at hsv
    have q4 : w2.cell? ⟨A.q, 4, none⟩ = some (.slice (some ⟨gs, 0, none⟩) sl scap) := by rw [cellF hqb 4 rfl, ← hsv]; rfl
    have hiz : (i : Int) < (sl : Int) := by omega
    have s0 : w2.cell? ⟨gs, i, none⟩ = some (.pointer (some ⟨A.sb i, 0, none⟩)) := by rw [← HA2.out.2.1]; have h := hgc i i 0 _ (by simp [hil]) rfl; simpa using h
    have hsb := (HP3.out.sb hsi).2
    rw [HA2.out.2.1] at hsb
    have s4 : w2.cell? ⟨A.sb i, 4, none⟩ = some (.int .i64 s.pa) := cellF hsb 4 rfl
    have hab := (HP3.out.ab hjk).2
    rw [HA2.out.2.2.1] at hab
    have a0 : w2.cell? ⟨ab, 0, none⟩ = some (.int .i64 (i : Nat)) := by rw [hi]; exact cellF hab 0 rfl
    have a3 : w2.cell? ⟨ab, 3, none⟩ = some (.string (D'.popD.K e.ak).ke) := cellF hab 3 rfl
    have b2 := cellF HK.out 2 (v := .pointer (some ⟨ab, 0, none⟩)) rfl
    have HNX : Hid ((⟨.arr, D', g5, p3⟩ : Cfg).next C R E P L lim = some ⟨.arr, D'.popD.arrD R E P e.ak, g5, p3⟩) := Lib.hid (by
     unfold Cfg.next; dsimp only
     rw [if_pos HHD.out, HEE.out])
    have hpar := HI.out.par _ _ HRS.out.inv rfl HHD.out
    have HPAR : Hid (s.pa < (D'.popD.st.length : Int)) := Lib.hid (by rw [hs, hi, HEE.out]; exact hpar)
    have HAR : Hid (D'.popD.arrD R E P e.ak = if 0 ≤ s.pa then D'.popD.cameD R P s.pa.toNat (D'.popD.S s.pa.toNat) (D'.popD.K e.ak).ke ⟨0, some e.ak⟩ else D'.popD.giveD ⟨0, some e.ak⟩ (oriM E (D'.popD.K e.ak).ke D'.popD.no)) := Lib.hid (by rw [hs, hi]; rfl)
    have HNA : Hid ((D'.popD.arrD R E P e.ak).no = t) := Lib.hid (by rw [Day.arrD_no]; exact HNO.out)
    have HA3 := Lib.hid a3
    have HB2K := Lib.hid b2
    clear hi hs hsi hjk hqb hne hsv hg1 hg2 hg3 hg4 hgc hsl hsb hab hpar hil
    go_upto_region 25 with (fail)
    rw [← HW2.out]
    clear hta
    go_quiet (fail)
    obtain ⟨w3, hw3⟩ : ∃ w3, w3 = w2.drewN nq := ⟨_, rfl⟩
    have hb23 : Below w2.heap.size w2 w3 := by rw [hw3]; exact below_drewN (Below.refl _ _) _
    have b3' : w3.cell? ⟨w1.heap.size, 2, none⟩ = some (.pointer (some ⟨ab, 0, none⟩)) := by rw [hw3]; exact HB2K.out
    have a3' : w3.cell? ⟨ab, 3, none⟩ = some (.string (D'.popD.K e.ak).ke) := by rw [hw3]; exact HA3.out
    rw [← hw3]
    have HP4 := Lib.hid (HP3.out.below hb23)
    have HB4 := Lib.hid (HB3.out.trans (hb23.mono HP3.out.base))
    clear hw3 hb23 a0 a3 b2 s0 s4 q4 hiz
    have HDN : Hid (∀ (W : World) (A9 : Adr), PD W B A9 (D'.popD.arrD R E P e.ak) → AdrLe A2 A9 D'.popD.ak.length → Below B w3 W → ∃ k'', k'' < k' ∧ RunS w B A P L I k W k'' ⟨.arr, D'.popD.arrD R E P e.ak, g5, p3⟩) := Lib.hid (fun W A9 hp hl hb =>
     HRS.out.work HI.out HNX.out rfl (hp.dropFr (HXX.out A9 _ hl)) (HL2.out A9 _ hl) (HB4.out.trans hb))
    by_cases hpa : 0 ≤ s.pa
    ·
     obtain ⟨i2, hi2⟩ : ∃ i2 : Nat, s.pa = (i2 : Int) := ⟨s.pa.toNat, by omega⟩
     rw [hi2] at hpa HPAR HAR ⊢
     have HAE2 : Hid (D'.popD.arrD R E P e.ak = D'.popD.cameD R P i2 (D'.popD.S i2) (D'.popD.K e.ak).ke ⟨0, some e.ak⟩) := Lib.hid (by rw [HAR.out, if_pos hpa, Int.toNat_natCast])
     have hcm := came_any w0 w3.drew B A2 D'.popD C R E P n i2 (D'.popD.S i2) (D'.popD.K e.ak).ke ⟨0, some e.ak⟩ (HP4.out.heapEq rfl) HF2.out (by omega) (Day.at_ (by have := HPAR.out; omega)) HJL.out HE2.out (HW0B.out _ (HB4.out.drew)) HKC.out.2
     rw [HA2.out.1, ← HAE2.out] at hcm
     have hcm2 : Calls Tryz.prog 71 #[.pointer (some ⟨A.q, 0, none⟩), .int .i64 (i2 : Nat), .string (D'.popD.K e.ak).ke, .agg #[.int .i64 0, .pointer (some ⟨ab, 0, none⟩)]] w3.drew fun e' w' => ∃ A', e' = .returned (.tuple #[]) ∧ PD w' B A' (D'.popD.arrD R E P e.ak) ∧ AdrLe A2 A' D'.popD.ak.length ∧ Below B w3.drew w' := by
      have e : Value.agg (encW A2.ab ⟨0, some e.ak⟩).toArray = .agg #[.int .i64 0, .pointer (some ⟨ab, 0, none⟩)] := by rw [← HA2.out.2.2.1]; rfl
      rw [e] at hcm
      exact hcm
     have HCM := Lib.hid hcm2
     have hpz : decide ((0 : Int) ≤ (i2 : Int)) = true := decide_eq_true hpa
     clear hcm hcm2 hi2
     go_upto_region 27 with (fail)
     clear hpz
     go_still_tail 10, (by kernel_rfl)
     change wpList _ _ _ _ _ w3.drew
     go_wp2_with fail
     refine HCM.out.mono ?_
     rintro r w5 ⟨A5, rfl, hp5, hl5, hb5⟩
     obtain ⟨k'', hk1, hk2⟩ := HDN.out w5 A5 hp5 hl5 (((Below.refl B w3).drew).trans hb5)
     have HKK := Lib.hid (And.intro hk1 hk2)
     clear hp5 hl5 hb5 hk1 hk2 b3' a3'
     go_wp2_with fail
     go_roundg k''
     case measure => have := HKK.out.1; have := HGK.out; omega
     case rel => exact ⟨k'', _, Nat.le_refl _, (show Aside _ from HKK.out.2), (show Aside (_ = _) from HNA.out)⟩
    ·
     have HAE2 : Hid (D'.popD.arrD R E P e.ak = D'.popD.giveD ⟨0, some e.ak⟩ (oriM E (D'.popD.K e.ak).ke D'.popD.no)) := Lib.hid (by rw [HAR.out, if_neg hpa])
     have hor := origin_any w3.drew B A2 D'.popD E (D'.popD.K e.ak).ke (HP4.out.heapEq rfl) (HE2.out.e.below (HW0B.out _ (HB4.out.drew)) (Nat.le_refl _))
     rw [HA2.out.1] at hor
     obtain ⟨y, hy⟩ : ∃ y, y = oriM E (D'.popD.K e.ak).ke D'.popD.no := ⟨_, rfl⟩
     rw [← hy] at hor HAE2
     have hgv : ∀ W, Below w3.heap.size w3 W → Calls Tryz.prog 72 #[.pointer (some ⟨A.q, 0, none⟩), .agg #[.int .i64 0, .pointer (some ⟨ab, 0, none⟩)], .agg #[.int .i64 y.ve, .int .i64 y.bo, .int .i64 y.si, .bool y.no, .string y.fr]] W fun e' w' => ∃ A', e' = .returned (.tuple #[]) ∧ PD w' B A' (D'.popD.arrD R E P e.ak) ∧ AdrLe A2 A' D'.popD.ak.length ∧ Below B W w' := fun W hb => by
      have H := give_any W B A2 D'.popD n ⟨0, some e.ak⟩ y (HP4.out.below hb) HF2.out (by omega) HJL.out
      rw [HA2.out.1, ← HAE2.out] at H
      have e : Value.agg (encW A2.ab ⟨0, some e.ak⟩).toArray = .agg #[.int .i64 0, .pointer (some ⟨ab, 0, none⟩)] := by rw [← HA2.out.2.2.1]; rfl
      rw [e] at H
      exact H
     have HOR := Lib.hid hor
     have HGV := Lib.hid hgv
     have HBD : Hid (Below w3.heap.size w3 w3.drew) := Lib.hid (Below.refl _ w3).drew
     have hpz : decide ((0 : Int) ≤ s.pa) = false := decide_eq_false hpa
     have hl1 : w1.heap.size < w3.heap.size := World.block_lt_of_cell? w3 _ b3'
     have hl2 : ab < w3.heap.size := World.block_lt_of_cell? w3 _ a3'
     have HSS : Hid (∀ W : World, Below w3.heap.size w3 W → W.cell? ⟨w1.heap.size, 2, none⟩ = some (.pointer (some ⟨ab, 0, none⟩)) ∧ W.cell? ⟨ab, 3, none⟩ = some (.string (D'.popD.K e.ak).ke)) := Lib.hid fun W hb => ⟨(hb.cell (p := ⟨w1.heap.size, 2, none⟩) hl1).trans b3', (hb.cell (p := ⟨ab, 3, none⟩) hl2).trans a3'⟩
     have HAB3 : Hid (∀ (W : World) (A9 : Adr), PD W B A9 (D'.popD.arrD R E P e.ak) → AdrLe A2 A9 D'.popD.ak.length → W.cell? ⟨w1.heap.size, 2, none⟩ = some (.pointer (some ⟨ab, 0, none⟩)) ∧ W.cell? ⟨ab, 3, none⟩ = some (.string (D'.popD.K e.ak).ke)) := Lib.hid fun W A9 hp hl => by
      have g1 := hp.fr (k := A1.x.length) (by rw [hl.x]; exact HA2.out.2.2.2)
      have hak : (D'.popD.arrD R E P e.ak).ak[e.ak]? = some (D'.popD.K e.ak) := by rw [HAE2.out, giveD_ak]; exact Day.ak_at HJL.out
      have g2 := (hp.ab hak).2
      rw [hl.ab _ HJL.out, HA2.out.2.2.1] at g2
      exact ⟨cellF g1 2 rfl, cellF g2 3 rfl⟩
     clear hor hgv hpa hl1 hl2 hy
     go_upto_region 28 with (fail)
     clear hpz
     go_region_held3 (fun W => W.cell? ⟨w1.heap.size, 2, none⟩ = some (.pointer (some ⟨ab, 0, none⟩)) ∧ W.cell? ⟨ab, 3, none⟩ = some (.string (D'.popD.K e.ak).ke))
      (first | exact HSS.out _ HBD.out | exact HSS.out _ HB8.out | exact HAB3.out _ _ HP9.out HL9.out | fail)
      (first | (go_at_call 73; (with_reducible refine HOR.out.mono ?_); rintro r w8 ⟨rfl, hb8⟩; have HB8 := Lib.hid (HBD.out.thru hb8); have HGV8 := Lib.hid (HGV.out _ (HBD.out.thru hb8)); clear hb8)
             | (go_at_call 72; (with_reducible refine HGV8.out.mono ?_); rintro r w9 ⟨A9, rfl, hp9, hl9, hb9⟩; have HP9 := Lib.hid hp9; have HL9 := Lib.hid hl9; have HB9 := Lib.hid ((HB8.out.mono HP4.out.base).trans hb9); clear hp9 hl9 hb9)
             | fail)
     obtain ⟨k'', hk1, hk2⟩ := HDN.out _ A9 HP9.out HL9.out HB9.out
     have HKK := Lib.hid (And.intro hk1 hk2)
     clear hk1 hk2 b3' a3'
     go_wp2_with fail
     go_roundg k''
     case measure => have := HKK.out.1; have := HGK.out; omega
     case rel => exact ⟨k'', _, Nat.le_refl _, (show Aside _ from HKK.out.2), (show Aside (_ = _) from HNA.out)⟩
structure InS (w : World) (C : List Cch) (R : List Crl) (E : List Rel) (P : List Pur) (L : List Gt) (vc vr ve vp vl : Value) : Prop where
 c : Sl w 4 encC vc C
 r : Sl w 4 encU vr R
 e : Sl w 4 encL ve E
 p : Sl w 2 encG vp P
 l : Sl w 3 encT vl L
theorem InS.below {w W : World} {C : List Cch} {R : List Crl} {E : List Rel} {P : List Pur} {L : List Gt} {vc vr ve vp vl : Value} (h : InS w C R E P L vc vr ve vp vl) (hb : Below w.heap.size w W) : InS W C R E P L vc vr ve vp vl :=
 ⟨h.c.below hb (Nat.le_refl _), h.r.below hb (Nat.le_refl _), h.e.below hb (Nat.le_refl _), h.p.below hb (Nat.le_refl _), h.l.below hb (Nat.le_refl _)⟩
set_option maxRecDepth 100000 in
set_option maxHeartbeats 4000000 in
theorem played_any (w : World) (C : List Cch) (R : List Crl) (E : List Rel) (P : List Pur) (L : List Gt) (vc vr ve vp vl : Value) (h : InS w C R E P L vc vr ve vp vl) (hv : Val C R E P L) :
 Calls Tryz.prog 31 #[.agg #[vc, vr, ve, vp], vl] w fun e w' => ∃ B A D X, e = .returned (.pointer (some ⟨A.q, 0, none⟩)) ∧ PD w' B A D ∧ w.heap.size ≤ B ∧ EndX C R E P L 1152921504606846976 X ∧ Sim C [] D X ∧ Below w.heap.size w w' := by
 obtain ⟨w2, hw2⟩ : ∃ w2, w2 = w.alloc (.cells #[vc, vr, ve, vp] 27) := ⟨_, rfl⟩
 have hb2 : Below w.heap.size w w2 := by rw [hw2]; exact (Below.refl _ w).alloc (Nat.le_refl _) _
 have hnb : w2.heap[w.heap.size]? = some (.cells #[vc, vr, ve, vp] 27 (0, 0)) := by rw [hw2]; exact block_new w _
 have q0 : w2.cell? ⟨w.heap.size, 0, none⟩ = some vc := cellF hnb 0 rfl
 have q1 : w2.cell? ⟨w.heap.size, 1, none⟩ = some vr := cellF hnb 1 rfl
 have q2 : w2.cell? ⟨w.heap.size, 2, none⟩ = some ve := cellF hnb 2 rfl
 have q3 : w2.cell? ⟨w.heap.size, 3, none⟩ = some vp := cellF hnb 3 rfl
 have hs := h.below hb2
 have HC30 := hv.c
 have HL := hv.l
 have HN := Lib.hid (newWorld_any w2 C vc vr ve vp L.length hs.c HL (by omega))
 have HRN : Hid (∀ (W : World) (A : Adr), PD W w2.heap.size A (day0 (C.map (stoOf C)) L.length) → A.d0 = vc → A.d1 = vr → A.d2 = ve → A.d3 = vp → Below w2.heap.size w2 W →
  Calls Tryz.prog 39 #[.pointer (some ⟨A.q, 0, none⟩), vl, .int .i64 1152921504606846976] W fun e w' => ∃ A' D X, A'.q = A.q ∧ e = .returned (.tuple #[]) ∧ PD w' w2.heap.size A' D ∧ EndX C R E P L 1152921504606846976 X ∧ Sim C [] D X ∧ Below w2.heap.size W w') := Lib.hid fun W A hp e0 e1 e2 e3 hb => by
  refine (run_any w2 W w2.heap.size A _ C R E P L vl 1152921504606846976 (InvB C R E P L 1152921504606846976 (xd0 C L.length)) (muX C P L (xd0 C L.length)) (runInv hv _) hp ⟨_, both0 hv _, rfl⟩ ⟨Nat.le_refl _, by rw [e0]; exact hs.c, by rw [e1]; exact hs.r, by rw [e2]; exact hs.e, by rw [e3]; exact hs.p, hv.rb, fun x hx => ?_⟩ hb hs.l ⟨by decide, by decide⟩ ⟨by have := hv.p; omega, HL⟩ (fun x hx => (hv.pt x hx).2)).mono ?_
  ·obtain ⟨g1, g2, _⟩ := hv.e x hx
   cases hg : x.go
   ·have := g2 hg; omega
   ·have := g1 hg; omega
  ·rintro e w' ⟨A', k, c, rfl, h1, h2, h3, h4, h5⟩
   obtain ⟨X, h6, h7⟩ := endX_of h4 h5
   exact ⟨A', c.D, X, h2.q, rfl, h1, h6, h7, h3⟩
 obtain ⟨ao, cap, rfl, hcap, hmax, -, -⟩ := h.l
 have HB2 := Lib.hid hb2
 have HW2 := Lib.hid hw2
 clear hs hnb hb2 hw2 h hv HC30
 go_enter Tryz.func31, Tryz.ntmps31
 go_upto_region 1 with (fail)
 rw [← HW2.out]
 go_wp2_with (go_at_call 37; (with_reducible refine HN.out.mono ?_); rintro e w3 ⟨A, rfl, hp, e0, e1, e2, e3, hb3⟩; have HR2 := Lib.hid (HRN.out w3 A hp e0 e1 e2 e3 hb3); have HB3 := Lib.hid hb3; clear hp e0 e1 e2 e3 hb3 q0 q1 q2 q3)
 go_wp2_with (go_at_call 39; (with_reducible refine HR2.out.mono ?_); rintro e w4 ⟨A', D, X, hq, rfl, hp, hE, hS, hb4⟩; have HP := Lib.hid hp; have HQ := Lib.hid hq; have HES := Lib.hid (And.intro hE hS); have HB4 := Lib.hid hb4; clear hp hE hS hb4 hq)
 go_wp2_with fail
 go_ret
 exact ⟨w2.heap.size, A', D, X, by rw [HQ.out]; rfl, HP.out, HB2.out.size, HES.out.1, HES.out.2, HB2.out.thru (HB3.out.trans HB4.out)⟩
section
variable (R : List Crl) (E : List Rel) (P : List Pur) (L : List Gt)
def totH (l : List Xh) : Int := (l.map fun h => needA h.an).foldr (· + ·) 0
end
section
variable {C : List Cch} {R : List Crl} {E : List Rel} {P : List Pur} {L : List Gt} {X : Xd} {pd : List Xw}
theorem totH_cons (x : Xh) (l : List Xh) : totH (x :: l) = needA x.an + totH l := rfl
theorem totH_app (l m : List Xh) : totH (l ++ m) = totH l + totH m := by
 induction l with
 | nil => show _ = 0 + _; simp
 | cons a l ih => rw [List.cons_append, totH_cons, totH_cons, ih]; omega
theorem totK_totH {l : List Xh} {f : ByteArray → Hld} : ∀ (m : List Xh), (∀ x, x ∈ m → (f x.ke).an = x.an) → totK f (m.map Xh.ke) = totH m
 | [], _ => rfl
 | a :: m, h => by
  show needA (f a.ke).an + totK f (m.map Xh.ke) = _
  rw [totK_totH (l := l) m fun x hx => h x (List.mem_cons_of_mem _ hx), h a (List.mem_cons_self ..), totH_cons]
end
section
variable {C : List Cch} {R : List Crl} {E : List Rel} {P : List Pur} {L : List Gt} {X : Xd} {pd : List Xw}
end
end Go.Proofs.YtgohddfnhofjhaaGreatDoor

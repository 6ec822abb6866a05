/- The day as the document tells it: how it begins and how it ends. -/
import Derived.Test.YtgohddfnhofjhaaGreatDoorK15
import Derived.Test.YtgohddfnhofjhaaGreatDoorK01
namespace Go.Proofs.YtgohddfnhofjhaaGreatDoor
open Go.RowKit
section
variable {C : List Cch} {R : List Crl} {E : List Rel} {P : List Pur} {L : List Gt} {X : Xd} {D : Day} {pd : List Xw}
theorem Sim.BO (h : Sim C pd D X) (hq : 0 < D.qu.length) (e : Evn) : e ∈ (hpop (bfr D.K) D.qu).2 ↔ e ∈ D.qu ∧ e ≠ hdE D := by
 have hne := List.length_pos_iff.1 hq; have hp := jT (lt := bfr D.K) hne; rw [xy hne] at hp; have hn : (hat D.qu 0 :: (hpop (bfr D.K) D.qu).2).Nodup := hp.nodup_iff.2 h.nd; have hm : e ∈ hat D.qu 0 :: (hpop (bfr D.K) D.qu).2 ↔ e ∈ D.qu := hp.mem_iff; rw [List.mem_cons] at hm; obtain ⟨h1, _⟩ := List.nodup_cons.1 hn; constructor
 ·exact fun he => ⟨hm.1 (.inr he), fun e0 => h1 (by rw [e0] at he; exact he)⟩
 ·rintro ⟨h2, h3⟩; exact (hm.2 h2).resolve_left h3
theorem Sim.FQ (h : Sim C pd D X) (hq : 0 < D.qu.length) : (hpop (bfr D.K) D.qu).2.Nodup := by
 have hne := List.length_pos_iff.1 hq; have hp := jT (lt := bfr D.K) hne; exact (List.nodup_cons.1 (hp.nodup_iff.2 h.nd)).2
theorem Sim.done (h : Sim C pd D X) (hx : aP C P L pd X) (hq : 0 < D.qu.length) (hb : (hdE D).bk = true) :
 Sim C ((X.K (hdE D).ak).ws ++ pd) (D.bM.bz (D.K (hdE D).ak).ca (lg (D.S (D.K (hdE D).ak).ca) (hdE D).ak (hdE D).an.si)) (X.bP (hdE D).ak) ∧ (hdE D).an = (X.K (hdE D).ak).go := by
 obtain ⟨e, he⟩ : ∃ e, e = hdE D := ⟨_, rfl⟩
 have hmem : e ∈ D.qu := by rw [he]; exact dU hq
 rw [← he] at hb ⊢; obtain ⟨j, hj0⟩ : ∃ j, j = e.ak := ⟨_, rfl⟩
 rw [← hj0]; obtain ⟨k, hk, hh⟩ := (h.ev e).1 hmem; rw [← hj0] at hk; have hkK := Xd.zK hk; have hj : j < X.ak.length := (List.getElem?_eq_some_iff.1 hk).1; rcases hh with ⟨g1, _⟩ | ⟨_, hkn, hd, hti, han⟩
 ·rw [hb] at g1; cases g1
 rw [← hkK] at hk hkn hd hti han; refine ⟨?_, han⟩; have hcm := (hx.kk j _ hk).2.2.1 hkn; have hci : (X.K j).ca < C.length := (hx.kk j _ hk).1; obtain ⟨hs, g⟩ := h.at_ hci; rw [(h.Kck j).1, han]; have hil : (X.K j).ca < X.ld.length := by rw [hx.le.2.1]; exact hci
 have hpm : (((X.K j).ws ++ pd) ++ aB (X.bT j { X.K j with dn := true })).Perm (pd ++ aB X) := by
  have h1 := eu (k' := { X.K j with dn := true }) hk; have e1 : iP (X.K j) = (X.K j).ws := if_neg (by simp [hd]); have e2 : iP { X.K j with dn := true } = [] := if_pos rfl; rw [e1, e2, List.nil_append] at h1; refine (List.Perm.append_right _ List.perm_append_comm).trans ?_; rw [List.append_assoc]; exact List.Perm.append_left pd h1
 have hlive : ∀ b, je (X.bT j { X.K j with dn := true }) b = if b = (X.K j).ca then (je X b).filter fun o => !decide (o = j) else je X b := fun b => by
  unfold je; rw [bG]; by_cases eb : b = (X.K j).ca
  ·rw [if_pos eb, List.filter_filter]; refine List.filter_congr fun c _ => ?_
   rw [Xd.dB hj]; by_cases ec : c = j
   ·rw [if_pos ec, ec]; simp
   ·rw [if_neg ec]; simp [ec]
  ·rw [if_neg eb]; refine List.filter_congr fun c _ => ?_
   rw [Xd.dB hj]; by_cases ec : c = j
   ·rw [if_pos ec, ec]; simp [Ne.symm eb]
   ·rw [if_neg ec]
 have hL : ∀ b, (X.bP j).Ld b = if b = (X.K j).ca then GY (X.K j).go.si (X.Ld (X.K j).ca) else X.Ld b := fun b => jI (X := X.bT j { X.K j with dn := true }) hil
 exact {
  len := by show (D.st.set _ _).length = _; rw [List.length_set]; exact h.len
  st := fun b t ht => by
   rcases bI ht with ⟨rfl, rfl⟩ | ⟨hne, ht⟩
   ·refine ⟨g.ch, g.pa, ?_, ?_, g.he⟩
    ·rw [hL, if_pos rfl, ← g.ld]; rfl
    ·show (D.S (X.K j).ca).ar.filter _ = je (X.bT j { X.K j with dn := true }) (X.K j).ca
     rw [hlive, if_pos rfl, ← g.ar]
   ·have g2 := h.st b t ht; refine ⟨g2.ch, g2.pa, ?_, ?_, g2.he⟩
    ·rw [hL, if_neg hne]; exact g2.ld
    ·show t.ar = je (X.bT j { X.K j with dn := true }) b
     rw [hlive, if_neg hne]; exact g2.ar
  ak := by
   show D.ak = (X.ak.set j _).map _
   rw [dN (k' := { X.K j with dn := true }) hk rfl, ← h.ak]
  wa := fun b hbl => by
   have hbl' : b < X.ak.length := by
    have : b < (X.bT j { X.K j with dn := true }).ak.length := hbl; rw [bG] at this; exact this
   show D.wa b = ((X.bT j { X.K j with dn := true }).K b).ws.map _
   rw [h.wa b hbl', Xd.dB hj]; split
   ·rename_i e; rw [e]
   ·rfl
  ev := fun e' => by
   show e' ∈ (hpop (bfr D.K) D.qu).2 ↔ _
   rw [h.BO hq, h.ev, ← he]; unfold D8; constructor
   ·rintro ⟨⟨k', hk', hh'⟩, hne⟩; by_cases ej : e'.ak = j
    ·exfalso
     rw [ej, hk] at hk'; cases hk'
     rcases hh' with ⟨_, g2, _⟩ | ⟨g1, g2, g3, g4, g5⟩
     ·rw [hcm] at g2; cases g2
     ·apply hne; obtain ⟨t1, b1, q1, a1⟩ := e; obtain ⟨t2, b2, q2, a2⟩ := e'
      dsimp only at *
      subst hb g1 hti g4 han g5 hj0 ej
      rfl
    ·exact ⟨k', by show (X.ak.set j _)[e'.ak]? = _; rw [List.getElem?_set_ne (Ne.symm ej)]; exact hk', hh'⟩
   ·rintro ⟨k', hk', hh'⟩; rcases aX hk' with ⟨ej, rfl⟩ | ⟨ej, hk'⟩
    ·rcases hh' with ⟨_, g2, _⟩ | ⟨_, _, g3, _⟩
     ·have g2' : (X.K j).cm = false := g2; rw [hcm] at g2'; cases g2'
     ·cases g3
    ·exact ⟨⟨k', hk', hh'⟩, fun e0 => ej (by rw [e0, hj0])⟩
  nd := h.FQ hq
  hp := uj (iL _) h.hp (List.length_pos_iff.1 hq)
  no := h.no
  gl := h.gl
  g1 := fun v hv => h.g1 v (hpm.subset hv)
  g2 := fun g hg => h.g2 g fun v hv => hg v (hpm.symm.subset hv) }
theorem Sim.J7 (h : Sim C pd D X) (hx : aP C P L pd X) (hq : 0 < D.qu.length) (hb : (hdE D).bk = false) : Sim C pd D.bM (X.cZ (hdE D).ak) := by
 obtain ⟨e, he⟩ : ∃ e, e = hdE D := ⟨_, rfl⟩
 have hmem : e ∈ D.qu := by rw [he]; exact dU hq
 rw [← he] at hb ⊢; obtain ⟨j, hj0⟩ : ∃ j, j = e.ak := ⟨_, rfl⟩
 rw [← hj0]; obtain ⟨k, hk, hh⟩ := (h.ev e).1 hmem; rw [← hj0] at hk; have hkK := Xd.zK hk; have hj : j < X.ak.length := (List.getElem?_eq_some_iff.1 hk).1; rcases hh with ⟨_, hcm, hti, han⟩ | ⟨g1, _⟩
 case inr => rw [hb] at g1; cases g1
 rw [← hkK] at hk hcm hti; have hkn : (X.K j).kn = false := by
  cases e0 : (X.K j).kn
  ·rfl
  ·have := (hx.kk j _ hk).2.2.1 e0; rw [hcm] at this; cases this
 have hpm := iQ (k' := { X.K j with cm := true }) hk rfl; show Sim C pd D.bM (X.bT j { X.K j with cm := true })
 exact {
  len := h.len
  st := fun b t ht => by
   have g := h.st b t ht; exact ⟨g.ch, g.pa, g.ld, by rw [kT (k' := { X.K j with cm := true }) hj rfl rfl]; exact g.ar, g.he⟩
  ak := by
   show D.ak = (X.ak.set j _).map _
   rw [dN (k' := { X.K j with cm := true }) hk rfl, ← h.ak]
  wa := fun b hbl => by
   rw [bG] at hbl; show D.wa b = _
   rw [h.wa b hbl, Xd.dB hj]; split
   ·rename_i e; rw [e]
   ·rfl
  ev := fun e' => by
   show e' ∈ (hpop (bfr D.K) D.qu).2 ↔ _
   rw [h.BO hq, h.ev, ← he]; unfold D8; constructor
   ·rintro ⟨⟨k', hk', hh'⟩, hne⟩; by_cases ej : e'.ak = j
    ·exfalso
     rw [ej, hk] at hk'; cases hk'
     rcases hh' with ⟨g1, g2, g4, g5⟩ | ⟨_, g2, _⟩
     ·apply hne; obtain ⟨t1, b1, q1, a1⟩ := e; obtain ⟨t2, b2, q2, a2⟩ := e'
      dsimp only at *
      subst hb g1 hti g4 han g5 hj0 ej
      rfl
     ·rw [hkn] at g2; cases g2
    ·exact ⟨k', by show (X.ak.set j _)[e'.ak]? = _; rw [List.getElem?_set_ne (Ne.symm ej)]; exact hk', hh'⟩
   ·rintro ⟨k', hk', hh'⟩; rcases aX hk' with ⟨ej, rfl⟩ | ⟨ej, hk'⟩
    ·rcases hh' with ⟨_, g2, _⟩ | ⟨_, g2, _⟩
     ·cases g2
     ·have g2' : (X.K j).kn = true := g2; rw [hkn] at g2'; cases g2'
    ·exact ⟨⟨k', hk', hh'⟩, fun e0 => ej (by rw [e0, hj0])⟩
  nd := h.FQ hq
  hp := uj (iL _) h.hp (List.length_pos_iff.1 hq)
  no := h.no
  gl := h.gl
  g1 := fun v hv => h.g1 v ((hpm.append_left pd).subset hv)
  g2 := fun g hg => h.g2 g fun v hv => hg v ((hpm.append_left pd).symm.subset hv) }
theorem Sim.Eo (h : Sim C pd D X) (key : ByteArray) : Sim C pd (D.FP key) (X.yG key) :=
 { h with
   len := by show (D.st.map _).length = _; rw [List.length_map]; exact h.len
   st := fun i t ht => by
    have ht' : (D.st.map fun s => { s with ks := rmv key s.ks })[i]? = some t := ht; rw [List.getElem?_map] at ht'; cases hs : D.st[i]? with
    | none => rw [hs] at ht'; cases ht'
    | some s =>
     rw [hs] at ht'; cases ht'
     have g := h.st i s hs; refine ⟨g.ch, g.pa, g.ld, g.ar, ?_⟩; have e : (X.yG key).H i = eH (X.H i) key := by
      show (X.he.map fun l => eH l key).getD i [] = _
      rw [Lt, List.getElem?_map]; unfold Xd.H; rw [Lt]; cases X.he[i]? <;> rfl
     rw [e]; exact g.he.del key }
theorem Sim.now (h : Sim C pd D X) (t : Int) : Sim C pd (D.IP t) { X with no := t } :=
 { h with
   no := rfl
   st := fun i s hs => by
    have g := h.st i s hs; exact ⟨g.ch, g.pa, g.ld, g.ar, g.he⟩ }
theorem Sim.FZ (h : Sim C pd D X) (hx : aP C P L pd X) : (∀ (_ : 0 < D.qu.length ∧ (hdE D).ti = D.no ∧ (hdE D).bk = true), X.gV = some (hdE D).ak) ∧ (¬ (0 < D.qu.length ∧ (hdE D).ti = D.no ∧ (hdE D).bk = true) → X.gV = none) := by
 have key : ∀ j, X.gV = some j → 0 < D.qu.length ∧ (hdE D).ti = D.no ∧ (hdE D).bk = true ∧ (hdE D).ak = j := fun j hj => by
  obtain ⟨⟨g1, g2, g3, g4⟩, g5⟩ := fF hj; have hm : (⟨(X.K j).bk, true, j, (X.K j).go⟩ : Evn) ∈ D.qu := (h.ev _).2 ⟨X.K j, Xd.at_ g1, .inr ⟨rfl, g2, g3, rfl, rfl⟩⟩; have hq : 0 < D.qu.length := List.length_pos_iff.2 (List.ne_nil_of_mem hm); have hl := kW (iL D.K) h.hp hm; obtain ⟨k, hk, hh⟩ := (h.ev _).1 (dU hq); have hK := Xd.zK hk; have hle : (hdE D).ti ≤ X.no := by
   rw [← g4]; have hl' : bfr D.K ⟨(X.K j).bk, true, j, (X.K j).go⟩ (hdE D) = false := hl; unfold bfr at hl'
   dsimp only at hl'
   by_cases e : (X.K j).bk = (hdE D).ti
   ·omega
   ·rw [if_pos e] at hl'; simp at hl'
    exact hl'
  have hge : X.no ≤ (hdE D).ti := by
   have t := hx.tm _ k hk; rcases hh with ⟨_, a2, a3, _⟩ | ⟨_, a2, a3, a4, _⟩
   ·rw [a3]; exact (t.2.1 a2).1
   ·rw [a4]; exact (t.2.2 a2 a3).1
  have hti : (hdE D).ti = X.no := by omega
  have hbk : (hdE D).bk = true := by
   cases hb : (hdE D).bk
   ·exfalso
    have hl' : bfr D.K ⟨(X.K j).bk, true, j, (X.K j).go⟩ (hdE D) = false := hl; unfold bfr at hl'
    dsimp only at hl'
    rw [if_neg (by rw [hti, g4]; simp), hb] at hl'; simp at hl'
   ·rfl
  refine ⟨hq, by rw [h.no]; exact hti, hbk, ?_⟩; have hl1 : gu X j (hdE D).ak = false := by
   have := rQ (X := X) (e := ⟨(X.K j).bk, true, j, (X.K j).go⟩) (o := hdE D) h.Kck (by rw [hti]; exact g4) hbk.symm; rw [← this]; exact hl
  have hl2 : gu X (hdE D).ak j = false := by
   refine g5 _ (List.getElem?_eq_some_iff.1 hk).1 ?_ ?_ ?_ <;> rw [hK]
   ·rcases hh with ⟨a1, _⟩ | ⟨_, a2, _⟩
    ·rw [hbk] at a1; cases a1
    ·exact a2
   ·rcases hh with ⟨a1, _⟩ | ⟨_, _, a3, _⟩
    ·rw [hbk] at a1; cases a1
    ·exact a3
   ·rcases hh with ⟨a1, _⟩ | ⟨_, _, _, a4, _⟩
    ·rw [hbk] at a1; cases a1
    ·rw [← a4]; exact hti
  exact (gp X).2.2.2 _ _ hl2 hl1
 constructor
 ·rintro ⟨hq, hti, hbk⟩; cases hn : X.gV with
  | some j => rw [(key j hn).2.2.2]
  | none =>
   exfalso
   obtain ⟨k, hk, hh⟩ := (h.ev _).1 (dU hq); have hK := Xd.zK hk; rcases hh with ⟨a1, _⟩ | ⟨_, a2, a3, a4, _⟩
   ·rw [hbk] at a1; cases a1
   ·refine kQ hn _ (List.getElem?_eq_some_iff.1 hk).1 ?_ ?_ ?_ <;> rw [hK]
    ·exact a2
    ·exact a3
    ·rw [← a4, hti, h.no]
 ·intro hn; cases hb : X.gV with
  | none => rfl
  | some j =>
   obtain ⟨g1, g2, g3, _⟩ := key j hb; exact absurd ⟨g1, g2, g3⟩ hn
theorem Sim.Ja (h : Sim C pd D X) (hx : aP C P L pd X) (hb : X.gV = none) : (∀ (_ : 0 < D.qu.length ∧ (hdE D).ti = D.no), X.lN = some (hdE D).ak ∧ (hdE D).bk = false) ∧ (¬ (0 < D.qu.length ∧ (hdE D).ti = D.no) → X.lN = none) := by
 have hnb : 0 < D.qu.length → (hdE D).ti = D.no → (hdE D).bk = false := fun hq hti => by
  cases hbk : (hdE D).bk
  ·rfl
  ·have := (h.FZ hx).1 ⟨hq, hti, hbk⟩; rw [hb] at this; cases this
 have key : ∀ j, X.lN = some j → 0 < D.qu.length ∧ (hdE D).ti = D.no ∧ (hdE D).ak = j := fun j hj => by
  obtain ⟨⟨g1, g2, g3⟩, g5⟩ := gG hj; have hm : (⟨(X.K j).ar, false, j, ⟨0, 0, 0, false, ⟨#[]⟩⟩⟩ : Evn) ∈ D.qu := (h.ev _).2 ⟨X.K j, Xd.at_ g1, .inl ⟨rfl, g2, rfl, rfl⟩⟩; have hq : 0 < D.qu.length := List.length_pos_iff.2 (List.ne_nil_of_mem hm); have hl := kW (iL D.K) h.hp hm; obtain ⟨k, hk, hh⟩ := (h.ev _).1 (dU hq); have hK := Xd.zK hk; have hle : (hdE D).ti ≤ X.no := by
   rw [← g3]; have hl' : bfr D.K ⟨(X.K j).ar, false, j, ⟨0, 0, 0, false, ⟨#[]⟩⟩⟩ (hdE D) = false := hl; unfold bfr at hl'
   dsimp only at hl'
   by_cases e : (X.K j).ar = (hdE D).ti
   ·omega
   ·rw [if_pos e] at hl'; simp at hl'
    exact hl'
  have hge : X.no ≤ (hdE D).ti := by
   have t := hx.tm _ k hk; rcases hh with ⟨_, a2, a3, _⟩ | ⟨_, a2, a3, a4, _⟩
   ·rw [a3]; exact (t.2.1 a2).1
   ·rw [a4]; exact (t.2.2 a2 a3).1
  have hti : (hdE D).ti = X.no := by omega
  have hbk := hnb hq (by rw [h.no]; exact hti); refine ⟨hq, by rw [h.no]; exact hti, ?_⟩; have hl1 : gu X j (hdE D).ak = false := by
   have := rQ (X := X) (e := ⟨(X.K j).ar, false, j, ⟨0, 0, 0, false, ⟨#[]⟩⟩⟩) (o := hdE D) h.Kck (by rw [hti]; exact g3) hbk.symm; rw [← this]; exact hl
  have hl2 : gu X (hdE D).ak j = false := by
   refine g5 _ (List.getElem?_eq_some_iff.1 hk).1 ?_ ?_ <;> rw [hK]
   ·rcases hh with ⟨_, a2, _⟩ | ⟨a1, _⟩
    ·exact a2
    ·rw [hbk] at a1; cases a1
   ·rcases hh with ⟨_, _, a3, _⟩ | ⟨a1, _⟩
    ·rw [← a3]; exact hti
    ·rw [hbk] at a1; cases a1
  exact (gp X).2.2.2 _ _ hl2 hl1
 constructor
 ·rintro ⟨hq, hti⟩; refine ⟨?_, hnb hq hti⟩; cases hn : X.lN with
  | some j => rw [(key j hn).2.2]
  | none =>
   exfalso
   obtain ⟨k, hk, hh⟩ := (h.ev _).1 (dU hq); have hK := Xd.zK hk; rcases hh with ⟨_, a2, a3, _⟩ | ⟨a1, _⟩
   ·refine pW hn _ (List.getElem?_eq_some_iff.1 hk).1 ?_ ?_ <;> rw [hK]
    ·exact a2
    ·rw [← a3, hti, h.no]
   ·rw [hnb hq hti] at a1; cases a1
 ·intro hn; cases hb : X.lN with
  | none => rfl
  | some j =>
   obtain ⟨g1, g2, _⟩ := key j hb; exact absurd ⟨g1, g2⟩ hn
end
theorem qF {α : Type} (f : α → Nat) : ∀ (l : List α) (j : Nat) (k k' : α), l[j]? = some k → ((l.set j k').map f).sum + f k = (l.map f).sum + f k'
 | [], _, _, _, h => by cases h
 | a :: l, 0, k, k', h => by
  have e : a = k := by simpa using h
  subst e; rw [List.set_cons_zero, List.map_cons, List.map_cons, List.sum_cons, List.sum_cons]; omega
 | a :: l, j + 1, k, k', h => by
  have h' : l[j]? = some k := by simpa using h
  have ih := qF f l j k k' h'; rw [List.set_cons_succ, List.map_cons, List.map_cons, List.sum_cons, List.sum_cons]; omega
def wK (k : Xk) : Nat := (if k.cm = true then 0 else 2 * k.ca + 1) + (if k.dn = true then 0 else 1)
def lT (X : Xd) : Nat := (X.ak.map wK).sum
section
variable (C : List Cch) (P : List Pur) (L : List Gt)
def wG (x : Gt) : Nat := 2 * (fC C x.ca).toNat + 3
def muX (X : Xd) : Nat := lT X + ((L.drop X.nx).map (wG C)).sum + (P.length - X.pg)
end
def NoB (X : Xd) : Prop := ∀ a, a < X.ak.length → (X.K a).kn = true → (X.K a).dn = false → (X.K a).bk ≠ X.no
theorem NoB.none {X : Xd} (h : NoB X) : X.gV = none := by
 cases hb : X.gV with
 | none => rfl
 | some j =>
  obtain ⟨⟨g1, g2, g3, g4⟩, _⟩ := fF hb; exact absurd g4 (h j g1 g2 g3)
section
variable {C : List Cch} {R : List Crl} {E : List Rel} {P : List Pur} {L : List Gt} {X : Xd} {D : Day} {pd : List Xw}
structure Lf (X X' : Xd) (b : Bool) (n m : Nat) : Prop where
 nx : X'.nx = X.nx
 pg : X'.pg = X.pg
 no : X'.no = X.no
 nb : NoB X → NoB X'
 sk : lT X' ≤ lT X + n
 wt : (aB X').length ≤ (aB X).length + m
theorem Lf.trans {X Y Z : Xd} {a b : Bool} {n m n' m' : Nat} (h : Lf X Y a n m) (k : Lf Y Z b n' m') : Lf X Z true (n + n') (m + m') :=
 ⟨k.nx.trans h.nx, k.pg.trans h.pg, k.no.trans h.no, fun g => k.nb (h.nb g), by have := h.sk; have := k.sk; omega, by have := h.wt; have := k.wt; omega⟩
theorem Lf.same {X X' : Xd} (h1 : X'.ak = X.ak) (h2 : X'.nx = X.nx) (h3 : X'.pg = X.pg) (h4 : X'.no = X.no) : Lf X X' true 0 0 := by
 refine ⟨h2, h3, h4, fun g a ha => ?_, ?_, ?_⟩
 ·unfold Xd.K; rw [h1] at ha ⊢; rw [h4]; exact g a ha
 ·unfold lT; rw [h1]; exact Ls _
 ·unfold aB; rw [h1]; exact Ls _
theorem Lf.bT {j : Nat} {k' : Xk} {n m : Nat} (hj : j < X.ak.length) (h1 : wK k' ≤ wK (X.K j) + n) (h2 : (iP k').length ≤ (iP (X.K j)).length + m) (h3 : ((X.K j).kn = true → (X.K j).dn = false → (X.K j).bk ≠ X.no) → k'.kn = true → k'.dn = false → k'.bk ≠ X.no) : Lf X (X.bT j k') true n m := by
 have hk := Xd.at_ hj; refine ⟨rfl, rfl, rfl, fun g a ha => ?_, ?_, ?_⟩
 ·rw [bG] at ha; rw [Xd.dB hj]; split
  ·exact h3 (fun g1 g2 => g j hj g1 g2)
  ·exact g a ha
 ·have := qF wK X.ak j _ k' hk; show ((X.ak.set j k').map wK).sum ≤ (X.ak.map wK).sum + n
  omega
 ·have := (eu (k' := k') hk).length_eq; rw [List.length_append, List.length_append] at this; omega
theorem Lf.give {w : Xw} {a : Ans} (hV : ∀ (i : Nat) (x : Cch), C[i]? = some x → 1 ≤ x.de ∧ x.de ≤ 100000) (hj : ∀ j, w.ak = some j → j < X.ak.length ∧ (X.K j).ca < C.length) : Lf X (X.aI C w a) true 0 0 := by
 unfold Xd.aI; cases hw : w.ak with
 | none => exact Lf.same rfl rfl rfl rfl
 | some j =>
  obtain ⟨h1, h2⟩ := hj j hw; have hde : 1 ≤ deO C (X.K j).ca := (hV (X.K j).ca (C.getD (X.K j).ca default) (by rw [Lt, Lu h2]; rfl)).1; exact Lf.bT (k' := { X.K j with kn := true, go := a, bk := X.no + deO C (X.K j).ca }) h1 (Ls _) (Ls _) (fun _ _ _ => by show X.no + deO C (X.K j).ca ≠ X.no; omega)
theorem Lf.start {i : Nat} {key : ByteArray} {al : Bool} {ws : List Xw} : Lf X (X.aA C i key al ws) true (2 * i + 2) ws.length := by
 refine ⟨rfl, rfl, rfl, fun g a ha => ?_, ?_, ?_⟩
 ·have hl : (X.aA C i key al ws).ak.length = X.ak.length + 1 := by show (X.ak ++ [_]).length = _; simp
  rw [hl] at ha; by_cases e : a < X.ak.length
  ·have hk : (X.aA C i key al ws).K a = X.K a := by
    show (X.ak ++ [_]).getD a default = _
    rw [Lt, List.getElem?_append_left e, ← Lt]
    rfl
   rw [hk]; exact g a e
  ·have hk : ((X.aA C i key al ws).K a).kn = false := by
    show ((X.ak ++ [_]).getD a default).kn = false
    rw [Lt, List.getElem?_append_right (by omega), show a - X.ak.length = 0 by omega]
    rfl
   rw [hk]; intro h; cases h
 ·show ((X.ak ++ [_]).map wK).sum ≤ (X.ak.map wK).sum + _
  rw [List.map_append, List.sum_append]; simp [wK]
 ·show ((X.ak ++ [_]).flatMap iP).length ≤ (X.ak.flatMap iP).length + _
  rw [List.flatMap_append, List.length_append]; simp [iP]
theorem Lf.join {j : Nat} {w : Xw} (hj : j < X.ak.length) : Lf X (X.nK j w) true 0 1 :=
 Lf.bT (k' := { X.K j with ws := (X.K j).ws ++ [w] }) hj (Ls _) (by unfold iP; dsimp only; split <;> simp) (fun h => h)
theorem Lf.mono {X X' : Xd} {b : Bool} {n m n' m' : Nat} (h : Lf X X' b n m) (hn : n ≤ n') (hm : m ≤ m') : Lf X X' b n' m' :=
 ⟨h.nx, h.pg, h.no, h.nb, by have := h.sk; omega, by have := h.wt; omega⟩
theorem Lf.come {i : Nat} {key : ByteArray} {ge : Nat} {ak : Option Nat} (hV : ∀ (i : Nat) (x : Cch), C[i]? = some x → 1 ≤ x.de ∧ x.de ≤ 100000) (hj : ∀ j, ak = some j → j < X.ak.length ∧ (X.K j).ca < C.length) : Lf X (X.aY C R P i key ge ak) true (2 * i + 2) 1 := by
 have S1 : ∀ f, Lf X ((X.aO i dw).aO i f) true 0 0 := fun f => Lf.same rfl rfl rfl rfl
 have S2 : ∀ f l, Lf X (((X.aO i dw).aO i f).setH i l) true 0 0 := fun f l => Lf.same rfl rfl rfl rfl
 have N : ∀ al, Lf X ((X.aO i dw).aA C i key al [⟨ge, ak, 3⟩]) true (2 * i + 2) 1 := fun al => ((Lf.same (X := X) (X' := X.aO i dw) rfl rfl rfl rfl).trans Lf.start).mono (by omega) (by simp)
 unfold Xd.aY; split
 ·exact N true
 ·split
  ·split
   ·exact ((S2 yO _).trans (Lf.give (w := ⟨ge, ak, 1⟩) (X := ((X.aO i dw).aO i yO).setH i (gz (X.H i) key X.no)) hV hj)).mono (by omega) (by omega)
   ·split
    ·exact ((S2 jB _).trans (Lf.give (w := ⟨ge, ak, 2⟩) (X := ((X.aO i dw).aO i jB).setH i (gz (X.H i) key X.no)) hV hj)).mono (by omega) (by omega)
    ·have s := Lf.start (X := ((X.aO i dw).aO i jB).setH i (gz (X.H i) key X.no)) (C := C) (i := i) (key := key) (al := false) (ws := []); refine (((S2 jB _).trans s).trans (Lf.give (w := ⟨ge, ak, 2⟩) hV fun j hj2 => ?_)).mono (by omega) (by simp); obtain ⟨h1, h2⟩ := hj j hj2; have hl : ((((X.aO i dw).aO i jB).setH i (gz (X.H i) key X.no)).aA C i key false []).ak.length = X.ak.length + 1 := by show (X.ak ++ [_]).length = _; simp
     refine ⟨by rw [hl]; omega, ?_⟩; show ((X.ak ++ [_]).getD j default).ca < _
     rw [Lt, List.getElem?_append_left h1, ← Lt]; exact h2
  ·split
   ·rename_i j hw; obtain ⟨w1, _⟩ := iy hw; exact ((S1 tZ).trans (Lf.join (X := (X.aO i dw).aO i tZ) (w := ⟨ge, ak, 4⟩) w1)).mono (by omega) (by omega)
   ·exact N false
theorem Lf.gives {a : Ans} (hV : ∀ (i : Nat) (x : Cch), C[i]? = some x → 1 ≤ x.de ∧ x.de ≤ 100000) : ∀ (ws : List Xw) (X : Xd), (∀ w, w ∈ ws → ∀ j, w.ak = some j → j < X.ak.length ∧ (X.K j).ca < C.length) → Lf X (X.bQ C ws a) true 0 0
 | [], X, _ => Lf.same rfl rfl rfl rfl
 | w :: ws, X, h => by
  have h1 := Lf.give (w := w) (a := a) hV (h w (List.mem_cons_self ..)); have h2 := Lf.gives (a := a) hV ws (X.aI C w a) (fun v hv j hj => by
   obtain ⟨g1, g2⟩ := h v (List.mem_cons_of_mem _ hv) j hj; refine ⟨?_, by rw [mg fun b hb => (h w (List.mem_cons_self ..) b hb).1]; exact g2⟩; unfold Xd.aI; cases w.ak with
   | none => exact g1
   | some b => show j < (X.bT b _).ak.length; rw [bG]; exact g1)
  exact (h1.trans h2).mono (Ls _) (Ls _)
theorem Lf.keep {i : Nat} {key : ByteArray} {a : Ans} : Lf X (X.dS C R P i key a) true 0 0 := by
 unfold Xd.dS; split
 ·exact Lf.same rfl rfl rfl rfl
 ·split <;> exact Lf.same rfl rfl rfl rfl
theorem kz {j : Nat} (h : aP C P L [] X) (hV : ∀ (i : Nat) (x : Cch), C[i]? = some x → 1 ≤ x.de ∧ x.de ≤ 100000) (hj : j < X.ak.length) (hkn : (X.K j).kn = true) (hd : (X.K j).dn = false) :
 (X.dR C R P j).nx = X.nx ∧ (X.dR C R P j).pg = X.pg ∧ (X.dR C R P j).no = X.no ∧ lT (X.dR C R P j) + 1 ≤ lT X ∧ (aB (X.dR C R P j)).length + (X.K j).ws.length ≤ (aB X).length := by
 have hk := Xd.at_ hj; have h1 := h.done hj hkn hd; have hs : lT (X.bP j) + 1 = lT X := by
  have := qF wK X.ak j _ { X.K j with dn := true } hk; have e : wK (X.K j) = wK { X.K j with dn := true } + 1 := by unfold wK; rw [hd]; simp
  show ((X.ak.set j _).map wK).sum + 1 = (X.ak.map wK).sum
  omega
 have hw : (aB (X.bP j)).length + (X.K j).ws.length = (aB X).length := by
  have := (eu (k' := { X.K j with dn := true }) hk).length_eq; have e1 : iP (X.K j) = (X.K j).ws := if_neg (by simp [hd]); have e2 : iP { X.K j with dn := true } = [] := if_pos rfl; rw [e1, e2, List.length_append, List.nil_append] at this; show (aB (X.bT j { X.K j with dn := true })).length + _ = _
  omega
 have hg := Lf.gives (a := (X.K j).go) hV (X.K j).ws (X.bP j) (fun w hw a ha => by
  obtain ⟨g1, _, _⟩ := h1.wk w (List.mem_append_left _ (List.mem_append_left _ hw)) a ha; exact ⟨g1, (h1.kk a _ (Xd.at_ g1)).1⟩)
 have hf : Lf (X.bP j) (X.dR C R P j) true 0 0 := by
  unfold Xd.dR; split
  ·exact (hg.trans Lf.keep).mono (Ls _) (Ls _)
  ·exact hg
 exact ⟨hf.nx, hf.pg, hf.no, by have := hf.sk; omega, by have := hf.wt; omega⟩
theorem rP {j : Nat} (h : aP C P L [] X) (hv : Val C R E P L) (hj : j < X.ak.length) (hcm : (X.K j).cm = false) :
 (X.jv C R E P j).nx = X.nx ∧ (X.jv C R E P j).pg = X.pg ∧ (X.jv C R E P j).no = X.no ∧ (NoB X → NoB (X.jv C R E P j)) ∧ lT (X.jv C R E P j) + 1 ≤ lT X ∧ (aB (X.jv C R E P j)).length ≤ (aB X).length + 1 := by
 have hk := Xd.at_ hj; have hkk := h.kk j _ hk; have hV : ∀ (i : Nat) (x : Cch), C[i]? = some x → 1 ≤ x.de ∧ x.de ≤ 100000 := fun i x hx => (hv.cd i x hx).1
 have hs : lT (X.cZ j) + (2 * (X.K j).ca + 1) = lT X := by
  have := qF wK X.ak j _ { X.K j with cm := true } hk; have e : wK (X.K j) = wK { X.K j with cm := true } + (2 * (X.K j).ca + 1) := by unfold wK; rw [hcm]; simp; omega
  show ((X.ak.set j _).map wK).sum + _ = (X.ak.map wK).sum
  omega
 have hc : Lf X (X.cZ j) true 0 0 := Lf.bT (k' := { X.K j with cm := true }) hj (by unfold wK; rw [hcm]; simp) (Ls _) (fun h => h); have hl : ∀ a, some j = some a → a < (X.cZ j).ak.length ∧ ((X.cZ j).K a).ca < C.length := fun a ha => by
  cases ha
  refine ⟨by show j < (X.bT j _).ak.length; rw [bG]; exact hj, ?_⟩; have e : ((X.cZ j).K j).ca = (X.K j).ca := fH (k' := { X.K j with cm := true }) hj rfl; rw [e]; exact hkk.1
 have hpar : qK C (X.K j).ca < ((X.K j).ca : Int) := (hv.cp (X.K j).ca (C.getD (X.K j).ca default) (by rw [Lt, Lu hkk.1]; rfl)).1; unfold Xd.jv; split
 ·have hf := Lf.come (X := X.cZ j) (C := C) (R := R) (P := P) (i := (qK C (X.K j).ca).toNat) (key := (X.K j).ke) (ge := 0) (ak := some j) hV hl; exact ⟨hf.nx.trans hc.nx, hf.pg.trans hc.pg, hf.no.trans hc.no, fun g => hf.nb (hc.nb g), by have := hf.sk; omega, by have := hf.wt; have := hc.wt; omega⟩
 ·have hf := Lf.give (X := X.cZ j) (C := C) (w := ⟨0, some j, 0⟩) (a := oV E (X.K j).ke X.no) hV hl; exact ⟨hf.nx.trans hc.nx, hf.pg.trans hc.pg, hf.no.trans hc.no, fun g => hf.nb (hc.nb g), by have := hf.sk; omega, by have := hf.wt; have := hc.wt; omega⟩
theorem Fit.came {n i : Nat} {s : Sto} {key : ByteArray} {f : Wtr} (h : Fit n D) (hs : D.st[i]? = some s) (hf : kC D f) (hk : key.size ≤ 300) : Fit (n + 4) (D.dX R P i s key f) := by
 obtain ⟨i1, i2, i3, i4⟩ := h.Iq hs; have hil := (List.getElem?_eq_some_iff.1 hs).1; have hset : ∀ t : Sto, (D.bz i t).st[i]? = some t := fun t => by show (D.st.set i t)[i]? = _; rw [List.getElem?_set_self hil]
 have NEW : ∀ kp, Fit (n + 4) (D.BH i s key kp f) := fun kp => by
  have h1 := i1.ask (hset (aj s)) key kp hk; have hl : ((D.bz i (aj s)).mG i (aj s) key kp).ak.length = D.ak.length + 1 := by show (D.ak ++ [_]).length = _; simp
  have hw : kC ((D.bz i (aj s)).mG i (aj s) key kp) f := by
   unfold kC at *; cases ha : f.ak with
   | none => rw [ha] at hf; exact hf
   | some j => rw [ha] at hf; simp only at hf ⊢; omega
  exact ((h1.wait (j := D.ak.length) hw).how f 3).mono (by omega)
 unfold Day.dX; split
 ·exact NEW false
 ·split
  ·rename_i ho; have h1 := i2.take (hset (dC (aj s))) key (bF.1 ho.1); have ha : lw (mV s key) := by
    have g := h.an i s hs key (bF.1 ho.1); exact ⟨g.bo, g.si⟩
   exact ((h1.give (f := f) hf ha).how f 1).mono (by omega)
  ·split
   ·rename_i ho; have h1 := i3.take (hset (bK (aj s))) key (bF.1 ho.1); have ha : lw (mV s key) := by
     have g := h.an i s hs key (bF.1 ho.1); exact ⟨g.bo, g.si⟩
    have h2 := h1.give (f := f) hf ha; refine Fit.how ?_ f 2; unfold Day.lQ; split
    ·exact h2.mono (by omega)
    ·have hl : i < (D.jk i s key f).st.length := by
      unfold Day.jk; rw [rf]; show i < ((D.st.set i _).set i _).length
      rw [List.length_set, List.length_set]; exact hil
     exact h2.ask (Day.at_ hl) key true hk
   ·split
    ·exact ((i4.wait (f := f) hf).how f 4).mono (by omega)
    ·exact NEW true
theorem Df (f : ByteArray → Hld) (ro nd : Int) : ∀ (n : Nat) (ks : List ByteArray), (evK f ro nd n ks).length ≤ ks.length
 | 0, ks => Ls _
 | n + 1, ks => by
  unfold evK; split
  ·exact Nat.le_trans (Df f ro nd n _) (fE _ _)
  ·exact Ls _
theorem Fit.keep {n i : Nat} {s : Sto} {key : ByteArray} {x : Ans} (h : Fit n D) (hs : D.st[i]? = some s) (hk : key.size ≤ 300) (hx : lw x) : Fit (n + 1) (D.keepD R P i s key x) := by
 have h' := h.mono (Nat.le_succ n); obtain ⟨h1, h2, h3, h4, h5, h6, h7, h8, h9, h10, h11⟩ := h.st i s hs; obtain ⟨k1, k2⟩ := h.ks i s hs; have hl := fE key s.ks; unfold Day.keepD; split
 ·exact h'
 ·split
  ·refine h'.set ?_ (fun k hk => h.an i s hs k (aU.1 hk).1) ⟨bJ k1, fun k hk => k2 k (aU.1 hk).1⟩ (h.num.ar i s hs); obtain ⟨a1, a2, a3, a4, a5, a6, a7, a8, a9, a10, a11⟩ := h'.st i s hs; exact ⟨a1, a2, a3, a4, a5, a6, a7, a8, a9, a10, by show (rmv key s.ks).length ≤ _; omega⟩
  ·have hsub : ∀ k, k ∈ evK s.hm s.ch.ro (aT x) s.ks.length (rmv key s.ks) → k ∈ rmv key s.ks := fun k hk => rD hk
   have hnd := oC (f := s.hm) (ro := s.ch.ro) (nd := aT x) (n := s.ks.length) (bJ (x := key) k1); have hkl : (evK s.hm s.ch.ro (aT x) s.ks.length (rmv key s.ks)).length ≤ s.ks.length := by
    have := Df s.hm s.ch.ro (aT x) s.ks.length (rmv key s.ks); omega
   have hf : Fit (n + 1) (D.bz i { s with ks := key :: evK s.hm s.ch.ro (aT x) s.ks.length (rmv key s.ks), hm := fun d => if d = key then ⟨x, D.no⟩ else s.hm d }) := by
    refine h'.set ?_ (fun k hk => ?_) ⟨List.nodup_cons.2 ⟨fun hm => (aU.1 (hsub _ hm)).2 rfl, hnd⟩, fun k hk2 => ?_⟩ (h.num.ar i s hs)
    ·obtain ⟨a1, a2, a3, a4, a5, a6, a7, a8, a9, a10, a11⟩ := h'.st i s hs; exact ⟨a1, a2, a3, a4, a5, a6, a7, a8, a9, a10, by show (key :: evK _ _ _ _ _).length ≤ _; rw [List.length_cons]; omega⟩
    ·show lw (if k = key then (⟨x, D.no⟩ : Hld) else s.hm k).an
     split
     ·exact hx
     ·rename_i e; exact h.an i s hs k (aU.1 (hsub k ((List.mem_cons.1 hk).resolve_left e))).1
    ·rcases List.mem_cons.1 hk2 with rfl | hk2
     ·exact hk
     ·exact k2 k (aU.1 (hsub k hk2)).1
   exact { hf with
    pu := Nat.succ_le_succ h.pu
    num := ⟨hf.num.qu, hf.num.ar, hf.num.wa⟩ }
theorem Fit.back {n j : Nat} {x : Ans} (h : Fit n D) (hj : j < D.ak.length) (hx : lw x) : Fit (n + 1 + (D.wa j).length + 1) (D.jH R P j x) := by
 have hc := h.kk j _ (Day.oJ hj); have hs := Day.at_ hc.1; have h1 := h.done hs j hx; have h2 := h1.gives hx (D.wa j) (n + 1) _ (fun f hf => (h.waits hj f hf).of rfl rfl); have hsm := iW x (D.wa j) (D.bz (D.K j).ca (lg (D.S (D.K j).ca) j x.si)); unfold Day.jH
 dsimp only
 split
 ·refine h2.keep (Day.at_ ?_) hc.2 hx; rw [hsm.st]; show _ < (D.st.set _ _).length
  rw [List.length_set]; exact hc.1
 ·exact h2.mono (Nat.le_succ _)
theorem Fit.Eo {n : Nat} {key : ByteArray} (h : Fit n D) : Fit n (D.FP key) := by
 have hat : ∀ (i : Nat) (t : Sto), (D.FP key).st[i]? = some t → ∃ s, D.st[i]? = some s ∧ t = { s with ks := rmv key s.ks } := fun i t ht => by
  have ht' : (D.st.map fun s => { s with ks := rmv key s.ks })[i]? = some t := ht; rw [List.getElem?_map] at ht'; cases hs : D.st[i]? with
  | none => rw [hs] at ht'; cases ht'
  | some s => rw [hs] at ht'; cases ht'; exact ⟨s, rfl, rfl⟩
 exact { h with
  num := ⟨h.num.qu, fun i t ht => by obtain ⟨s, hs, rfl⟩ := hat i t ht; exact h.num.ar i s hs, h.num.wa⟩
  st := fun i t ht => by
   obtain ⟨s, hs, rfl⟩ := hat i t ht; obtain ⟨a1, a2, a3, a4, a5, a6, a7, a8, a9, a10, a11⟩ := h.st i s hs; exact ⟨a1, a2, a3, a4, a5, a6, a7, a8, a9, a10, Nat.le_trans (fE _ _) a11⟩
  an := fun i t ht => by obtain ⟨s, hs, rfl⟩ := hat i t ht; exact fun k hk => h.an i s hs k (aU.1 hk).1
  ks := fun i t ht => by
   obtain ⟨s, hs, rfl⟩ := hat i t ht; exact ⟨bJ (h.ks i s hs).1, fun k hk => (h.ks i s hs).2 k (aU.1 hk).1⟩
  kk := fun j k hk => by
   show k.ca < (D.st.map _).length ∧ _
   rw [List.length_map]; exact h.kk j k hk }
theorem Fit.arr {n j : Nat} (h : Fit n D) (hj : j < D.ak.length) (hp : (D.S (D.K j).ca).pa < D.st.length) (hE : lw (oV E (D.K j).ke D.no)) : Fit (n + 4) (D.sF R E P j) := by
 have hc := h.kk j _ (Day.oJ hj); unfold Day.sF; split
 ·exact h.came (Day.at_ (by omega)) (f := ⟨0, some j⟩) hj hc.2
 ·exact (h.give (f := ⟨0, some j⟩) hj hE).mono (by omega)
end
section
variable {C : List Cch} {R : List Crl} {E : List Rel} {P : List Pur} {L : List Gt} {lim : Int} {X : Xd} {D : Day}
theorem Sim.yU (h : Sim C [] D X) (hq : 0 < D.qu.length) : (hdE D).ak < X.ak.length := by
 obtain ⟨k, hk, _⟩ := (h.ev _).1 (dU hq); exact (List.getElem?_eq_some_iff.1 hk).1
theorem Sim.Ha (h : Sim C [] D X) (hq : 0 < D.qu.length) (hb : (hdE D).bk = true) : (X.K (hdE D).ak).kn = true ∧ (X.K (hdE D).ak).dn = false ∧ (hdE D).ti = (X.K (hdE D).ak).bk ∧ (hdE D).an = (X.K (hdE D).ak).go := by
 obtain ⟨k, hk, hh⟩ := (h.ev _).1 (dU hq); rw [Xd.zK hk]; rcases hh with ⟨g1, _⟩ | ⟨_, g2, g3, g4, g5⟩
 ·rw [hb] at g1; cases g1
 ·exact ⟨g2, g3, g4, g5⟩
theorem Sim.I4 (h : Sim C [] D X) (hq : 0 < D.qu.length) (hb : (hdE D).bk = false) : (X.K (hdE D).ak).cm = false ∧ (hdE D).ti = (X.K (hdE D).ak).ar := by
 obtain ⟨k, hk, hh⟩ := (h.ev _).1 (dU hq); rw [Xd.zK hk]; rcases hh with ⟨_, g2, g3, _⟩ | ⟨g1, _⟩
 ·exact ⟨g2, g3⟩
 ·rw [hb] at g1; cases g1
theorem Sim.back (h : Sim C [] D X) (hx : aP C P L [] X) (hV : ∀ (i : Nat) (x : Cch), C[i]? = some x → 1 ≤ x.de ∧ x.de ≤ 100000) (hq : 0 < D.qu.length) (hb : (hdE D).bk = true) :
 Sim C [] (D.bM.jH R P (hdE D).ak (hdE D).an) (X.dR C R P (hdE D).ak) := by
 have hj := h.yU hq; obtain ⟨hkn, hd, hti, _⟩ := h.Ha hq hb; obtain ⟨h1, han⟩ := h.done hx hq hb; have hk := Xd.at_ hj; have ha := hx.an _ _ hk hkn; have x1 := hx.done hj hkn hd; have hwa := h.wa _ hj; have hKe := h.K hj; rw [han] at h1 ⊢; have hbo : ∀ w, w ∈ (X.K (hdE D).ak).ws → ∀ a, w.ak = some a → (X.bP (hdE D).ak).no ≤ 1000000000000 + 100000 * (30 + (((X.bP (hdE D).ak).K a).ca : Int)) := fun w hw a haw => by
  have e : ((X.bP (hdE D).ak).K a).ca = (X.K a).ca := fH (k' := { X.K (hdE D).ak with dn := true }) hj rfl; rw [e]; have g1 := hx.wp (hdE D).ak _ hk hd w hw a haw; obtain ⟨g2, g3⟩ := (hx.tm (hdE D).ak _ hk).2.2 hkn hd; show X.no ≤ _
  omega
 have h2 := Sim.gives hV ha (X.K (hdE D).ak).ws _ _ h1 x1 hbo; have x2 := aP.gives (pd := []) hV ha (X.K (hdE D).ak).ws (X.bP (hdE D).ak) x1 hbo; unfold Day.jH Xd.dR
 dsimp only
 rw [show D.bM.K (hdE D).ak = D.K (hdE D).ak from rfl, show D.bM.wa (hdE D).ak = D.wa (hdE D).ak from rfl, show D.bM.S (D.K (hdE D).ak).ca = D.S (D.K (hdE D).ak).ca from rfl, hwa]; have hkp : (D.K (hdE D).ak).kp = !(X.K (hdE D).ak).al := by rw [hKe]
 have hca : (D.K (hdE D).ak).ca = (X.K (hdE D).ak).ca := by rw [hKe]
 have hke : (D.K (hdE D).ak).ke = (X.K (hdE D).ak).ke := by rw [hKe]
 rw [hkp]; cases hal : (X.K (hdE D).ak).al
 ·rw [if_pos (show (!false) = true from rfl), if_pos rfl]; have hl : (X.K (hdE D).ak).ca < C.length := (hx.kk (hdE D).ak _ hk).1; rw [hca] at h2; rw [hke, hca]; refine h2.keep x2 (Day.at_ ?_) _ _; rw [h2.len]; exact hl
 ·rw [if_neg (by simp), if_neg (by simp)]; exact h2
theorem Sim.arr (h : Sim C [] D X) (hx : aP C P L [] X) (hv : Val C R E P L) (hq : 0 < D.qu.length) (hb : (hdE D).bk = false) :
 Sim C [] (D.bM.sF R E P (hdE D).ak) (X.jv C R E P (hdE D).ak) := by
 have hj := h.yU hq; obtain ⟨hcm, hti⟩ := h.I4 hq hb; have h1 := h.J7 hx hq hb; have hk := Xd.at_ hj; have x1 := hx.came hj hcm 0; have hKe := h.K hj; have hkk := hx.kk _ _ hk; have hpa : (D.bM.S (D.bM.K (hdE D).ak).ca).pa = qK C (X.K (hdE D).ak).ca := by
  rw [show D.bM.K (hdE D).ak = D.K (hdE D).ak from rfl, show D.bM.S (D.K (hdE D).ak).ca = D.S (D.K (hdE D).ak).ca from rfl, hKe]; exact (h.at_ hkk.1).2.pa
 have hke : (D.bM.K (hdE D).ak).ke = (X.K (hdE D).ak).ke := by rw [show D.bM.K (hdE D).ak = D.K (hdE D).ak from rfl, hKe]
 have hpar : qK C (X.K (hdE D).ak).ca < ((X.K (hdE D).ak).ca : Int) := (hv.cp (X.K (hdE D).ak).ca (C.getD (X.K (hdE D).ak).ca default) (by rw [Lt, Lu hkk.1]; rfl)).1; unfold Day.sF Xd.jv; rw [hpa, hke]; split
 ·exact h1.come (ho := 0) x1 (by omega) hv.rb
 ·have h2 : Sim C [⟨0, some (hdE D).ak, 0⟩] D.bM (X.cZ (hdE D).ak) := Sim.how (w := ⟨0, some (hdE D).ak, 0⟩) h1 (fun ha => by cases ha); have h3 := Sim.give (a := oV E (X.K (hdE D).ak).ke D.no) h2 x1; have e : D.no = X.no := h.no; show Sim C [] (D.bM.aQ ⟨0, some (hdE D).ak⟩ (oV E (X.K (hdE D).ak).ke D.no)) _
  rw [e] at h3 ⊢; exact h3
theorem Sim.nxt (h : Sim C [] D X) : kP D L P X.nx X.pg lim ≤ lim + 1 ∧ (∀ t, t ∈ X.times P L → kP D L P X.nx X.pg lim ≤ t) ∧ (kP D L P X.nx X.pg lim = lim + 1 ∨ kP D L P X.nx X.pg lim ∈ X.times P L) := by
 have q1 : ∀ (j : Nat) (k : Xk) (t : Int), X.ak[j]? = some k → (k.cm = false ∧ t = k.ar) ∨ (k.kn = true ∧ k.dn = false ∧ t = k.bk) → 0 < D.qu.length ∧ (hdE D).ti ≤ t := fun j k t hk hh => by
  have : ∃ e : Evn, e ∈ D.qu ∧ e.ti = t := by
   rcases hh with ⟨g1, g2⟩ | ⟨g1, g2, g3⟩
   ·exact ⟨⟨t, false, j, ⟨0, 0, 0, false, ⟨#[]⟩⟩⟩, (h.ev _).2 ⟨k, hk, .inl ⟨rfl, g1, g2, rfl⟩⟩, rfl⟩
   ·exact ⟨⟨t, true, j, k.go⟩, (h.ev _).2 ⟨k, hk, .inr ⟨rfl, g1, g2, g3, rfl⟩⟩, rfl⟩
  obtain ⟨e, he, rfl⟩ := this; have hq : 0 < D.qu.length := List.length_pos_iff.2 (List.ne_nil_of_mem he); have hl : bfr D.K e (hdE D) = false := kW (iL D.K) h.hp he; refine ⟨hq, ?_⟩; unfold bfr at hl; split at hl
  ·simpa using hl
  ·omega
 have q2 : 0 < D.qu.length → (hdE D).ti ∈ X.times P L := fun hq => by
  rw [bD]; obtain ⟨k, hk, hh⟩ := (h.ev _).1 (dU hq); refine .inr (.inr ⟨_, k, hk, ?_⟩); rcases hh with ⟨_, g2, g3, _⟩ | ⟨_, g2, g3, g4, _⟩
  ·exact .inl ⟨g2, g3⟩
  ·exact .inr ⟨g2, g3, g4⟩
 have q3 : X.nx < L.length → (L.getD X.nx default).ti ∈ X.times P L := fun hl => by
  rw [bD]; exact .inl ⟨_, by rw [Lt, Lu hl]; rfl, rfl⟩
 have q4 : X.pg < P.length → (P.getD X.pg default).ti ∈ X.times P L := fun hl => by
  rw [bD]; exact .inr (.inl ⟨_, by rw [Lt, Lu hl]; rfl, rfl⟩)
 have e1 : wU D lim ≤ lim + 1 ∧ (0 < D.qu.length → wU D lim ≤ (hdE D).ti) ∧ (wU D lim = lim + 1 ∨ (0 < D.qu.length ∧ wU D lim = (hdE D).ti)) := by
  unfold wU; split <;> omega
 have e2 : uD D L X.nx lim ≤ wU D lim ∧ (X.nx < L.length → uD D L X.nx lim ≤ (L.getD X.nx default).ti) ∧ (uD D L X.nx lim = wU D lim ∨ (X.nx < L.length ∧ uD D L X.nx lim = (L.getD X.nx default).ti)) := by
  unfold uD; split <;> omega
 have e3 : kP D L P X.nx X.pg lim ≤ uD D L X.nx lim ∧ (X.pg < P.length → kP D L P X.nx X.pg lim ≤ (P.getD X.pg default).ti) ∧ (kP D L P X.nx X.pg lim = uD D L X.nx lim ∨ (X.pg < P.length ∧ kP D L P X.nx X.pg lim = (P.getD X.pg default).ti)) := by
  unfold kP; split <;> omega
 refine ⟨by omega, fun t ht => ?_, ?_⟩
 ·rcases bD.1 ht with ⟨x, hx, rfl⟩ | ⟨x, hx, rfl⟩ | ⟨j, k, hk, hh⟩
  ·have hl := (List.getElem?_eq_some_iff.1 hx).1; have := e2.2.1 hl; rw [Lt, hx] at this; have this : _ ≤ x.ti := this; omega
  ·have hl := (List.getElem?_eq_some_iff.1 hx).1; have := e3.2.1 hl; rw [Lt, hx] at this; have this : _ ≤ x.ti := this; omega
  ·obtain ⟨hq, hl⟩ := q1 j k t hk hh; have := e1.2.1 hq; omega
 ·rcases e3.2.2 with e | ⟨hl, e⟩
  ·rw [e]; rcases e2.2.2 with e | ⟨hl, e⟩
   ·rw [e]; rcases e1.2.2 with e | ⟨hl, e⟩
    ·exact .inl e
    ·rw [e]; exact .inr (q2 hl)
   ·rw [e]; exact .inr (q3 hl)
  ·rw [e]; exact .inr (q4 hl)
theorem Sim.out (h : Sim C [] D X) : (¬ lim < kP D L P X.nx X.pg lim → pX (X.times P L) = some (kP D L P X.nx X.pg lim)) ∧ (lim < kP D L P X.nx X.pg lim → ∀ t, pX (X.times P L) = some t → lim < t) := by
 obtain ⟨h1, h2, h3⟩ := h.nxt (P := P) (L := L) (lim := lim); refine ⟨fun hl => ?_, fun hl t ht => ?_⟩
 ·have hm := h3.resolve_left (by omega); cases hmt : pX (X.times P L) with
  | none => rw [nH hmt] at hm; exact absurd hm (by simp)
  | some t =>
   obtain ⟨g1, g2⟩ := fK hmt; have := h2 t g1; have := g2 _ hm
   congr 1
   omega
 ·obtain ⟨g1, _⟩ := fK ht; have := h2 t g1; omega
structure Both (C : List Cch) (R : List Crl) (E : List Rel) (P : List Pur) (L : List Gt) (lim : Int) (X0 : Xd) (c : Cfg) (X : Xd) : Prop where
 sim : Sim C [] c.D X
 inv : aP C P L [] X
 g : c.g = X.nx
 p : c.p = X.pg
 rch : cu C R E P L lim .out X0 c.m X
 mode : c.m = .get ∨ c.m = .arr → NoB X
 fit : ∃ n, Fit n c.D ∧ n + (aB X).length + 5 * muX C P L X ≤ 310000
theorem Both.next {X0 : Xd} {c c' : Cfg} (h : Both C R E P L lim X0 c X) (hv : Val C R E P L) (hn : c.next C R E P L lim = some c') :
 ∃ X', Both C R E P L lim X0 c' X' ∧ muX C P L X' ≤ muX C P L X ∧ (c'.m = c.m → muX C P L X' < muX C P L X) := by
 obtain ⟨m, D, g, p⟩ := c; obtain ⟨hs, hx, hg, hp, hr, hm, n, hf, hfn⟩ := h
 dsimp only at hs hg hp hr hm hf
 subst hg hp; have hV : ∀ (i : Nat) (x : Cch), C[i]? = some x → 1 ≤ x.de ∧ x.de ≤ 100000 := fun i x hx => (hv.cd i x hx).1
 have step : ∀ X', X.next C R E P L lim m = some (c'.m, X') → Sim C [] c'.D X' → c'.g = X'.nx → c'.p = X'.pg → (c'.m = .get ∨ c'.m = .arr → NoB X') → (∃ n', Fit n' c'.D ∧ n' + (aB X').length + 5 * muX C P L X' ≤ n + (aB X).length + 5 * muX C P L X) → Both C R E P L lim X0 c' X' := fun X' h1 h2 h3 h4 h5 ⟨n', h6, h7⟩ =>
  ⟨h2, hx.next hv h1, h3, h4, .step hr h1, h5, n', h6, by omega⟩
 cases m with
 | out =>
  unfold Cfg.next at hn
  dsimp only at hn
  split at hn
  ·cases hn
  ·rename_i hl; cases hn
   have ht := (hs.out (P := P) (L := L) (lim := lim)).1 hl; have hnx : X.next C R E P L lim .out = some (.pur, { X with no := kP D L P X.nx X.pg lim }) := by
    unfold Xd.next
    dsimp only
    rw [ht]
    dsimp only
    rw [if_neg hl]
   refine ⟨_, step _ hnx (hs.now _) rfl rfl (fun h => by rcases h with h | h <;> cases h) ⟨n, ?_, Ls _⟩, Ls _, fun h => by cases h⟩; have hno := (hx.next hv hnx).no; exact { hf with num := ⟨hf.num.qu, hf.num.ar, hf.num.wa⟩, no := ⟨hno.1, by have := hno.2; show kP D L P X.nx X.pg lim ≤ _; have this : kP D L P X.nx X.pg lim ≤ 1000006100000 := this; omega⟩ }
 | pur =>
  unfold Cfg.next at hn
  dsimp only at hn
  have hno : D.no = X.no := hs.no; split at hn
  ·rename_i hd; have hd : X.pg < P.length ∧ (P.getD X.pg default).ti = D.no := hd; cases hn
   rw [hno] at hd; have hnx : X.next C R E P L lim .pur = some (.pur, X.yG (P.getD X.pg default).ke) := by
    unfold Xd.next
    dsimp only
    rw [if_pos hd]
   have e : muX C P L (X.yG (P.getD X.pg default).ke) + 1 = muX C P L X := by
    show lT X + ((L.drop X.nx).map (wG C)).sum + (P.length - (X.pg + 1)) + 1 = lT X + ((L.drop X.nx).map (wG C)).sum + (P.length - X.pg)
    omega
   refine ⟨_, step _ hnx (hs.Eo _) rfl rfl (fun h => by rcases h with h | h <;> cases h) ⟨n, hf.Eo, ?_⟩, by omega, fun _ => by omega⟩; show n + (aB X).length + _ ≤ _
   omega
  ·rename_i hd; have hd : ¬ (X.pg < P.length ∧ (P.getD X.pg default).ti = D.no) := hd; cases hn
   rw [hno] at hd; have hnx : X.next C R E P L lim .pur = some (.bak, X) := by
    unfold Xd.next
    dsimp only
    rw [if_neg hd]
   exact ⟨_, step _ hnx hs rfl rfl (fun h => by rcases h with h | h <;> cases h) ⟨n, hf, Ls _⟩, Ls _, fun h => by cases h⟩
 | bak =>
  unfold Cfg.next at hn
  dsimp only at hn
  obtain ⟨f1, f2⟩ := hs.FZ hx; split at hn
  ·rename_i hd; have hd : (0 < D.qu.length ∧ (hdE D).ti = D.no) ∧ (hdE D).bk = true := hd; cases hn
   have hB := f1 ⟨hd.1.1, hd.1.2, hd.2⟩; have hnx : X.next C R E P L lim .bak = some (.bak, X.dR C R P (hdE D).ak) := by
    unfold Xd.next
    dsimp only
    rw [hB]
   have hj := hs.yU hd.1.1; obtain ⟨hkn, hdn, _, han⟩ := hs.Ha hd.1.1 hd.2; obtain ⟨l1, l2, l3, l4, l5⟩ := kz (R := R) hx hV hj hkn hdn; have e : muX C P L (X.dR C R P (hdE D).ak) + 1 ≤ muX C P L X := by
    unfold muX; rw [l1, l2]; omega
   have hwl : (D.wa (hdE D).ak).length = (X.K (hdE D).ak).ws.length := by rw [hs.wa _ hj, List.length_map]
   have ha : lw (hdE D).an := by
    rw [han]; exact (hx.an _ _ (Xd.at_ hj) hkn).fit
   have hF := (hf.pop hd.1.1).back (R := R) (P := P) (j := (hdE D).ak) (by show _ < D.ak.length; rw [hs.akl]; exact hj) ha; refine ⟨_, step _ hnx (hs.back hx hV hd.1.1 hd.2) l1.symm l2.symm (fun h => by rcases h with h | h <;> cases h) ⟨_, hF, ?_⟩, by omega, fun _ => by omega⟩; show n + 1 + (D.wa (hdE D).ak).length + 1 + _ + _ ≤ _
   omega
  ·rename_i hd; cases hn
   have hB := f2 (fun h => hd ⟨⟨h.1, h.2.1⟩, h.2.2⟩); have hnx : X.next C R E P L lim .bak = some (.get, X) := by
    unfold Xd.next
    dsimp only
    rw [hB]
   exact ⟨_, step _ hnx hs rfl rfl (fun _ => kQ hB) ⟨n, hf, Ls _⟩, Ls _, fun h => by cases h⟩
 | get =>
  have hm := hm (.inl rfl); unfold Cfg.next at hn
  dsimp only at hn
  have hno : D.no = X.no := hs.no; split at hn
  ·rename_i hd; have hd : X.nx < L.length ∧ (L.getD X.nx default).ti = D.no := hd; rw [hno] at hd; obtain ⟨hl, hti⟩ := hd; have hxg : L[X.nx]? = some (L.getD X.nx default) := by rw [Lt, Lu hl]; rfl
   obtain ⟨g1, g2, i, g3, g4⟩ := hv.lt _ (List.mem_of_getElem? hxg); have hget := hx.get hl (fun x hx2 => by rw [← hti]; exact hv.ls X.nx (X.nx + 1) _ x (Nat.le_succ _) hxg hx2) 0; have hgi : Ir C L ⟨.get, D, X.nx, X.pg⟩ = i := by unfold Ir; rw [g3]; rfl
   have hgi2 : (fC C (L.getD X.nx default).ca).toNat = i := by rw [g3]; rfl
   rw [hgi] at hn; cases hn
   have hnx : X.next C R E P L lim .get = some (.get, ({ X with nx := X.nx + 1 } : Xd).aY C R P i (L.getD X.nx default).ke X.nx none) := by
    unfold Xd.next
    dsimp only
    rw [if_pos ⟨hl, hti⟩, hgi2]
   have hs' : Sim C [] D { X with nx := X.nx + 1 } := { hs with st := fun i s h => by have g := hs.st i s h; exact ⟨g.ch, g.pa, g.ld, g.ar, g.he⟩ }
   have hsm := hs'.come (R := R) (key := (L.getD X.nx default).ke) (ge := X.nx) (ak := none) (ho := 0) hget g4 hv.rb; have hlf := Lf.come (C := C) (R := R) (P := P) (X := { X with nx := X.nx + 1 }) (i := i) (key := (L.getD X.nx default).ke) (ge := X.nx) (ak := none) hV (fun j h => by cases h); have hsi := (hs.at_ g4).1; have e : muX C P L (({ X with nx := X.nx + 1 } : Xd).aY C R P i (L.getD X.nx default).ke X.nx none) + 1 ≤ muX C P L X := by
    unfold muX; rw [hlf.nx, hlf.pg]; have h1 : lT (({ X with nx := X.nx + 1 } : Xd).aY C R P i (L.getD X.nx default).ke X.nx none) ≤ lT X + (2 * i + 2) := hlf.sk; have h2 : ((L.drop X.nx).map (wG C)).sum = (2 * i + 3) + ((L.drop (X.nx + 1)).map (wG C)).sum := by
     have hcons : L.drop X.nx = L.getD X.nx default :: L.drop (X.nx + 1) := by
      rw [List.drop_eq_getElem_cons hl]
      congr 1
      rw [Lu hl] at hxg; exact Option.some.inj hxg
     rw [hcons, List.map_cons, List.sum_cons]
     congr 1
     unfold wG; rw [hgi2]
    show _ + ((L.drop (X.nx + 1)).map (wG C)).sum + (P.length - X.pg) + 1 ≤ _
    omega
   have hF := hf.came (R := R) (P := P) (key := (L.getD X.nx default).ke) (f := ⟨X.nx, none⟩) hsi (by
    show X.nx < D.go.length
    rw [hs.gl]; have := hx.le.2.2.1; omega) g2
   refine ⟨_, step _ hnx hsm hlf.nx.symm hlf.pg.symm (fun _ => hlf.nb hm) ⟨_, hF, ?_⟩, by omega, fun _ => by omega⟩; have hw : (aB (({ X with nx := X.nx + 1 } : Xd).aY C R P i (L.getD X.nx default).ke X.nx none)).length ≤ (aB X).length + 1 := hlf.wt; omega
  ·rename_i hd; have hd : ¬ (X.nx < L.length ∧ (L.getD X.nx default).ti = D.no) := hd; cases hn
   rw [hno] at hd; have hnx : X.next C R E P L lim .get = some (.arr, X) := by
    unfold Xd.next
    dsimp only
    rw [if_neg hd]
   exact ⟨_, step _ hnx hs rfl rfl (fun _ => hm) ⟨n, hf, Ls _⟩, Ls _, fun h => by cases h⟩
 | arr =>
  have hm := hm (.inr rfl); unfold Cfg.next at hn
  dsimp only at hn
  obtain ⟨f1, f2⟩ := hs.Ja hx hm.none; split at hn
  ·rename_i hd; have hd : 0 < D.qu.length ∧ (hdE D).ti = D.no := hd; cases hn
   obtain ⟨hA, hbk⟩ := f1 hd; have hnx : X.next C R E P L lim .arr = some (.arr, X.jv C R E P (hdE D).ak) := by
    unfold Xd.next
    dsimp only
    rw [hA]
   have hj := hs.yU hd.1; obtain ⟨hcm, _⟩ := hs.I4 hd.1 hbk; obtain ⟨l1, l2, l3, l4, l5, l6⟩ := rP hx hv hj hcm; have e : muX C P L (X.jv C R E P (hdE D).ak) + 1 ≤ muX C P L X := by
    unfold muX; rw [l1, l2]; omega
   have hkk := hx.kk _ _ (Xd.at_ hj); have hpar : qK C (X.K (hdE D).ak).ca < ((X.K (hdE D).ak).ca : Int) := (hv.cp (X.K (hdE D).ak).ca (C.getD (X.K (hdE D).ak).ca default) (by rw [Lt, Lu hkk.1]; rfl)).1; have hF := (hf.pop hd.1).arr (R := R) (P := P) (E := E) (j := (hdE D).ak) (by show _ < D.ak.length; rw [hs.akl]; exact hj) (by
    show (D.S (D.K _).ca).pa < D.st.length
    rw [(hs.Kck _).1, (hs.at_ hkk.1).2.pa, hs.len]; omega) (Bv hv.e _ ⟨hf.no.1, hf.no.2⟩).fit
   refine ⟨_, step _ hnx (hs.arr hx hv hd.1 hbk) l1.symm l2.symm (fun _ => l4 hm) ⟨_, hF, ?_⟩, by omega, fun _ => by omega⟩; omega
  ·rename_i hd; cases hn
   have hA := f2 hd; have hnx : X.next C R E P L lim .arr = some (.out, X) := by
    unfold Xd.next
    dsimp only
    rw [hA]
   exact ⟨_, step _ hnx hs rfl rfl (fun h => by rcases h with h | h <;> cases h) ⟨n, hf, Ls _⟩, Ls _, fun h => by cases h⟩
theorem Both.last {X0 : Xd} {c : Cfg} (h : Both C R E P L lim X0 c X) (hn : c.next C R E P L lim = none) : c.m = .out ∧ X.next C R E P L lim .out = none := by
 obtain ⟨m, D, g, p⟩ := c; obtain ⟨hs, hx, hg, hp, hr, hm, n, hf, hfn⟩ := h
 dsimp only at hs hg hp hr hm hf
 subst hg hp; cases m with
 | out =>
  refine ⟨rfl, ?_⟩; unfold Cfg.next at hn
  dsimp only at hn
  split at hn
  ·rename_i hl; have ht := (hs.out (P := P) (L := L) (lim := lim)).2 hl; unfold Xd.next
   dsimp only
   split
   ·rfl
   ·rename_i t e; rw [if_pos (ht t e)]
  ·cases hn
 | pur => unfold Cfg.next at hn; dsimp only at hn; split at hn <;> cases hn
 | bak => unfold Cfg.next at hn; dsimp only at hn; split at hn <;> cases hn
 | get => unfold Cfg.next at hn; dsimp only at hn; split at hn <;> cases hn
 | arr => unfold Cfg.next at hn; dsimp only at hn; split at hn <;> cases hn
def Jo (C : List Cch) (R : List Crl) (E : List Rel) (P : List Pur) (L : List Gt) (lim : Int) (X0 : Xd) (k : Nat) (c : Cfg) : Prop := ∃ X, Both C R E P L lim X0 c X ∧ k = muX C P L X
theorem FN (hv : Val C R E P L) (X0 : Xd) : uA C R E P L lim (Jo C R E P L lim X0) where
 fit k c h := by
  obtain ⟨X, h, rfl⟩ := h; obtain ⟨n, h1, h2⟩ := h.fit; exact ⟨n, by omega, h1⟩
 step k c c' h hn := by
  obtain ⟨X, h, rfl⟩ := h; obtain ⟨X', h1, h2, h3⟩ := h.next hv hn; exact ⟨_, ⟨X', h1, rfl⟩, h2, h3⟩
 back k c h hm hd hb := by
  obtain ⟨X, h, rfl⟩ := h; have hj := h.sim.yU hd.1; obtain ⟨h1, h2, _⟩ := h.sim.Ha hd.1 hb; have hkk := h.inv.kk _ _ (Xd.at_ hj); rw [(h.sim.Kck _).1, (h.sim.at_ hkk.1).2.ar]; unfold je; rw [List.mem_filter]; exact ⟨List.mem_range.2 hj, by simp [h2]⟩
 get k c h hm hd := by
  obtain ⟨X, h, rfl⟩ := h; have hl := hd.1; have hxg : L[c.g]? = some (L.getD c.g default) := by rw [Lt, Lu hl]; rfl
  obtain ⟨g1, g2, i, g3, g4⟩ := hv.lt _ (List.mem_of_getElem? hxg); refine ⟨i, g3, by rw [h.sim.len]; exact g4, g2, ?_⟩; rw [h.sim.gl, h.inv.le.2.2.1]; exact hl
 par k c h hm hd := by
  obtain ⟨X, h, rfl⟩ := h; have hj := h.sim.yU hd.1; have hkk := h.inv.kk _ _ (Xd.at_ hj); rw [(h.sim.Kck _).1, (h.sim.at_ hkk.1).2.pa, h.sim.len]; have hpar : qK C (X.K (hdE c.D).ak).ca < ((X.K (hdE c.D).ak).ca : Int) := (hv.cp (X.K (hdE c.D).ak).ca (C.getD (X.K (hdE c.D).ak).ca default) (by rw [Lt, Lu hkk.1]; rfl)).1; omega
 pos k c h := by
  obtain ⟨X, h, rfl⟩ := h; rw [h.g, h.p, h.sim.len]; have := h.inv.le; have := hv.c; omega
end
def xd0 (C : List Cch) (m : Nat) : Xd := ⟨[], C.map fun _ => [], List.replicate m default, C.map fun _ => default, 0, 0, 0⟩
def zN (C : List Cch) (l : List Gt) (i : Nat) : Int := oL (l.getD i default) (l.getD (i - 1) default) i (iw C (l.getD i default).ca)
def checkN (C : List Cch) (l : List Gt) : Int := if 1000 < l.length then 2 else FF (zN C l) l.length
def bY (C : List Cch) (R : List Crl) (E : List Rel) (P : List Pur) (L : List Gt) : Int := if eU C R E P ≠ 0 then eU C R E P else checkN C L
theorem getD_at {α : Type} [Inhabited α] {l : List α} {i : Nat} {x : α} (h : l[i]? = some x) : l.getD i default = x := by rw [Lt, h]; rfl
theorem BN {α : Type} {f : α → Int} {l : List α} (h : ∀ (i : Nat) (x y : α), l[i]? = some x → l[i + 1]? = some y → f x ≤ f y) : ∀ (i j : Nat) (x y : α), i ≤ j → l[i]? = some x → l[j]? = some y → f x ≤ f y := by
 intro i j
 induction j with
 | zero =>
  intro x y hij hx hy; obtain rfl : i = 0 := by omega
  rw [hx] at hy; cases hy; exact Int.le_refl _
 | succ j ih =>
  intro x y hij hx hy; by_cases e : i = j + 1
  ·rw [e, hy] at hx; cases hx; exact Int.le_refl _
  ·have hj : j < l.length := by have := (List.getElem?_eq_some_iff.1 hy).1; omega
   have h1 := ih x l[j] (by omega) hx (Lu hj); have h2 := h j _ y (Lu hj) hy; omega
theorem lI {α : Type} {l : List α} {x : α} (h : x ∈ l) : ∃ i : Nat, i < l.length ∧ l[i]? = some x := by
 obtain ⟨i, hi, rfl⟩ := List.mem_iff_getElem.1 h; exact ⟨i, hi, Lu hi⟩
section
variable {C : List Cch} {R : List Crl} {E : List Rel} {P : List Pur} {L : List Gt}
theorem Dy {x : Cch} {tw hp : Bool} (h : vP x tw hp = 0) : nameB x.na = true ∧ tw = false ∧ tH x hp = false ∧ (1 ≤ x.de ∧ x.de ≤ 100000) ∧ (0 ≤ x.ro ∧ x.ro ≤ 1000000000000) := by
 unfold vP at h; split at h
 ·cases h
 ·rename_i h1; split at h
  ·cases h
  ·rename_i h2; split at h
   ·cases h
   ·rename_i h3; split at h
    ·cases h
    ·rename_i h4; simp only [Bool.or_eq_true, not_or] at h4
     exact ⟨by simpa using h1, by simpa using h2, by simpa using h3, eY h4.1, eY h4.2⟩
theorem BM {s : ByteArray} (h : nameB s = true) : s ≠ ⟨#[]⟩ := fun e => by
 rw [e] at h; revert h; decide
theorem oI (h : eU C R E P = 0) : bZ C = 0 ∧ dO R = 0 ∧ dP E = 0 ∧ gm P = 0 := by
 unfold eU at h; by_cases h1 : bZ C = 0
 ·rw [if_neg (by simp [h1])] at h; by_cases h2 : dO R = 0
  ·rw [if_neg (by simp [h2])] at h; by_cases h3 : dP E = 0
   ·rw [if_neg (by simp [h3])] at h; exact ⟨h1, h2, h3, h⟩
   ·rw [if_pos h3] at h; exact absurd h h3
  ·rw [if_pos h2] at h; exact absurd h h2
 ·rw [if_pos h1] at h; exact absurd h h1
theorem Je (h : bZ C = 0) : C.length ≠ 0 ∧ C.length ≤ 30 ∧ ∀ (i : Nat) (x : Cch), C[i]? = some x → nameB x.na = true ∧ iw (C.take i) x.na = false ∧ tH x (iw (C.take i) x.pa) = false ∧ (1 ≤ x.de ∧ x.de ≤ 100000) ∧ (0 ≤ x.ro ∧ x.ro ≤ 1000000000000) := by
 unfold bZ at h; split at h
 ·cases h
 ·rename_i h0; split at h
  ·cases h
  ·refine ⟨h0, by omega, fun i x hx => ?_⟩; have hz := fG h i (List.getElem?_eq_some_iff.1 hx).1; unfold zV at hz; rw [getD_at hx] at hz; exact Dy hz
theorem J6 (h : gm P = 0) : P.length ≤ 200 ∧ ∀ (i : Nat) (x : Pur), P[i]? = some x → (0 ≤ x.ti ∧ x.ti ≤ 1000000000000) ∧ dG x.ke = true ∧ uO x (P.getD (i - 1) default) i = false := by
 unfold gm at h; split at h
 ·cases h
 ·refine ⟨by omega, fun i x hx => ?_⟩; have hz := fG h i (List.getElem?_eq_some_iff.1 hx).1; unfold zU at hz; rw [getD_at hx] at hz; unfold yg at hz; split at hz
  ·cases hz
  ·rename_i h1; split at hz
   ·cases hz
   ·rename_i h2; split at hz
    ·cases hz
    ·rename_i h3; exact ⟨eY h1, by simpa using h2, by simpa using h3⟩
theorem J3 (h : dO R = 0) : ∀ (i : Nat) (x : Crl), R[i]? = some x → (0 ≤ x.li ∧ x.li ≤ 1000000000) ∧ (0 ≤ x.st ∧ x.st ≤ 1000000000) ∧ (0 ≤ x.go ∧ x.go ≤ 1000000000) := by
 unfold dO at h; split at h
 ·cases h
 ·intro i x hx; have hz := fG h i (List.getElem?_eq_some_iff.1 hx).1; unfold zS at hz; rw [getD_at hx] at hz; unfold x8 at hz; split at hz
  ·cases hz
  ·split at hz
   ·cases hz
   ·split at hz
    ·cases hz
    ·rename_i h3; simp only [Bool.or_eq_true, not_or] at h3
     exact ⟨eY h3.1.1, eY h3.1.2, eY h3.2⟩
theorem J5 (h : dP E = 0) : ∀ (i : Nat) (x : Rel), E[i]? = some x → (x.go = true → x.si = 0) ∧ (x.go = false → 1 ≤ x.si ∧ x.si ≤ 1000000000) ∧ (0 ≤ x.ti ∧ x.ti ≤ 1000000000000) ∧ rY x (E.getD (i - 1) default) i = false := by
 unfold dP at h; split at h
 ·cases h
 ·intro i x hx; have hz := fG h i (List.getElem?_eq_some_iff.1 hx).1; unfold zT at hz; rw [getD_at hx] at hz; unfold sD at hz; split at hz
  ·cases hz
  ·split at hz
   ·cases hz
   ·rename_i h2; split at hz
    ·cases hz
    ·rename_i h3; split at hz
     ·cases hz
     ·rename_i h4; split at hz
      ·cases hz
      ·rename_i h5; refine ⟨fun hg => ?_, fun hg => ?_, eY h2, by simpa using h5⟩
       ·rw [hg] at h3; simpa using h3
       ·rw [hg] at h4; exact eY (by simpa using h4)
theorem J4 (h : checkN C L = 0) : L.length ≤ 1000 ∧ ∀ (i : Nat) (x : Gt), L[i]? = some x → (0 ≤ x.ti ∧ x.ti ≤ 1000000000000) ∧ iw C x.ca = true ∧ dG x.ke = true ∧ tK x (L.getD (i - 1) default) i = false := by
 unfold checkN at h; split at h
 ·cases h
 ·refine ⟨by omega, fun i x hx => ?_⟩; have hz := fG h i (List.getElem?_eq_some_iff.1 hx).1; unfold zN at hz; rw [getD_at hx] at hz; unfold oL at hz; split at hz
  ·cases hz
  ·rename_i h1; split at hz
   ·cases hz
   ·rename_i h2; split at hz
    ·cases hz
    ·rename_i h3; split at hz
     ·cases hz
     ·rename_i h4; exact ⟨eY h1, by simpa using h2, by simpa using h3, by simpa using h4⟩
theorem yl {n : ByteArray} (h : iw C n = true) : ∃ i : Nat, fC C n = (i : Int) ∧ i < C.length := by
 have hz := oz (fun o => isC o n) C; have h1 : decide (0 ≤ iI (fun o => isC o n) C) = true := hz.trans h; unfold fC iI at *; split
 ·rename_i e; rw [if_pos e] at h1; simp at h1
 ·rename_i e; exact ⟨_, rfl, by have := List.findIdx_le_length (p := fun o => isC o n) (xs := C); omega⟩
theorem Ia (n : ByteArray) : -1 ≤ fC C n := by
 unfold fC iI; split <;> omega
theorem pG (h : bY C R E P L = 0) : Val C R E P L := by
 unfold bY at h; have hd : eU C R E P = 0 := Classical.byContradiction fun hd => by rw [if_pos hd] at h; exact hd h
 rw [if_neg (by simp [hd])] at h; obtain ⟨hC, hU, hE, hG⟩ := oI hd; obtain ⟨_, c1, c2⟩ := Je hC; obtain ⟨g1, g2⟩ := J6 hG; obtain ⟨n1, n2⟩ := J4 h; refine { c := c1, cd := fun i x hx => ⟨(c2 i x hx).2.2.2.1, (c2 i x hx).2.2.2.2⟩, cp := fun i x hx => ?_, rb := fun x hx => ?_, e := fun x hx => ?_, p := g1, ps := ?_, pt := fun x hx => ?_, l := n1, ls := ?_, lt := fun x hx => ?_ }
 ·refine ⟨?_, Ia _⟩; obtain ⟨q1, q2, q3, _⟩ := c2 i x hx; have hil := (List.getElem?_eq_some_iff.1 hx).1; by_cases he : x.pa = ⟨#[]⟩
  ·have hn : fC C x.pa = -1 := by
    refine (iZ fun j y hy => ?_).1; have := BM (c2 j y hy).1; unfold isC; rw [he]; cases e : (y.na.toList == (ByteArray.mk #[]).toList)
    ·rfl
    ·exact absurd (lh (by simpa using e)) this
   omega
  ·unfold tH at q3; rw [decide_eq_false he] at q3; have hh : iw (C.take i) x.pa = true := by simpa using q3
   unfold iw at hh; obtain ⟨y, hy, hyn⟩ := List.any_eq_true.1 hh; obtain ⟨k, hk, hky⟩ := lI hy; rw [List.getElem?_take] at hky; split at hky
   ·rename_i hki; have hle : C.findIdx (fun o => isC o x.pa) ≤ k := by
     rw [Nat.le_iff_lt_or_eq]; by_cases hlt : C.findIdx (fun o => isC o x.pa) < k
     ·exact .inl hlt
     ·right
      by_cases hgt : k < C.findIdx (fun o => isC o x.pa)
      ·have := List.not_of_lt_findIdx hgt; rw [Lu (by omega)] at hky; cases hky
       rw [hyn] at this; cases this
      ·omega
    unfold fC iI; split <;> omega
   ·cases hky
 ·obtain ⟨i, _, hx⟩ := lI hx; exact J3 hU i x hx
 ·obtain ⟨i, _, hx⟩ := lI hx; obtain ⟨q1, q2, q3, _⟩ := J5 hE i x hx; exact ⟨q1, q2, q3.1⟩
 ·refine BN (f := Pur.ti) fun i x y hx hy => ?_
  have ho := (g2 (i + 1) y hy).2.2; rw [Nat.add_sub_cancel, getD_at hx] at ho; unfold uO at ho; rw [decide_eq_true (Nat.succ_pos i), Bool.true_and, Bool.or_eq_false_iff] at ho; have := of_decide_eq_false ho.1; omega
 ·obtain ⟨i, _, hx⟩ := lI hx; obtain ⟨q1, q2, _⟩ := g2 i x hx; exact ⟨q1, (mZ q2).2.1⟩
 ·refine BN (f := Gt.ti) fun i x y hx hy => ?_
  have ho := (n2 (i + 1) y hy).2.2.2; rw [Nat.add_sub_cancel, getD_at hx] at ho; unfold tK at ho; rw [decide_eq_true (Nat.succ_pos i), Bool.true_and] at ho; have := of_decide_eq_false ho; omega
 ·obtain ⟨i, _, hx⟩ := lI hx; obtain ⟨q1, q2, q3, _⟩ := n2 i x hx; exact ⟨q1, (mZ q3).2.1, yl q2⟩
theorem Gm : Sim C [] (xY (C.map (gK C)) L.length) (xd0 C L.length) := by
 have hnone : ∀ {α β : Type} (l : List α) (b : β) (i : Nat), (l.map fun _ => b).getD i b = b := fun l b i => by
  rw [Lt, List.getElem?_map]; cases l[i]? <;> rfl
 exact {
  len := by show (C.map (gK C)).length = _; simp
  st := fun i s hs => by
   have hs' : (C.map (gK C))[i]? = some s := hs; rw [List.getElem?_map] at hs'; cases hc : C[i]? with
   | none => rw [hc] at hs'; cases hs'
   | some c =>
    rw [hc] at hs'; cases hs'
    refine ⟨(getD_at hc).symm, ?_, ?_, rfl, ?_⟩
    ·show fC C c.pa = fC C (C.getD i default).pa
     rw [getD_at hc]
    ·exact (hnone C (default : Ldd) i).symm
    ·have e : (xd0 C L.length).H i = [] := hnone C ([] : List Xh) i; rw [e]; exact ⟨List.Perm.nil, fun h hh => by cases hh⟩
  ak := rfl
  wa := fun j hj => absurd hj (Nat.not_lt_zero _)
  ev := fun e => Iff.intro (fun h => (by cases h)) (fun ⟨k, hk, _⟩ => (by cases hk))
  nd := List.nodup_nil
  hp := fun i h0 hi => absurd hi (Nat.not_lt_zero _)
  no := rfl
  gl := by show (List.replicate _ _).length = (List.replicate _ _).length; simp
  g1 := fun w hw => by cases hw
  g2 := fun g _ => rfl }
theorem Af (hv : Val C R E P L) : aP C P L [] (xd0 C L.length) :=
 { le := ⟨by show (C.map _).length = _; simp, by show (C.map _).length = _; simp, by show (List.replicate _ _).length = _; simp, Nat.zero_le _, Nat.zero_le _⟩
   kk := fun j k h => by cases h
   tm := fun j k h => by cases h
   an := fun j k h => by cases h
   wu := List.Pairwise.nil
   wg := fun w hw => by cases hw
   wk := fun w hw => by cases hw
   wp := fun j k h => by cases h
   lv := fun j k h => by cases h
   he := fun i l h => by
    have h' : (C.map fun _ => ([] : List Xh))[i]? = some l := h; rw [List.getElem?_map] at h'; cases hc : C[i]? with
    | none => rw [hc] at h'; cases h'
    | some c =>
     rw [hc] at h'; cases h'
     exact ⟨List.nodup_nil, fun h hh => by cases hh⟩
   no := ⟨Int.le_refl _, by show (0 : Int) ≤ _; decide⟩
   gn := fun x hx => (hv.lt x (List.mem_of_getElem? hx)).1.1
   pn := fun x hx => (hv.pt x (List.mem_of_getElem? hx)).1.1 }
theorem Gn (hv : Val C R E P L) : Fit 0 (xY (C.map (gK C)) L.length) := by
 have hat : ∀ (i : Nat) (s : Sto), (xY (C.map (gK C)) L.length).st[i]? = some s → ∃ c, C[i]? = some c ∧ s = gK C c := fun i s hs => by
  have hs' : (C.map (gK C))[i]? = some s := hs; rw [List.getElem?_map] at hs'; cases hc : C[i]? with
  | none => rw [hc] at hs'; cases hs'
  | some c => rw [hc] at hs'; cases hs'; exact ⟨c, rfl, rfl⟩
 exact {
  num := ⟨fun e h => (by cases h), fun i s hs j hj => (by obtain ⟨c, hc, rfl⟩ := hat i s hs; cases hj), fun j hj => absurd hj (Nat.not_lt_zero _)⟩
  qu := Ls _
  ak := Ls _
  wa := fun j => Ls _
  pu := Ls _
  no := ⟨Int.le_refl _, by show (0 : Int) ≤ _; decide⟩
  st := fun i s hs => by
   obtain ⟨c, hc, rfl⟩ := hat i s hs; obtain ⟨h1, h2⟩ := hv.cd i c hc; have h3 := hv.cp i c hc; have h4 := (List.getElem?_eq_some_iff.1 hc).1; have h5 := hv.c; refine ⟨Ls _, ⟨Int.le_refl _, Int.le_refl _⟩, ⟨Int.le_refl _, Int.le_refl _⟩, ⟨Int.le_refl _, Int.le_refl _⟩, ⟨Int.le_refl _, Int.le_refl _⟩, ⟨Int.le_refl _, Int.le_refl _⟩, ⟨Int.le_refl _, by show (0 : Int) ≤ ((0 : Nat) : Int) * 1000000000; decide⟩, h1, h2, ⟨h3.2, ?_⟩, Ls _⟩; show fC C c.pa ≤ 30
   omega
  an := fun i s hs k hk => (by obtain ⟨c, hc, rfl⟩ := hat i s hs; cases hk)
  ks := fun i s hs => (by obtain ⟨c, hc, rfl⟩ := hat i s hs; exact ⟨List.nodup_nil, fun k hk => by cases hk⟩)
  qa := fun e h => (by cases h)
  kk := fun j k h => (by cases h)
  wg := fun j hj => absurd hj (Nat.not_lt_zero _) }
theorem FM {α : Type} (f : α → Nat) (n : Nat) : ∀ l : List α, (∀ x, x ∈ l → f x ≤ n) → (l.map f).sum ≤ n * l.length
 | [], _ => Nat.zero_le _
 | a :: l, h => by
  have h1 := h a (List.mem_cons_self ..); have h2 := FM f n l fun x hx => h x (List.mem_cons_of_mem _ hx)
  rw [List.map_cons, List.sum_cons, List.length_cons, Nat.mul_succ]; omega
theorem FI (hv : Val C R E P L) : muX C P L (xd0 C L.length) ≤ 61200 := by
 have h1 := FM (wG C) 61 L fun x hx => by
  obtain ⟨_, _, i, hi, hl⟩ := hv.lt x hx; have := hv.c; unfold wG; rw [hi, Int.toNat_natCast]; omega
 have h2 := hv.l; have h3 := hv.p; show 0 + ((L.drop 0).map (wG C)).sum + (P.length - 0) ≤ _
 rw [List.drop_zero]; omega
theorem Jf (hv : Val C R E P L) (lim : Int) : Both C R E P L lim (xd0 C L.length) ⟨.out, xY (C.map (gK C)) L.length, 0, 0⟩ (xd0 C L.length) :=
 { sim := Gm
   inv := Af hv
   g := rfl
   p := rfl
   rch := .refl _ _
   mode := fun h => by rcases h with h | h <;> cases h
   fit := ⟨0, Gn hv, by
    have := FI hv; show 0 + 0 + 5 * _ ≤ _
    omega⟩ }
structure qp (C : List Cch) (R : List Crl) (E : List Rel) (P : List Pur) (L : List Gt) (lim : Int) (X : Xd) : Prop where
 rch : cu C R E P L lim .out (xd0 C L.length) .out X
 nxt : X.next C R E P L lim .out = none
 inv : aP C P L [] X
theorem Dh {lim : Int} {k : Nat} {c : Cfg} (h : Jo C R E P L lim (xd0 C L.length) k c) (hn : c.next C R E P L lim = none) : ∃ X, qp C R E P L lim X ∧ Sim C [] c.D X := by
 obtain ⟨X, h, _⟩ := h; obtain ⟨hm, h1⟩ := h.last hn; exact ⟨X, ⟨hm ▸ h.rch, h1, h.inv⟩, h.sim⟩
structure Done (L : List Gt) (P : List Pur) (X : Xd) : Prop where
 nx : X.nx = L.length
 pg : X.pg = P.length
 ak : ∀ (j : Nat) (k : Xk), X.ak[j]? = some k → k.cm = true ∧ k.kn = true ∧ k.dn = true
 wt : aB X = []
theorem qp.times {lim : Int} {X : Xd} (h : qp C R E P L lim X) : ∀ t, t ∈ X.times P L → lim < t := fun t ht => by
 have hn := h.nxt; unfold Xd.next at hn
 dsimp only at hn
 cases hm : pX (X.times P L) with
 | none => rw [nH hm] at ht; cases ht
 | some s =>
  rw [hm] at hn
  dsimp only at hn
  split at hn
  ·have := (fK hm).2 t ht; omega
  ·cases hn
theorem qp.done {X : Xd} (h : qp C R E P L 1152921504606846976 X) (hv : Val C R E P L) : Done L P X := by
 have hno : ∀ t, ¬ t ∈ X.times P L := fun t ht => by
  have h1 := h.times t ht; cases hm : pX (X.times P L) with
  | none => rw [nH hm] at ht; cases ht
  | some s =>
   have h2 := h.times s (fK hm).1; have h3 := (h.inv.now hv hm).no.2; have h3 : s ≤ 1000006100000 := h3; omega
 have hcm : ∀ (j : Nat) (k : Xk), X.ak[j]? = some k → k.cm = true := fun j k hk => by
  cases e : k.cm
  ·exact absurd (bD.2 (.inr (.inr ⟨j, k, hk, .inl ⟨e, rfl⟩⟩))) (hno k.ar)
  ·rfl
 have hdn : ∀ (j : Nat) (k : Xk), X.ak[j]? = some k → k.kn = true → k.dn = true := fun j k hk hkn => by
  cases e : k.dn
  ·exact absurd (bD.2 (.inr (.inr ⟨j, k, hk, .inr ⟨hkn, e, rfl⟩⟩))) (hno k.bk)
  ·rfl
 have hkn : ∀ (n : Nat) (a : Nat) (k : Xk), X.ak[a]? = some k → k.ca ≤ n → k.kn = true := by
  intro n
  induction n with
  | zero =>
   intro a k hk hn; cases e : k.kn
   ·obtain ⟨w, hw, hwa⟩ := h.inv.lv a k hk (hcm a k hk) e; rw [List.nil_append] at hw; obtain ⟨k2, hk2, hws⟩ := List.mem_flatMap.1 hw; obtain ⟨j, _, hj⟩ := lI hk2; unfold iP at hws; split at hws
    ·cases hws
    ·rename_i hd; have := h.inv.wp j k2 hj (by simpa using hd) w hws a hwa; rw [Xd.zK hk] at this; omega
   ·rfl
  | succ n ih =>
   intro a k hk hn; cases e : k.kn
   ·obtain ⟨w, hw, hwa⟩ := h.inv.lv a k hk (hcm a k hk) e; rw [List.nil_append] at hw; obtain ⟨k2, hk2, hws⟩ := List.mem_flatMap.1 hw; obtain ⟨j, _, hj⟩ := lI hk2; unfold iP at hws; split at hws
    ·cases hws
    ·rename_i hd; have hlt := h.inv.wp j k2 hj (by simpa using hd) w hws a hwa; rw [Xd.zK hk] at hlt; have := hdn j k2 hj (ih j k2 hj (by omega)); exact absurd this hd
   ·rfl
 have hall : ∀ (j : Nat) (k : Xk), X.ak[j]? = some k → k.cm = true ∧ k.kn = true ∧ k.dn = true := fun j k hk => ⟨hcm j k hk, hkn k.ca j k hk (Ls _), hdn j k hk (hkn k.ca j k hk (Ls _))⟩
 refine ⟨?_, ?_, hall, ?_⟩
 ·have := h.inv.le.2.2.2.1; by_cases e : X.nx < L.length
  ·exact absurd (bD.2 (.inl ⟨_, Lu e, rfl⟩)) (hno _)
  ·omega
 ·have := h.inv.le.2.2.2.2; by_cases e : X.pg < P.length
  ·exact absurd (bD.2 (.inr (.inl ⟨_, Lu e, rfl⟩))) (hno _)
  ·omega
 ·unfold aB; rw [List.flatMap_eq_nil_iff]; intro k hk; obtain ⟨j, _, hj⟩ := lI hk; unfold iP; rw [if_pos (hall j k hj).2.2]
theorem Sim.lds {D : Day} {X : Xd} (h : Sim C [] D X) (hx : aP C P L [] X) : D.st.map Sto.ld = X.ld := by
 apply List.ext_getElem?; intro i; rw [List.getElem?_map]; by_cases hi : i < C.length
 ·obtain ⟨h1, h2⟩ := h.at_ hi; rw [h1]; have hl : i < X.ld.length := by rw [hx.le.2.1]; exact hi
  rw [Lu hl]; show some (D.S i).ld = _
  rw [h2.ld]; unfold Xd.Ld; rw [Lt, Lu hl]
  rfl
 ·rw [List.getElem?_eq_none (by rw [h.len]; omega), List.getElem?_eq_none (by rw [hx.le.2.1]; omega)]
  rfl
end
end Go.Proofs.YtgohddfnhofjhaaGreatDoor

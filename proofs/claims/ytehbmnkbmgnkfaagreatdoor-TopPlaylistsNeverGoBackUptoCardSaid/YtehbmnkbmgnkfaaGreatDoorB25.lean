/- played: the walk. -/
import Derived.Test.YtehbmnkbmgnkfaaGreatDoorB20
import Derived.Test.YtehbmnkbmgnkfaaGreatDoorB23
import Derived.Test.YtehbmnkbmgnkfaaGreatDoorB24
namespace Go.Proofs.YtehbmnkbmgnkfaaGreatDoor
open Go.RowKit

/-- What a delivery and gets are in memory. -/
structure InS (w : World) (C : List Cch) (R : List Crl) (E : List Rel) (P : List Pur) (L : List Gt) (vc vr ve vp vl : Value) : Prop where
  c : Sl w 4 encC vc C
  r : Sl w 4 encU vr R
  e : Sl w 4 encL ve E
  p : Sl w 2 encG vp P
  l : Sl w 3 encT vl L
theorem InS.below {w W : World} {C : List Cch} {R : List Crl} {E : List Rel} {P : List Pur} {L : List Gt} {vc vr ve vp vl : Value} (h : InS w C R E P L vc vr ve vp vl) (hb : Below w.heap.size w W) : InS W C R E P L vc vr ve vp vl :=
  ⟨h.c.below hb (Nat.le_refl _), h.r.below hb (Nat.le_refl _), h.e.below hb (Nat.le_refl _), h.p.below hb (Nat.le_refl _), h.l.below hb (Nat.le_refl _)⟩
set_option maxRecDepth 100000 in
set_option maxHeartbeats 4000000 in
theorem played_any (w : World) (C : List Cch) (R : List Crl) (E : List Rel) (P : List Pur) (L : List Gt) (vc vr ve vp vl : Value) (h : InS w C R E P L vc vr ve vp vl) (hv : Val C R E P L) :
    Calls Tryz.prog 17 #[.agg #[vc, vr, ve, vp], vl] w fun e w' => ∃ B A D X, e = .returned (.pointer (some ⟨A.q, 0, none⟩)) ∧ PD w' B A D ∧ w.heap.size ≤ B ∧ EndX C R E P L 1152921504606846976 X ∧ Sim C [] D X ∧ Below w.heap.size w w' := by
  obtain ⟨w2, hw2⟩ : ∃ w2, w2 = w.alloc (.cells #[vc, vr, ve, vp] 41) := ⟨_, rfl⟩
  have hb2 : Below w.heap.size w w2 := by rw [hw2]; exact (Below.refl _ w).alloc (Nat.le_refl _) _
  have hnb : w2.heap[w.heap.size]? = some (.cells #[vc, vr, ve, vp] 41 (0, 0)) := by rw [hw2]; exact block_new w _
  have q0 : w2.cell? ⟨w.heap.size, 0, none⟩ = some vc := cellF hnb 0 rfl
  have q1 : w2.cell? ⟨w.heap.size, 1, none⟩ = some vr := cellF hnb 1 rfl
  have q2 : w2.cell? ⟨w.heap.size, 2, none⟩ = some ve := cellF hnb 2 rfl
  have q3 : w2.cell? ⟨w.heap.size, 3, none⟩ = some vp := cellF hnb 3 rfl
  have hs := h.below hb2
  have HC30 := hv.c
  have HL := hv.l
  have HN := Lib.hid (newWorld_any w2 C vc vr ve vp L.length hs.c HL (by omega))
  have HRN : Hid (∀ (W : World) (A : Adr), PD W w2.heap.size A (day0 (C.map (stoOf C)) L.length) → A.d0 = vc → A.d1 = vr → A.d2 = ve → A.d3 = vp → Below w2.heap.size w2 W →
      Calls Tryz.prog 41 #[.pointer (some ⟨A.q, 0, none⟩), vl, .int .i64 1152921504606846976] W fun e w' => ∃ A' D X, A'.q = A.q ∧ e = .returned (.tuple #[]) ∧ PD w' w2.heap.size A' D ∧ EndX C R E P L 1152921504606846976 X ∧ Sim C [] D X ∧ Below w2.heap.size W w') := Lib.hid fun W A hp e0 e1 e2 e3 hb => by
    refine (run_any w2 W w2.heap.size A _ C R E P L vl 1152921504606846976 (InvB C R E P L 1152921504606846976 (xd0 C L.length)) (muX C P L (xd0 C L.length)) (runInv hv _) hp ⟨_, both0 hv _, rfl⟩ ⟨Nat.le_refl _, by rw [e0]; exact hs.c, by rw [e1]; exact hs.r, by rw [e2]; exact hs.e, by rw [e3]; exact hs.p, hv.rb, fun x hx => ?_⟩ hb hs.l ⟨by decide, by decide⟩ ⟨by have := hv.p; omega, HL⟩ (fun x hx => (hv.pt x hx).2)).mono ?_
    · obtain ⟨g1, g2, _⟩ := hv.e x hx
      cases hg : x.go
      · have := g2 hg; omega
      · have := g1 hg; omega
    · rintro e w' ⟨A', k, c, rfl, h1, h2, h3, h4, h5⟩
      obtain ⟨X, h6, h7⟩ := endX_of h4 h5
      exact ⟨A', c.D, X, h2.q, rfl, h1, h6, h7, h3⟩
  obtain ⟨ao, cap, rfl, hcap, hmax, -, -⟩ := h.l
  have HB2 := Lib.hid hb2
  have HW2 := Lib.hid hw2
  clear hs hnb hb2 hw2 h hv HC30
  go_enter Tryz.func17, Tryz.ntmps17
  go_upto_region 1 with (fail)
  rw [← HW2.out]
  go_wp2_with (go_at_call 40; (with_reducible refine HN.out.mono ?_); rintro e w3 ⟨A, rfl, hp, e0, e1, e2, e3, hb3⟩; have HR2 := Lib.hid (HRN.out w3 A hp e0 e1 e2 e3 hb3); have HB3 := Lib.hid hb3; clear hp e0 e1 e2 e3 hb3 q0 q1 q2 q3)
  go_wp2_with (go_at_call 41; (with_reducible refine HR2.out.mono ?_); rintro e w4 ⟨A', D, X, hq, rfl, hp, hE, hS, hb4⟩; have HP := Lib.hid hp; have HQ := Lib.hid hq; have HES := Lib.hid (And.intro hE hS); have HB4 := Lib.hid hb4; clear hp hE hS hb4 hq)
  go_wp2_with fail
  go_ret
  exact ⟨w2.heap.size, A', D, X, by rw [HQ.out]; rfl, HP.out, HB2.out.size, HES.out.1, HES.out.2, HB2.out.thru (HB3.out.trans HB4.out)⟩
end Go.Proofs.YtehbmnkbmgnkfaaGreatDoor

/- The day as the document tells it: what is true of all answers while all happens. -/
namespace Go.Proofs.YtehbmnkbmgnkfaaGreatDoor
open Go.RowKit

theorem purI_ge {P : List Pur} {k : ByteArray} {t : Int} : ∀ {n : Nat}, -1 ≤ purI P k t n
  | 0 => Int.le_refl _
  | n + 1 => by
    have h := purI_ge (P := P) (k := k) (t := t) (n := n)
    unfold purI
    split <;> omega
theorem purM_ge {P : List Pur} {k : ByteArray} {t : Int} : -1 ≤ purM P k t := purI_ge
theorem purI_mem {P : List Pur} {k : ByteArray} {t : Int} {x : Pur} {q : Nat} (hx : P[q]? = some x) (hk : x.ke = k) (ht : x.ti ≤ t) : ∀ {n : Nat}, q < n → n ≤ P.length → x.ti ≤ purI P k t n
  | 0, h, _ => absurd h (Nat.not_lt_zero _)
  | n + 1, h, hn => by
    by_cases e : q = n
    · subst e
      rw [purI_next hx, if_pos (by simp [hk, ht])]
      omega
    · have h1 := purI_mem hx hk ht (n := n) (by omega) (by omega)
      rw [purI_next (List.getElem?_eq_getElem (by omega : n < P.length))]
      split <;> omega
theorem purM_mem {P : List Pur} {k : ByteArray} {t : Int} {x : Pur} {q : Nat} (hx : P[q]? = some x) (hk : x.ke = k) (ht : x.ti ≤ t) : x.ti ≤ purM P k t :=
  purI_mem hx hk ht (List.getElem?_eq_some_iff.1 hx).1 (Nat.le_refl _)
theorem purI_le {P : List Pur} {k : ByteArray} {t v : Int} (hv : -1 ≤ v) (h : ∀ (q : Nat) (x : Pur), P[q]? = some x → x.ke = k → x.ti ≤ t → x.ti ≤ v) : ∀ {n : Nat}, n ≤ P.length → purI P k t n ≤ v
  | 0, _ => hv
  | n + 1, hn => by
    have h1 := purI_le hv h (n := n) (by omega)
    have hx := List.getElem?_eq_getElem (by omega : n < P.length)
    rw [purI_next hx]
    split
    · rename_i hc
      simp only [Bool.and_eq_true, beq_iff_eq, decide_eq_true_eq] at hc
      have := h n _ hx (ba_list hc.1) hc.2
      omega
    · exact h1
theorem purM_le {P : List Pur} {k : ByteArray} {t v : Int} (hv : -1 ≤ v) (h : ∀ (q : Nat) (x : Pur), P[q]? = some x → x.ke = k → x.ti ≤ t → x.ti ≤ v) : purM P k t ≤ v := purI_le hv h (Nat.le_refl _)
theorem purM_time {P : List Pur} {k : ByteArray} {t : Int} (ht : -1 ≤ t) : purM P k t ≤ t := purM_le ht fun _ _ _ _ h => h
theorem purM_mono {P : List Pur} {k : ByteArray} {s t : Int} (h : s ≤ t) : purM P k s ≤ purM P k t := purM_le purM_ge fun _ _ hx hk ht => purM_mem hx hk (Int.le_trans ht h)
theorem purM_same {P : List Pur} {k : ByteArray} {s t : Int} (h : purM P k t ≤ s) : purM P k t ≤ purM P k s := purM_le purM_ge fun _ _ hx hk ht => purM_mem hx hk (Int.le_trans (purM_mem hx hk ht) h)

section
variable (R : List Crl) (E : List Rel) (P : List Pur) (L : List Gt)
/-- An answer is what the origin had when it was born. -/
def SameO (key : ByteArray) (a : Ans) : Prop := a.ve = (oriM E key a.bo).ve ∧ a.si = (oriM E key a.bo).si ∧ a.no = (oriM E key a.bo).no
/-- An answer for who asked at a time. -/
structure AnsAt (no : Int) (key : ByteArray) (ma : Int) (a : Ans) : Prop where
  bo : a.bo ≤ no
  pu : purM P key ma ≤ a.bo
  so : SameO E key a
def keyX (X : Xd) (w : Xw) : ByteArray := match w.ak with
  | some a => (X.K a).ke
  | none => (L.getD w.ge default).ke
def madeX (X : Xd) (w : Xw) : Int := match w.ak with
  | some a => (X.K a).ma
  | none => (L.getD w.ge default).ti
/-- Who waits at an ask gets from it what he may have. -/
structure WtOk (X : Xd) (key : ByteArray) (ma : Int) (w : Xw) : Prop where
  ke : keyX L X w = key
  pu : purM P key (madeX L X w) ≤ purM P key ma
  ho : w.ak = none → w.ho ≠ 1 ∧ w.ho ≠ 2
/-- A get has its answer. -/
structure GotOk (q : Gt) (x : Gtn) : Prop where
  ti : q.ti ≤ x.ti
  bo : x.bo ≤ x.ti
  pu : purM P q.ke q.ti ≤ x.bo
  ve : x.ve = (oriM E q.ke x.bo).ve
  h1 : x.ho = 1 → x.ti = q.ti ∧ x.ti < untM (rulO R q.ke) (oriM E q.ke x.bo) false
  h2 : x.ho = 2 → x.ti = q.ti ∧ untM (rulO R q.ke) (oriM E q.ke x.bo) false ≤ x.ti ∧ x.ti < untM (rulO R q.ke) (oriM E q.ke x.bo) true
structure HldOk (X : Xd) (h : Xh) : Prop where
  so : SameO E h.ke h.an
  us : h.an.bo ≤ h.us ∧ h.us ≤ X.no
  pu : ∀ (q : Nat) (p : Pur), q < X.pg → P[q]? = some p → p.ke = h.ke → p.ti ≤ h.an.bo
def totH (l : List Xh) : Int := (l.map fun h => needA h.an).foldr (· + ·) 0
structure GInv (C : List Cch) (pd : List Xw) (X : Xd) : Prop where
  gb : ∀ (g : Nat) (x : Gtn), X.go[g]? = some x → 0 ≤ x.bo ∧ x.bo ≤ x.ti ∧ x.ti ≤ X.no
  kw : ∀ (j : Nat) (k : Xk), X.ak[j]? = some k → k.kn = true → AnsAt E P X.no k.ke k.ma k.go
  kj : ∀ (j : Nat) (k : Xk), X.ak[j]? = some k → k.dn = false → ∀ w, w ∈ k.ws → WtOk P L X k.ke k.ma w
  ga : ∀ g, g < X.nx → (∀ w, w ∈ pd ++ waitsX X → w.ak = none → w.ge ≠ g) → GotOk R E P (L.getD g default) (X.G g)
  gt : ∀ g, g < X.nx → (L.getD g default).ti ≤ X.no
  hh : ∀ (i : Nat) (l : List Xh), X.he[i]? = some l → ∀ h, h ∈ l → HldOk E P X h
  hs : ∀ (i : Nat) (l : List Xh), X.he[i]? = some l → totH l ≤ (C.getD i default).ro
  tq : ∀ (q : Nat) (p : Pur), q < X.pg → P[q]? = some p → p.ti ≤ X.no
end
theorem oriM_bo (E : List Rel) (key : ByteArray) (t : Int) : (oriM E key t).bo = t := by unfold oriM; split <;> rfl
theorem oriM_so (E : List Rel) (key : ByteArray) (t : Int) : SameO E key (oriM E key t) := by unfold SameO; rw [oriM_bo]; exact ⟨rfl, rfl, rfl⟩
theorem untM_so {E : List Rel} {key : ByteArray} {a : Ans} (h : SameO E key a) (r : Crl) (b : Bool) : untM r (oriM E key a.bo) b = untM r a b := by
  unfold untM
  rw [oriM_bo, ← h.2.2]
section
variable {C : List Cch} {R : List Crl} {E : List Rel} {P : List Pur} {L : List Gt} {X : Xd} {pd : List Xw}
theorem GInv.perm {pd' : List Xw} (h : GInv R E P L C pd X) (hp : pd'.Perm pd) : GInv R E P L C pd' X :=
  { h with ga := fun g hg hw => h.ga g hg fun w hw2 => hw w ((hp.append_right _).symm.subset hw2) }
theorem GInv.ld (h : GInv R E P L C pd X) (i : Nat) (f : Ldd → Ldd) : GInv R E P L C pd (X.setL i f) :=
  { gb := h.gb, kw := h.kw, kj := fun j k hk hd w hw => by have g := h.kj j k hk hd w hw; exact ⟨g.ke, g.pu, g.ho⟩, ga := h.ga, gt := h.gt, hh := fun i l hl x hx => by have g := h.hh i l hl x hx; exact ⟨g.so, g.us, g.pu⟩, hs := h.hs, tq := h.tq }
theorem GInv.heS (h : GInv R E P L C pd X) (i : Nat) (l : List Xh) (hl : ∀ x, x ∈ l → HldOk E P X x) (ht : totH l ≤ (C.getD i default).ro) : GInv R E P L C pd (X.setH i l) :=
  { gb := h.gb, kw := h.kw, kj := fun j k hk hd w hw => by have g := h.kj j k hk hd w hw; exact ⟨g.ke, g.pu, g.ho⟩, ga := h.ga, gt := h.gt, tq := h.tq
    hh := fun j m hm x hx => by
      rcases set_at hm with ⟨_, rfl⟩ | ⟨_, hm⟩
      · have g := hl x hx; exact ⟨g.so, g.us, g.pu⟩
      · have g := h.hh j m hm x hx; exact ⟨g.so, g.us, g.pu⟩
    hs := fun j m hm => by
      rcases set_at hm with ⟨rfl, rfl⟩ | ⟨_, hm⟩
      · exact ht
      · exact h.hs j m hm }
theorem keyX_setA {j : Nat} {k' : Xk} {w : Xw} (hj : j < X.ak.length) (e1 : k'.ke = (X.K j).ke) (e2 : k'.ma = (X.K j).ma) : keyX L (X.setA j k') w = keyX L X w ∧ madeX L (X.setA j k') w = madeX L X w := by
  unfold keyX madeX
  cases w.ak with
  | none => exact ⟨rfl, rfl⟩
  | some a =>
    dsimp only
    rw [Xd.setA_K hj]
    split
    · rename_i e; rw [e1, e2, e]; exact ⟨rfl, rfl⟩
    · exact ⟨rfl, rfl⟩
theorem WtOk.setA {j : Nat} {k' : Xk} {w : Xw} {key : ByteArray} {ma : Int} (h : WtOk P L X key ma w) (hj : j < X.ak.length) (e1 : k'.ke = (X.K j).ke) (e2 : k'.ma = (X.K j).ma) : WtOk P L (X.setA j k') key ma w :=
  ⟨by rw [(keyX_setA hj e1 e2).1]; exact h.ke, by rw [(keyX_setA hj e1 e2).2]; exact h.pu, h.ho⟩
/-- What a get needs, to have an answer now. -/
structure NowOk (R : List Crl) (E : List Rel) (P : List Pur) (L : List Gt) (X : Xd) (w : Xw) (a : Ans) : Prop where
  an : AnsAt E P X.no (keyX L X w) (madeX L X w) a
  bo : 0 ≤ a.bo
  h1 : w.ak = none → w.ho = 1 → X.no = madeX L X w ∧ X.no < untM (rulO R (keyX L X w)) a false
  h2 : w.ak = none → w.ho = 2 → X.no = madeX L X w ∧ untM (rulO R (keyX L X w)) a false ≤ X.no ∧ X.no < untM (rulO R (keyX L X w)) a true
theorem GInv.give {w : Xw} {a : Ans} (h : GInv R E P L C (w :: pd) X) (hj : ∀ j, w.ak = some j → j < X.ak.length) (hg : w.ak = none → w.ge < X.nx ∧ X.nx ≤ X.go.length) (ha : NowOk R E P L X w a) : GInv R E P L C pd (X.giveX C w a) := by
  unfold Xd.giveX
  cases hw : w.ak with
  | none =>
    obtain ⟨h1, h2⟩ := hg hw
    have hgl : w.ge < X.go.length := by omega
    have hG : ∀ g, (X.go.set w.ge ⟨X.no, a.ve, a.bo, a.fr, w.ho⟩).getD g default = if g = w.ge then ⟨X.no, a.ve, a.bo, a.fr, w.ho⟩ else X.G g := fun g => G_set hgl
    have ek : keyX L X w = (L.getD w.ge default).ke := by unfold keyX; rw [hw]
    have em : madeX L X w = (L.getD w.ge default).ti := by unfold madeX; rw [hw]
    obtain ⟨⟨a1, a2, a3⟩, a4, a5, a6⟩ := ha
    rw [ek] at a2 a3 a5 a6
    rw [em] at a2 a5 a6
    exact {
      gb := fun g x hx => by
        rcases set_at hx with ⟨_, rfl⟩ | ⟨_, hx⟩
        · exact ⟨a4, a1, Int.le_refl _⟩
        · exact h.gb g x hx
      kw := h.kw
      kj := fun j k hk hd v hv => by have g := h.kj j k hk hd v hv; exact ⟨g.ke, g.pu, g.ho⟩
      ga := fun g hg2 hv => by
        show GotOk R E P _ ((X.go.set w.ge _).getD g default)
        rw [hG]
        split
        · rename_i e
          subst e
          refine ⟨h.gt _ h1, a1, a2, a3.1, fun e => ?_, fun e => ?_⟩
          · rw [untM_so a3]; exact a5 hw e
          · rw [untM_so a3, untM_so a3]; exact a6 hw e
        · rename_i e
          refine h.ga g hg2 fun v hv2 hvn => ?_
          rcases List.mem_cons.1 hv2 with rfl | hv2
          · exact Ne.symm e
          · exact hv v hv2 hvn
      gt := h.gt
      hh := fun i l hl x hx => by have g := h.hh i l hl x hx; exact ⟨g.so, g.us, g.pu⟩
      hs := h.hs
      tq := h.tq }
  | some j =>
    have hj := hj j hw
    have hk := Xd.at_ hj
    have ek : keyX L X w = (X.K j).ke := by unfold keyX; rw [hw]
    have em : madeX L X w = (X.K j).ma := by unfold madeX; rw [hw]
    have ha := ha.an
    rw [ek, em] at ha
    obtain ⟨k', hk'⟩ : ∃ k', k' = { X.K j with kn := true, go := a, bk := X.no + deO C (X.K j).ca } := ⟨_, rfl⟩
    have hpm := waits_same (k' := k') hk (by rw [hk']; rfl)
    show GInv R E P L C pd (X.setA j { X.K j with kn := true, go := a, bk := X.no + deO C (X.K j).ca })
    rw [← hk']
    exact {
      gb := h.gb
      kw := fun b k hb hkn => by
        rcases setA_at hb with ⟨rfl, rfl⟩ | ⟨_, hb⟩
        · rw [hk']; exact ha
        · exact h.kw b k hb hkn
      kj := fun b k hb hd v hv => by
        have e : WtOk P L X k.ke k.ma v := by
          rcases setA_at hb with ⟨rfl, rfl⟩ | ⟨_, hb⟩
          · rw [hk'] at hd hv ⊢; exact h.kj b _ hk hd v hv
          · exact h.kj b k hb hd v hv
        exact e.setA hj (by rw [hk']) (by rw [hk'])
      ga := fun g hg2 hv => h.ga g hg2 fun v hv2 hvn => by
        rcases List.mem_cons.1 hv2 with rfl | hv2
        · rw [hw] at hvn; cases hvn
        · exact hv v ((hpm.append_left pd).symm.subset hv2) hvn
      gt := h.gt
      hh := fun i l hl x hx => by have g := h.hh i l hl x hx; exact ⟨g.so, g.us, g.pu⟩
      hs := h.hs
      tq := h.tq }
theorem keyX_start {i : Nat} {key : ByteArray} {al : Bool} {ws : List Xw} {w : Xw} (hw : ∀ a, w.ak = some a → a < X.ak.length) : keyX L (X.startX C i key al ws) w = keyX L X w ∧ madeX L (X.startX C i key al ws) w = madeX L X w := by
  unfold keyX madeX
  cases ha : w.ak with
  | none => exact ⟨rfl, rfl⟩
  | some a =>
    have hl := hw a ha
    have e : (X.startX C i key al ws).K a = X.K a := by
      show (X.ak ++ [_]).getD a default = _
      rw [List.getD_eq_getElem?_getD, List.getElem?_append_left hl, ← List.getD_eq_getElem?_getD]
      rfl
    dsimp only
    rw [e]
    exact ⟨rfl, rfl⟩
theorem waits_start {i : Nat} {key : ByteArray} {al : Bool} {ws : List Xw} : waitsX (X.startX C i key al ws) = waitsX X ++ ws := by
  show (X.ak ++ [_]).flatMap wsOf = _
  rw [List.flatMap_append]
  simp [waitsX, wsOf]
theorem GInv.start {i : Nat} {key : ByteArray} {al : Bool} {ws : List Xw} (h : GInv R E P L C (ws ++ pd) X) (hb : ∀ w, w ∈ (ws ++ pd) ++ waitsX X → ∀ a, w.ak = some a → a < X.ak.length) (hw : ∀ w, w ∈ ws → WtOk P L X key X.no w) : GInv R E P L C pd (X.startX C i key al ws) := by
  have hpm : (pd ++ waitsX (X.startX C i key al ws)).Perm ((ws ++ pd) ++ waitsX X) := by
    rw [waits_start]
    refine (List.perm_append_comm_assoc pd (waitsX X) ws).trans ?_
    refine List.perm_append_comm.trans ?_
    exact (List.Perm.append_right _ List.perm_append_comm)
  exact {
    gb := h.gb
    kw := fun b k hk hkn => by
      rcases push_at hk with ⟨_, rfl⟩ | ⟨_, hk⟩
      · cases hkn
      · exact h.kw b k hk hkn
    kj := fun b k hk hd v hv => by
      rcases push_at hk with ⟨_, rfl⟩ | ⟨_, hk⟩
      · have g := hw v hv
        obtain ⟨e1, e2⟩ := keyX_start (C := C) (L := L) (i := i) (key := key) (al := al) (ws := ws) (hb v (List.mem_append_left _ (List.mem_append_left _ hv)))
        exact ⟨by rw [e1]; exact g.ke, by rw [e2]; exact g.pu, g.ho⟩
      · have g := h.kj b k hk hd v hv
        have hm : v ∈ waitsX X := List.mem_flatMap.2 ⟨k, List.mem_of_getElem? hk, by unfold wsOf; rw [if_neg (by simp [hd])]; exact hv⟩
        obtain ⟨e1, e2⟩ := keyX_start (C := C) (L := L) (i := i) (key := key) (al := al) (ws := ws) (hb v (List.mem_append_right _ hm))
        exact ⟨by rw [e1]; exact g.ke, by rw [e2]; exact g.pu, g.ho⟩
    ga := fun g hg hv => h.ga g hg fun v hv2 => hv v (hpm.symm.subset hv2)
    gt := h.gt
    hh := fun i l hl x hx => by have g := h.hh i l hl x hx; exact ⟨g.so, g.us, g.pu⟩
    hs := h.hs
    tq := h.tq }
theorem GInv.join {j : Nat} {w : Xw} (h : GInv R E P L C (w :: pd) X) (hj : j < X.ak.length) (hd : (X.K j).dn = false) (hw : WtOk P L X (X.K j).ke (X.K j).ma w) : GInv R E P L C pd (X.joinX j w) := by
  have hk := Xd.at_ hj
  have hpm : (pd ++ waitsX (X.joinX j w)).Perm ((w :: pd) ++ waitsX X) := by
    have h1 := waits_set (k' := { X.K j with ws := (X.K j).ws ++ [w] }) hk
    have e1 : wsOf (X.K j) = (X.K j).ws := if_neg (by simp [hd])
    have e2 : wsOf { X.K j with ws := (X.K j).ws ++ [w] } = (X.K j).ws ++ [w] := if_neg (by simp [hd])
    rw [e1, e2, List.append_assoc] at h1
    have h2 := (List.perm_append_left_iff _).1 h1
    exact (List.Perm.append_left pd h2).trans List.perm_middle
  show GInv R E P L C pd (X.setA j { X.K j with ws := (X.K j).ws ++ [w] })
  exact {
    gb := h.gb
    kw := fun b k hb hkn => by
      rcases setA_at hb with ⟨rfl, rfl⟩ | ⟨_, hb⟩
      · have g := h.kw b _ hk hkn; exact g
      · exact h.kw b k hb hkn
    kj := fun b k hb hd2 v hv => by
      have e : WtOk P L X k.ke k.ma v := by
        rcases setA_at hb with ⟨rfl, rfl⟩ | ⟨_, hb⟩
        · rcases List.mem_append.1 hv with hv | hv
          · have g := h.kj b _ hk hd v hv; exact g
          · simp only [List.mem_singleton] at hv
            subst hv; exact hw
        · exact h.kj b k hb hd2 v hv
      exact e.setA (k' := { X.K j with ws := (X.K j).ws ++ [w] }) hj rfl rfl
    ga := fun g hg hv => h.ga g hg fun v hv2 => hv v (hpm.symm.subset hv2)
    gt := h.gt
    hh := fun i l hl x hx => by have g := h.hh i l hl x hx; exact ⟨g.so, g.us, g.pu⟩
    hs := h.hs
    tq := h.tq }
theorem GInv.done {j : Nat} (h : GInv R E P L C pd X) (hj : j < X.ak.length) (hd : (X.K j).dn = false) : GInv R E P L C ((X.K j).ws ++ pd) (X.doneX j) := by
  have hk := Xd.at_ hj
  have hpm : (((X.K j).ws ++ pd) ++ waitsX (X.setA j { X.K j with dn := true })).Perm (pd ++ waitsX X) := by
    have h1 := waits_set (k' := { X.K j with dn := true }) hk
    have e1 : wsOf (X.K j) = (X.K j).ws := if_neg (by simp [hd])
    have e2 : wsOf { X.K j with dn := true } = [] := if_pos rfl
    rw [e1, e2, List.nil_append] at h1
    refine (List.Perm.append_right _ List.perm_append_comm).trans ?_
    rw [List.append_assoc]
    exact List.Perm.append_left pd h1
  refine GInv.ld ?_ _ _
  exact {
    gb := h.gb
    kw := fun b k hb hkn => by
      rcases setA_at hb with ⟨rfl, rfl⟩ | ⟨_, hb⟩
      · have g := h.kw b _ hk hkn; exact g
      · exact h.kw b k hb hkn
    kj := fun b k hb hd2 v hv => by
      have e : WtOk P L X k.ke k.ma v := by
        rcases setA_at hb with ⟨rfl, rfl⟩ | ⟨_, hb⟩
        · cases hd2
        · exact h.kj b k hb hd2 v hv
      exact e.setA (k' := { X.K j with dn := true }) hj rfl rfl
    ga := fun g hg hv => h.ga g hg fun v hv2 => hv v (hpm.symm.subset hv2)
    gt := h.gt
    hh := fun i l hl x hx => by have g := h.hh i l hl x hx; exact ⟨g.so, g.us, g.pu⟩
    hs := h.hs
    tq := h.tq }
theorem GInv.came {j : Nat} (h : GInv R E P L C pd X) (hj : j < X.ak.length) (ho : Int) : GInv R E P L C (⟨0, some j, ho⟩ :: pd) (X.cameX j) := by
  have hk := Xd.at_ hj
  have hpp := (waits_same (k' := { X.K j with cm := true }) hk rfl).append_left pd
  show GInv R E P L C (⟨0, some j, ho⟩ :: pd) (X.setA j { X.K j with cm := true })
  exact {
    gb := h.gb
    kw := fun b k hb hkn => by
      rcases setA_at hb with ⟨rfl, rfl⟩ | ⟨_, hb⟩
      · have g := h.kw b _ hk hkn; exact g
      · exact h.kw b k hb hkn
    kj := fun b k hb hd2 v hv => by
      have e : WtOk P L X k.ke k.ma v := by
        rcases setA_at hb with ⟨rfl, rfl⟩ | ⟨_, hb⟩
        · have g := h.kj b _ hk hd2 v hv; exact g
        · exact h.kj b k hb hd2 v hv
      exact e.setA (k' := { X.K j with cm := true }) hj rfl rfl
    ga := fun g hg hv => h.ga g hg fun v hv2 => hv v (List.mem_cons_of_mem _ (hpp.symm.subset hv2))
    gt := h.gt
    hh := fun i l hl x hx => by have g := h.hh i l hl x hx; exact ⟨g.so, g.us, g.pu⟩
    hs := h.hs
    tq := h.tq }
theorem GInv.get (h : GInv R E P L C pd X) (ht : (L.getD X.nx default).ti = X.no) (ho : Int) : GInv R E P L C (⟨X.nx, none, ho⟩ :: pd) { X with nx := X.nx + 1 } :=
  { gb := h.gb, kw := h.kw, hs := h.hs, tq := h.tq
    kj := fun j k hk hd v hv => by have g := h.kj j k hk hd v hv; exact ⟨g.ke, g.pu, g.ho⟩
    hh := fun i l hl x hx => by have g := h.hh i l hl x hx; exact ⟨g.so, g.us, g.pu⟩
    ga := fun g hg hv => by
      have hg : g < X.nx + 1 := hg
      have hne : X.nx ≠ g := hv ⟨X.nx, none, ho⟩ (List.mem_cons_self ..) rfl
      exact h.ga g (by omega) fun v hv2 => hv v (List.mem_cons_of_mem _ hv2)
    gt := fun g hg => by
      have hg : g < X.nx + 1 := hg
      by_cases e : g = X.nx
      · rw [e, ht]; exact Int.le_refl _
      · exact h.gt g (by omega) }
theorem GInv.now (h : GInv R E P L C pd X) {t : Int} (ht : X.no ≤ t) : GInv R E P L C pd { X with no := t } :=
  { ga := h.ga, hs := h.hs
    gb := fun g x hx => by obtain ⟨h1, h2, h3⟩ := h.gb g x hx; exact ⟨h1, h2, Int.le_trans h3 ht⟩
    kw := fun j k hk hkn => by have g := h.kw j k hk hkn; exact ⟨Int.le_trans g.bo ht, g.pu, g.so⟩
    kj := fun j k hk hd v hv => by have g := h.kj j k hk hd v hv; exact ⟨g.ke, g.pu, g.ho⟩
    gt := fun g hg => Int.le_trans (h.gt g hg) ht
    hh := fun i l hl x hx => by have g := h.hh i l hl x hx; exact ⟨g.so, ⟨g.us.1, Int.le_trans g.us.2 ht⟩, g.pu⟩
    tq := fun q p hq hp => Int.le_trans (h.tq q p hq hp) ht }
theorem totH_cons (x : Xh) (l : List Xh) : totH (x :: l) = needA x.an + totH l := rfl
theorem totH_app (l m : List Xh) : totH (l ++ m) = totH l + totH m := by
  induction l with
  | nil => show _ = 0 + _; simp
  | cons a l ih => rw [List.cons_append, totH_cons, totH_cons, ih]; omega
theorem needA_ge {a : Ans} (h : AnsOk a) : 1 ≤ needA a := by
  unfold needA
  cases hn : a.no
  · simp; exact (h.s1 hn).1
  · simp
theorem totH_filter (p : Xh → Bool) : ∀ (l : List Xh), (∀ h, h ∈ l → AnsOk h.an) → totH (l.filter p) ≤ totH l
  | [], _ => Int.le_refl _
  | a :: l, h => by
    have h1 := totH_filter p l fun x hx => h x (List.mem_cons_of_mem _ hx)
    have h2 := needA_ge (h a (List.mem_cons_self ..))
    rw [List.filter_cons]
    split
    · rw [totH_cons, totH_cons]; omega
    · rw [totH_cons]; omega
theorem GInv.pur (h : GInv R E P L C pd X) (hx : XInv C P L pd X) (hp : X.pg < P.length) (ht : (P.getD X.pg default).ti = X.no) : GInv R E P L C pd (X.purX (P.getD X.pg default).ke) := by
  have hpg : P[X.pg]? = some (P.getD X.pg default) := by rw [List.getD_eq_getElem?_getD, List.getElem?_eq_getElem hp]; rfl
  have hat : ∀ (i : Nat) (l : List Xh), (X.purX (P.getD X.pg default).ke).he[i]? = some l → ∃ l0, X.he[i]? = some l0 ∧ l = delH l0 (P.getD X.pg default).ke := fun i l hl => by
    have hl' : (X.he.map fun l => delH l (P.getD X.pg default).ke)[i]? = some l := hl
    rw [List.getElem?_map] at hl'
    cases hl0 : X.he[i]? with
    | none => rw [hl0] at hl'; cases hl'
    | some l0 => rw [hl0] at hl'; cases hl'; exact ⟨l0, rfl, rfl⟩
  exact {
    gb := h.gb
    kw := h.kw
    kj := fun j k hk hd v hv => by have g := h.kj j k hk hd v hv; exact ⟨g.ke, g.pu, g.ho⟩
    ga := h.ga
    gt := h.gt
    hh := fun i l hl x hm => by
      obtain ⟨l0, hl0, rfl⟩ := hat i l hl
      obtain ⟨hm1, hm2⟩ := List.mem_filter.1 hm
      have g := h.hh i l0 hl0 x hm1
      refine ⟨g.so, g.us, fun q p hq hpq hpk => ?_⟩
      have hq : q < X.pg + 1 := hq
      by_cases e : q = X.pg
      · rw [e, hpg] at hpq
        cases hpq
        simp only [Bool.not_eq_true', decide_eq_false_iff_not] at hm2
        exact absurd hpk.symm hm2
      · exact g.pu q p (by omega) hpq hpk
    hs := fun i l hl => by
      obtain ⟨l0, hl0, rfl⟩ := hat i l hl
      exact Int.le_trans (totH_filter _ l0 fun x hx2 => ((hx.he i l0 hl0).2 x hx2).2) (h.hs i l0 hl0)
    tq := fun q p hq hpq => by
      have hq : q < X.pg + 1 := hq
      by_cases e : q = X.pg
      · rw [e, hpg] at hpq
        cases hpq
        rw [ht]; exact Int.le_refl _
      · exact h.tq q p (by omega) hpq }
/-- The room that keys take, and that what is held takes. -/
theorem totK_totH {l : List Xh} {f : ByteArray → Hld} : ∀ (m : List Xh), (∀ x, x ∈ m → (f x.ke).an = x.an) → totK f (m.map Xh.ke) = totH m
  | [], _ => rfl
  | a :: m, h => by
    show needA (f a.ke).an + totK f (m.map Xh.ke) = _
    rw [totK_totH (l := l) m fun x hx => h x (List.mem_cons_of_mem _ hx), h a (List.mem_cons_self ..), totH_cons]
theorem evK_room {f : ByteArray → Hld} {ro nd : Int} (hr : nd ≤ ro) : ∀ {n : Nat} {ks : List ByteArray}, ks.length ≤ n → totK f (evK f ro nd n ks) + nd ≤ ro
  | 0, ks, h => by
    obtain rfl : ks = [] := List.length_eq_zero_iff.1 (by omega)
    show 0 + nd ≤ ro
    omega
  | n + 1, ks, h => by
    unfold evK
    split
    · rename_i hlt
      refine evK_room hr ?_
      have hne : ks ≠ [] := fun e => by
        rw [e] at hlt
        have : ro < 0 + nd := hlt
        omega
      have := rmv_lt (lonK_ok f hne).1
      omega
    · omega
theorem evX_tot {l : List Xh} {ro nd : Int} (hn : (l.map Xh.ke).Nodup) (hr : nd ≤ ro) : totH (evX l ro nd) + nd ≤ ro := by
  have hp1 : ((evX l ro nd).map Xh.ke).Perm (evK (hmOf l) ro nd l.length (l.map Xh.ke)) := by
    have e : (evX l ro nd).map Xh.ke = (l.map Xh.ke).filter fun k => onL k (evK (hmOf l) ro nd l.length (l.map Xh.ke)) := by
      unfold evX
      rw [List.filter_map]
      rfl
    rw [e]
    refine (List.perm_ext_iff_of_nodup (hn.filter _) (evK_nodup hn)).2 fun k => ?_
    rw [List.mem_filter, onL_iff]
    exact ⟨fun h => h.2, fun h => ⟨evK_sub h, h⟩⟩
  have e2 := totK_totH (l := l) (f := hmOf l) (evX l ro nd) fun x hx => by rw [hmOf_in hn (evX_sub hx)]
  have e3 := totK_perm (f := hmOf l) hp1
  have e4 := evK_room (f := hmOf l) (ro := ro) (nd := nd) hr (n := l.length) (ks := l.map Xh.ke) (by rw [List.length_map]; exact Nat.le_refl _)
  omega
theorem GInv.keep {i : Nat} {key : ByteArray} {a : Ans} {ma : Int} (h : GInv R E P L C pd X) (hx : XInv C P L pd X) (ha : AnsAt E P X.no key ma a) : GInv R E P L C pd (X.keepX C R P i key a) := by
  have hH : ∀ x, x ∈ X.H i → HldOk E P X x := fun x hm => by
    by_cases hi : i < X.he.length
    · exact h.hh i _ (Xd.H_at hi) x hm
    · have e : X.H i = [] := by unfold Xd.H; rw [List.getD_eq_getElem?_getD, List.getElem?_eq_none (by omega)]; rfl
      rw [e] at hm; cases hm
  have hok := (hx.held i).2
  unfold Xd.keepX
  split
  · exact h
  · rename_i hno
    split
    · by_cases hi : i < X.he.length
      · exact h.heS i _ (fun x hm => hH x (List.mem_filter.1 hm).1) (Int.le_trans (totH_filter _ _ fun x hm => (hok x hm).2) (h.hs i _ (Xd.H_at hi)))
      · have e : X.setH i (delH (X.H i) key) = X := by unfold Xd.setH; rw [List.set_eq_of_length_le (by omega)]
        rw [e]; exact h
    · rename_i hro
      refine h.heS i _ (fun x hm => ?_) ?_
      · rcases List.mem_append.1 hm with hm | hm
        · exact hH x (List.mem_filter.1 (evX_sub hm)).1
        · simp only [List.mem_singleton] at hm
          subst hm
          refine ⟨ha.so, ⟨ha.bo, Int.le_refl _⟩, fun q p hq hpq hpk => ?_⟩
          have h1 := purM_mem hpq hpk (h.tq q p hq hpq)
          have h2 : purM P key X.no ≤ a.bo := by
            unfold Xd.noKX at hno
            simp only [Bool.or_eq_true, not_or, decide_eq_true_eq] at hno
            omega
          exact Int.le_trans h1 h2
      · have h1 := evX_tot (l := delH (X.H i) key) (ro := (C.getD i default).ro) (nd := needA a) (delH_ok (hx.held i) key).1 (by omega)
        rw [totH_app]
        show totH _ + (needA a + 0) ≤ _
        omega
end
end Go.Proofs.YtehbmnkbmgnkfaaGreatDoor

/- The day as the document tells it: all answers are right, step for step. -/
namespace Go.Proofs.YtehbmnkbmgnkfaaGreatDoor
open Go.RowKit

/-- All purges up to now were made. -/
def PgD (P : List Pur) (X : Xd) : Prop := ∀ p, P[X.pg]? = some p → X.no < p.ti
section
variable {C : List Cch} {R : List Crl} {E : List Rel} {P : List Pur} {L : List Gt} {X : Xd} {pd : List Xw}
theorem GInv.ho {w : Xw} (h : GInv R E P L C (w :: pd) X) (ho : Int) : GInv R E P L C (⟨w.ge, w.ak, ho⟩ :: pd) X :=
  { h with
    ga := fun g hg hv => h.ga g hg fun v hv2 hn => by
      rcases List.mem_cons.1 hv2 with rfl | hv2
      · exact hv ⟨v.ge, v.ak, ho⟩ (List.mem_cons_self ..) hn
      · exact hv v (List.mem_cons_of_mem _ hv2) hn }
theorem GInv.at_ (h : GInv R E P L C pd X) (i : Nat) : ∀ x, x ∈ X.H i → HldOk E P X x := fun x hm => by
  by_cases hi : i < X.he.length
  · exact h.hh i _ (Xd.H_at hi) x hm
  · have e : X.H i = [] := by unfold Xd.H; rw [List.getD_eq_getElem?_getD, List.getElem?_eq_none (by omega)]; rfl
    rw [e] at hm; cases hm
/-- What is held was born after the last purge. -/
theorem GInv.young (h : GInv R E P L C pd X) (hx : XInv C P L pd X) (hv : Val C R E P L) (pg : PgD P X) {i : Nat} {x : Xh} (hm : x ∈ X.H i) : purM P x.ke X.no ≤ x.an.bo := by
  have h0 := ((hx.held i).2 x hm).2.bo.1
  refine purM_le (by omega) fun q p hp hk ht => (h.at_ i x hm).pu q p ?_ hp hk
  by_cases e : q < X.pg
  · exact e
  · exfalso
    have hql := (List.getElem?_eq_some_iff.1 hp).1
    have hpl : X.pg < P.length := by omega
    have h1 := pg _ (List.getElem?_eq_getElem hpl)
    have h2 := hv.ps X.pg q _ p (by omega) (List.getElem?_eq_getElem hpl) hp
    omega
theorem hmOf_mem {l : List Xh} (hn : (l.map Xh.ke).Nodup) {k : ByteArray} (h : onH l k = true) : ∃ x, x ∈ l ∧ x.ke = k ∧ hmOf l k = ⟨x.an, x.us⟩ := by
  obtain ⟨x, hx, rfl⟩ := onH_iff.1 h
  exact ⟨x, hx, rfl, hmOf_in hn hx⟩
theorem totH_use (l : List Xh) (k : ByteArray) (no : Int) : totH (useH l k no) = totH l := by
  induction l with
  | nil => rfl
  | cons a l ih =>
    show needA (if a.ke = k then { a with us := no } else a : Xh).an + totH (useH l k no) = _
    rw [ih, totH_cons]
    split <;> rfl
theorem NowOk.start {i : Nat} {key : ByteArray} {w : Xw} {a : Ans} (h : NowOk R E P L X w a) (hw : ∀ j, w.ak = some j → j < X.ak.length) : NowOk R E P L (X.startX C i key false []) w a := by
  obtain ⟨e1, e2⟩ := keyX_start (C := C) (L := L) (i := i) (key := key) (al := false) (ws := []) hw
  exact ⟨by rw [e1, e2]; exact h.an, h.bo, fun h1 h2 => by rw [e1, e2]; exact h.h1 h1 h2, fun h1 h2 => by rw [e1, e2]; exact h.h2 h1 h2⟩
/-- A request comes. -/
theorem GInv.come {i : Nat} {key : ByteArray} {ge : Nat} {ak : Option Nat} {ho : Int} (h : GInv R E P L C (⟨ge, ak, ho⟩ :: pd) X) (hx : XInv C P L (⟨ge, ak, ho⟩ :: pd) X) (hv : Val C R E P L) (pg : PgD P X) (hke : keyX L X ⟨ge, ak, ho⟩ = key) (hma : madeX L X ⟨ge, ak, ho⟩ ≤ X.no) (hget : ak = none → X.no = madeX L X ⟨ge, ak, ho⟩) : GInv R E P L C pd (X.comeX C R P i key ge ak) := by
  have hbk : ∀ w, w ∈ (⟨ge, ak, ho⟩ :: pd) ++ waitsX X → ∀ a, w.ak = some a → a < X.ak.length := fun w hw a ha => (hx.wk w hw a ha).1
  have hb1 : ∀ j, ak = some j → j < X.ak.length := fun j hj => hbk _ (List.mem_cons_self ..) j hj
  have hb2 : ∀ (o : Int) (w : Xw), w ∈ ([⟨ge, ak, o⟩] ++ pd) ++ waitsX X → ∀ a, w.ak = some a → a < X.ak.length := fun o w hw a ha => by
    rcases List.mem_append.1 hw with hw | hw
    · rcases List.mem_append.1 hw with hw | hw
      · simp only [List.mem_singleton] at hw
        subst hw; exact hb1 a ha
      · exact hbk w (List.mem_append_left _ (List.mem_cons_of_mem _ hw)) a ha
    · exact hbk w (List.mem_append_right _ hw) a ha
  have hg1 : ak = none → ge < X.nx ∧ X.nx ≤ X.go.length := fun ha => ⟨hx.wg _ (List.mem_cons_self ..) ha, by have := hx.le; omega⟩
  have hWt : ∀ (o m : Int), o ≠ 1 → o ≠ 2 → purM P key X.no ≤ purM P key m → WtOk P L X key m ⟨ge, ak, o⟩ := fun o m o1 o2 hm => ⟨hke, Int.le_trans (purM_mono hma) hm, fun _ => ⟨o1, o2⟩⟩
  have new : ∀ (al : Bool), GInv R E P L C pd ((X.setL i ldCa).startX C i key al [⟨ge, ak, 3⟩]) := fun al =>
    GInv.start (ws := [⟨ge, ak, 3⟩]) ((h.ld i ldCa).ho 3) (hb2 3) (fun w hw => by
      simp only [List.mem_singleton] at hw
      subst hw
      have g := hWt 3 X.no (by decide) (by decide) (Int.le_refl _)
      exact ⟨g.ke, g.pu, g.ho⟩)
  unfold Xd.comeX
  split
  · exact new true
  · split
    · rename_i hu
      obtain ⟨x, hxm, hxk, hxe⟩ := hmOf_mem (hx.held i).1 hu.1
      rw [hxe] at hu ⊢
      dsimp only at hu ⊢
      have hxo := h.at_ i x hxm
      have hyo := h.young hx hv pg hxm
      have hao := ((hx.held i).2 x hxm).2
      rw [hxk] at hyo
      have hso : SameO E key x.an := by rw [← hxk]; exact hxo.so
      have hbo : x.an.bo ≤ X.no := Int.le_trans hxo.us.1 hxo.us.2
      have hAn : AnsAt E P X.no (keyX L X ⟨ge, ak, ho⟩) (madeX L X ⟨ge, ak, ho⟩) { x.an with fr := (C.getD i default).na } := by
        rw [hke]
        exact ⟨hbo, Int.le_trans (purM_mono hma) hyo, hso⟩
      have hU : ∀ (f : Ldd → Ldd) (o : Int), GInv R E P L C (⟨ge, ak, o⟩ :: pd) (((X.setL i ldCa).setL i f).setH i (useH (X.H i) key X.no)) := fun f o => by
        by_cases hi : i < X.he.length
        · refine GInv.heS (((h.ld i ldCa).ld i f).ho (w := ⟨ge, ak, ho⟩) o) i _ (fun y hy => ?_) ?_
          · obtain ⟨y0, g1, g2, g3, g4⟩ := useH_mem hy
            have g := h.at_ i y0 g1
            refine ⟨by rw [g2, g3]; exact g.so, ?_, fun q p hq hp hk => by rw [g3]; exact g.pu q p hq hp (by rw [hk, g2])⟩
            rw [g3, g4]
            split
            · exact ⟨Int.le_trans g.us.1 g.us.2, Int.le_refl _⟩
            · exact g.us
          · rw [totH_use]; exact h.hs i _ (Xd.H_at hi)
        · have e : ((X.setL i ldCa).setL i f).setH i (useH (X.H i) key X.no) = (X.setL i ldCa).setL i f := by
            unfold Xd.setH
            rw [List.set_eq_of_length_le (by show X.he.length ≤ i; omega)]
          rw [e]
          exact ((h.ld i ldCa).ld i f).ho (w := ⟨ge, ak, ho⟩) o
      split
      · rename_i hf
        refine GInv.give (w := ⟨ge, ak, 1⟩) (hU ldFr 1) hb1 hg1 ⟨hAn, hao.bo.1, fun ha _ => ⟨hget ha, ?_⟩, fun _ e => absurd e (show ¬ (1 : Int) = 2 by decide)⟩
        show X.no < untM (rulO R (keyX L X ⟨ge, ak, ho⟩)) x.an false
        rw [hke]; exact hf
      · rename_i hf
        have hN : ∀ (f : Ldd → Ldd), NowOk R E P L (((X.setL i ldCa).setL i f).setH i (useH (X.H i) key X.no)) ⟨ge, ak, 2⟩ { x.an with fr := (C.getD i default).na } := fun f =>
          ⟨hAn, hao.bo.1, fun _ e => absurd e (show ¬ (2 : Int) = 1 by decide), fun ha _ => ⟨hget ha, by
            show untM (rulO R (keyX L X ⟨ge, ak, ho⟩)) x.an false ≤ X.no ∧ X.no < untM (rulO R (keyX L X ⟨ge, ak, ho⟩)) x.an true
            rw [hke]
            exact ⟨by omega, hu.2⟩⟩⟩
        split
        · exact GInv.give (w := ⟨ge, ak, 2⟩) (hU ldSl 2) hb1 hg1 (hN ldSl)
        · have hs := GInv.start (ws := []) (i := i) (key := key) (al := false) (pd := ⟨ge, ak, 2⟩ :: pd) (hU ldSl 2) (hb2 2) (fun w hw2 => by cases hw2)
          refine GInv.give (w := ⟨ge, ak, 2⟩) hs (fun j hj => ?_) hg1 ((hN ldSl).start hb1)
          have := hb1 j hj
          show j < (X.ak ++ [_]).length
          simp; omega
    · split
      · rename_i j hj
        obtain ⟨g1, g2, g3, g4, g5, g6⟩ := wayX_some hj
        refine GInv.join (w := ⟨ge, ak, 4⟩) (((h.ld i ldCa).ld i ldWt).ho (w := ⟨ge, ak, ho⟩) 4) g1 g3 ?_
        have g := hWt 4 (X.K j).ma (by decide) (by decide) (purM_same g6)
        refine ⟨?_, ?_, g.ho⟩
        · show keyX L X ⟨ge, ak, 4⟩ = (X.K j).ke
          rw [g4]; exact g.ke
        · show purM P (X.K j).ke (madeX L X ⟨ge, ak, 4⟩) ≤ purM P (X.K j).ke (X.K j).ma
          rw [g4]; exact g.pu
      · exact new false
theorem NowOk.give {w v : Xw} {a b : Ans} (h : NowOk R E P L X v b) (hj : ∀ j, w.ak = some j → j < X.ak.length) : NowOk R E P L (X.giveX C w a) v b := by
  unfold Xd.giveX
  cases hw : w.ak with
  | none => exact ⟨h.an, h.bo, h.h1, h.h2⟩
  | some j =>
    obtain ⟨e1, e2⟩ := keyX_setA (L := L) (w := v) (k' := { X.K j with kn := true, go := a, bk := X.no + deO C (X.K j).ca }) (hj j hw) rfl rfl
    dsimp only
    exact ⟨by rw [e1, e2]; exact h.an, h.bo, fun h1 h2 => by rw [e1, e2]; exact h.h1 h1 h2, fun h1 h2 => by rw [e1, e2]; exact h.h2 h1 h2⟩
theorem GInv.gives {a : Ans} (hV : ∀ (i : Nat) (x : Cch), C[i]? = some x → 1 ≤ x.de ∧ x.de ≤ 100000) (ha : AnsOk a) : ∀ (ws : List Xw) (X : Xd), GInv R E P L C (ws ++ pd) X → XInv C P L (ws ++ pd) X → (∀ w, w ∈ ws → NowOk R E P L X w a) → (∀ w, w ∈ ws → ∀ j, w.ak = some j → X.no ≤ 1000000000000 + 100000 * (30 + ((X.K j).ca : Int))) → GInv R E P L C pd (X.givesX C ws a)
  | [], X, h, _, _, _ => h
  | w :: ws, X, h, hx, hn, ht => by
    have hj := fun b hb => (hx.wk w (List.mem_cons_self ..) b hb).1
    have h1 := GInv.give (w := w) (a := a) h hj (fun e => ⟨hx.wg w (List.mem_cons_self ..) e, by have := hx.le; omega⟩) (hn w (List.mem_cons_self ..))
    have x1 := XInv.give (w := w) (a := a) hx hV ha (ht w (List.mem_cons_self ..))
    refine GInv.gives hV ha ws _ h1 x1 (fun v hv => (hn v (List.mem_cons_of_mem _ hv)).give hj) fun v hv j hvj => ?_
    rw [giveX_no, giveX_ca hj]
    exact ht v (List.mem_cons_of_mem _ hv) j hvj
/-- An answer comes back. -/
theorem GInv.back {j : Nat} (h : GInv R E P L C pd X) (hx : XInv C P L pd X) (hV : ∀ (i : Nat) (x : Cch), C[i]? = some x → 1 ≤ x.de ∧ x.de ≤ 100000) (hj : j < X.ak.length) (hkn : (X.K j).kn = true) (hd : (X.K j).dn = false) : GInv R E P L C pd (X.backX C R P j) := by
  have hk := Xd.at_ hj
  have ha := hx.an j _ hk hkn
  have h1 := h.done hj hd
  have x1 := hx.done hj hkn hd
  have hA := h.kw j _ hk hkn
  have hb : ∀ w, w ∈ (X.K j).ws → ∀ a, w.ak = some a → (X.doneX j).no ≤ 1000000000000 + 100000 * (30 + (((X.doneX j).K a).ca : Int)) := fun w hw a haw => by
    have e : ((X.doneX j).K a).ca = (X.K a).ca := setA_ca (k' := { X.K j with dn := true }) hj rfl
    rw [e]
    have g1 := hx.wp j _ hk hd w hw a haw
    obtain ⟨g2, g3⟩ := (hx.tm j _ hk).2.2 hkn hd
    show X.no ≤ _
    omega
  have hN : ∀ w, w ∈ (X.K j).ws → NowOk R E P L (X.doneX j) w (X.K j).go := fun w hw => by
    have g := h.kj j _ hk hd w hw
    obtain ⟨e1, e2⟩ := keyX_setA (L := L) (w := w) (k' := { X.K j with dn := true }) hj rfl rfl
    have e1 : keyX L (X.doneX j) w = (X.K j).ke := e1.trans g.ke
    have e2 : madeX L (X.doneX j) w = madeX L X w := e2
    refine ⟨?_, ha.bo.1, fun hw1 hw2 => absurd hw2 (g.ho hw1).1, fun hw1 hw2 => absurd hw2 (g.ho hw1).2⟩
    rw [e1, e2]
    exact ⟨hA.bo, Int.le_trans g.pu hA.pu, hA.so⟩
  have h2 := GInv.gives (pd := pd) hV ha (X.K j).ws (X.doneX j) h1 x1 hN hb
  have x2 := XInv.gives (pd := pd) hV ha (X.K j).ws (X.doneX j) x1 hb
  have hno : ((X.doneX j).givesX C (X.K j).ws (X.K j).go).no = X.no := by
    have : ∀ (ws : List Xw) (Y : Xd), (Y.givesX C ws (X.K j).go).no = Y.no := by
      intro ws
      induction ws with
      | nil => intro Y; rfl
      | cons w ws ih => intro Y; exact (ih _).trans giveX_no
    exact this _ _
  unfold Xd.backX
  split
  · exact h2.keep x2 (ma := (X.K j).ma) (by rw [hno]; exact hA)
  · exact h2
/-- A request comes to the next one. -/
theorem GInv.arr {j : Nat} (h : GInv R E P L C pd X) (hx : XInv C P L pd X) (hv : Val C R E P L) (pg : PgD P X) (hj : j < X.ak.length) (hcm : (X.K j).cm = false) : GInv R E P L C pd (X.arrX C R E P j) := by
  have hk := Xd.at_ hj
  have h1 := h.came hj 0
  have x1 := hx.came hj hcm 0
  obtain ⟨e1, e2⟩ := keyX_setA (L := L) (w := ⟨0, some j, 0⟩) (k' := { X.K j with cm := true }) hj rfl rfl
  have e1 : keyX L (X.cameX j) ⟨0, some j, 0⟩ = (X.K j).ke := e1
  have e2 : madeX L (X.cameX j) ⟨0, some j, 0⟩ = (X.K j).ma := e2
  have hma := (hx.tm j _ hk).1
  unfold Xd.arrX
  split
  · exact GInv.come (ho := 0) h1 x1 hv pg e1 (by rw [e2]; exact hma.2) (fun e => by cases e)
  · refine GInv.give (w := ⟨0, some j, 0⟩) h1 (fun a ha => (x1.wk _ (List.mem_cons_self ..) a ha).1) (fun e => by cases e) ⟨?_, ?_, (fun e => by cases e), (fun e => by cases e)⟩
    · rw [e1, e2]
      refine ⟨by rw [oriM_bo]; exact Int.le_refl _, ?_, oriM_so _ _ _⟩
      rw [oriM_bo]
      exact Int.le_trans (purM_time (by omega)) hma.2
    · rw [oriM_bo]; exact hx.no.1
def ModP (P : List Pur) (m : Mod) (X : Xd) : Prop := match m with
  | .out => True
  | .pur => True
  | _ => PgD P X
theorem keepX_no {i : Nat} {key : ByteArray} {a : Ans} : (X.keepX C R P i key a).no = X.no ∧ (X.keepX C R P i key a).pg = X.pg := by
  unfold Xd.keepX
  split
  · exact ⟨rfl, rfl⟩
  · split <;> exact ⟨rfl, rfl⟩
theorem XInv.now_le (h : XInv C P L pd X) {t : Int} (ht : minT (X.times P L) = some t) : X.no ≤ t := by
  rcases times_mem.1 (minT_spec ht).1 with ⟨x, hx, rfl⟩ | ⟨x, hx, rfl⟩ | ⟨j, k, hk, hh⟩
  · exact h.gn x hx
  · exact h.pn x hx
  · have g := h.tm j k hk
    rcases hh with ⟨h1, rfl⟩ | ⟨h1, h2, rfl⟩
    · exact (g.2.1 h1).1
    · exact (g.2.2 h1 h2).1
theorem GInv.next {lim : Int} {m m' : Mod} {X' : Xd} (h : GInv R E P L C [] X) (hx : XInv C P L [] X) (hv : Val C R E P L) (hp : ModP P m X) (hn : X.next C R E P L lim m = some (m', X')) : GInv R E P L C [] X' ∧ ModP P m' X' := by
  have hV : ∀ (i : Nat) (x : Cch), C[i]? = some x → 1 ≤ x.de ∧ x.de ≤ 100000 := fun i x hx => (hv.cd i x hx).1
  unfold Xd.next at hn
  cases m with
  | out =>
    dsimp only at hn
    split at hn
    · cases hn
    · rename_i t ht
      split at hn
      · cases hn
      · cases hn; exact ⟨h.now (hx.now_le ht), trivial⟩
  | pur =>
    dsimp only at hn
    split at hn
    · rename_i hd
      cases hn
      exact ⟨h.pur hx hd.1 hd.2, trivial⟩
    · rename_i hd
      cases hn
      refine ⟨h, fun p hpp => ?_⟩
      have hl := (List.getElem?_eq_some_iff.1 hpp).1
      have h1 := hx.pn p hpp
      have h2 : ¬ (P.getD X.pg default).ti = X.no := fun e => hd ⟨hl, e⟩
      rw [getD_at hpp] at h2
      omega
  | bak =>
    dsimp only at hn
    split at hn
    · rename_i j hj
      cases hn
      obtain ⟨⟨g1, g2, g3, g4⟩, _⟩ := nextB_some hj
      obtain ⟨l1, l2, l3, _⟩ := back_left (R := R) hx hV g1 g2 g3
      refine ⟨h.back hx hV g1 g2 g3, fun p hpp => ?_⟩
      rw [l2] at hpp
      rw [l3]
      exact hp p hpp
    · cases hn; exact ⟨h, hp⟩
  | get =>
    dsimp only at hn
    split at hn
    · rename_i hd
      cases hn
      have hxg : L[X.nx]? = some (L.getD X.nx default) := by rw [List.getD_eq_getElem?_getD, List.getElem?_eq_getElem hd.1]; rfl
      obtain ⟨g1, g2, i, g3, g4⟩ := hv.lt _ (List.mem_of_getElem? hxg)
      have hg := hx.get hd.1 (fun x hx2 => by rw [← hd.2]; exact hv.ls X.nx (X.nx + 1) _ x (Nat.le_succ _) hxg hx2) 0
      have hlf := Lf.come (C := C) (R := R) (P := P) (X := { X with nx := X.nx + 1 }) (i := (cNum C (L.getD X.nx default).ca).toNat) (key := (L.getD X.nx default).ke) (ge := X.nx) (ak := none) hV (fun j h => by cases h)
      have hpg : PgD P { X with nx := X.nx + 1 } := hp
      refine ⟨GInv.come (ho := 0) (h.get hd.2 0) hg hv hpg rfl (by show (L.getD X.nx default).ti ≤ X.no; rw [hd.2]; exact Int.le_refl _) (fun _ => by show X.no = (L.getD X.nx default).ti; rw [hd.2]), fun p hpp => ?_⟩
      rw [hlf.pg] at hpp
      rw [hlf.no]
      exact hp p hpp
    · cases hn; exact ⟨h, hp⟩
  | arr =>
    dsimp only at hn
    split at hn
    · rename_i j hj
      cases hn
      obtain ⟨⟨g1, g2, g3⟩, _⟩ := nextA_some hj
      obtain ⟨l1, l2, l3, _⟩ := arr_left hx hv g1 g2
      refine ⟨h.arr hx hv hp g1 g2, fun p hpp => ?_⟩
      rw [l2] at hpp
      rw [l3]
      exact hp p hpp
    · cases hn; exact ⟨h, trivial⟩
theorem xd0_ginv (hv : Val C R E P L) : GInv R E P L C [] (xd0 C L.length) :=
  { gb := fun g x hx => by
      have hx' : (List.replicate L.length (default : Gtn))[g]? = some x := hx
      rw [List.getElem?_replicate] at hx'
      split at hx'
      · cases hx'
        exact ⟨Int.le_refl _, Int.le_refl _, Int.le_refl _⟩
      · cases hx'
    kw := fun j k h => by cases h
    kj := fun j k h => by cases h
    ga := fun g hg => absurd hg (Nat.not_lt_zero _)
    gt := fun g hg => absurd hg (Nat.not_lt_zero _)
    hh := fun i l hl x hx => by
      have := ((xd0_inv hv).he i l hl)
      have hl' : (C.map fun _ => ([] : List Xh))[i]? = some l := hl
      rw [List.getElem?_map] at hl'
      cases hc : C[i]? with
      | none => rw [hc] at hl'; cases hl'
      | some c => rw [hc] at hl'; cases hl'; cases hx
    hs := fun i l hl => by
      have hl' : (C.map fun _ => ([] : List Xh))[i]? = some l := hl
      rw [List.getElem?_map] at hl'
      cases hc : C[i]? with
      | none => rw [hc] at hl'; cases hl'
      | some c =>
        rw [hc] at hl'; cases hl'
        rw [getD_at hc]
        exact (hv.cd i c hc).2.1
    tq := fun q p hq => absurd hq (Nat.not_lt_zero _) }
theorem XReach.ginv {lim : Int} {m m' : Mod} {X X' : Xd} (h : XReach C R E P L lim m X m' X') (hv : Val C R E P L) (hx : XInv C P L [] X) (hg : GInv R E P L C [] X) (hp : ModP P m X) : XInv C P L [] X' ∧ GInv R E P L C [] X' ∧ ModP P m' X' := by
  induction h with
  | refl => exact ⟨hx, hg, hp⟩
  | step _ hn ih =>
    obtain ⟨h1, h2, h3⟩ := ih hx hg hp
    obtain ⟨h4, h5⟩ := h2.next h1 hv h3 hn
    exact ⟨h1.next hv hn, h4, h5⟩
theorem EndX.ginv {lim : Int} (h : EndX C R E P L lim X) (hv : Val C R E P L) : GInv R E P L C [] X := (h.rch.ginv hv (xd0_inv hv) (xd0_ginv hv) trivial).2.1
end
end Go.Proofs.YtehbmnkbmgnkfaaGreatDoor

/- The machine of the program and that of the document go step for step: the joint. -/
import Derived.Test.YtehbmnkbmgnkfaaGreatDoorB19
import Derived.Test.YtehbmnkbmgnkfaaGreatDoorB16
namespace Go.Proofs.YtehbmnkbmgnkfaaGreatDoor
open Go.RowKit

section
variable {C : List Cch} {R : List Crl} {E : List Rel} {P : List Pur} {L : List Gt} {lim : Int} {X : Xd} {D : Day}
theorem Sim.hd_at (h : Sim C [] D X) (hq : 0 < D.qu.length) : (hdE D).ak < X.ak.length := by
  obtain ⟨k, hk, _⟩ := (h.ev _).1 (hdE_mem hq)
  exact (List.getElem?_eq_some_iff.1 hk).1
theorem Sim.hd_bk (h : Sim C [] D X) (hq : 0 < D.qu.length) (hb : (hdE D).bk = true) : (X.K (hdE D).ak).kn = true ∧ (X.K (hdE D).ak).dn = false ∧ (hdE D).ti = (X.K (hdE D).ak).bk ∧ (hdE D).an = (X.K (hdE D).ak).go := by
  obtain ⟨k, hk, hh⟩ := (h.ev _).1 (hdE_mem hq)
  rw [Xd.K_eq hk]
  rcases hh with ⟨g1, _⟩ | ⟨_, g2, g3, g4, g5⟩
  · rw [hb] at g1; cases g1
  · exact ⟨g2, g3, g4, g5⟩
theorem Sim.hd_ar (h : Sim C [] D X) (hq : 0 < D.qu.length) (hb : (hdE D).bk = false) : (X.K (hdE D).ak).cm = false ∧ (hdE D).ti = (X.K (hdE D).ak).ar := by
  obtain ⟨k, hk, hh⟩ := (h.ev _).1 (hdE_mem hq)
  rw [Xd.K_eq hk]
  rcases hh with ⟨_, g2, g3, _⟩ | ⟨g1, _⟩
  · exact ⟨g2, g3⟩
  · rw [hb] at g1; cases g1
/-- An answer comes back. -/
theorem Sim.back (h : Sim C [] D X) (hx : XInv C P L [] X) (hV : ∀ (i : Nat) (x : Cch), C[i]? = some x → 1 ≤ x.de ∧ x.de ≤ 100000) (hq : 0 < D.qu.length) (hb : (hdE D).bk = true) :
    Sim C [] (D.popD.backD R P (hdE D).ak (hdE D).an) (X.backX C R P (hdE D).ak) := by
  have hj := h.hd_at hq
  obtain ⟨hkn, hd, hti, _⟩ := h.hd_bk hq hb
  obtain ⟨h1, han⟩ := h.done hx hq hb
  have hk := Xd.at_ hj
  have ha := hx.an _ _ hk hkn
  have x1 := hx.done hj hkn hd
  have hwa := h.wa _ hj
  have hKe := h.K hj
  rw [han] at h1 ⊢
  have hbo : ∀ w, w ∈ (X.K (hdE D).ak).ws → ∀ a, w.ak = some a → (X.doneX (hdE D).ak).no ≤ 1000000000000 + 100000 * (30 + (((X.doneX (hdE D).ak).K a).ca : Int)) := fun w hw a haw => by
    have e : ((X.doneX (hdE D).ak).K a).ca = (X.K a).ca := setA_ca (k' := { X.K (hdE D).ak with dn := true }) hj rfl
    rw [e]
    have g1 := hx.wp (hdE D).ak _ hk hd w hw a haw
    obtain ⟨g2, g3⟩ := (hx.tm (hdE D).ak _ hk).2.2 hkn hd
    show X.no ≤ _
    omega
  have h2 := Sim.gives hV ha (X.K (hdE D).ak).ws _ _ h1 x1 hbo
  have x2 := XInv.gives (pd := []) hV ha (X.K (hdE D).ak).ws (X.doneX (hdE D).ak) x1 hbo
  unfold Day.backD Xd.backX
  dsimp only
  rw [show D.popD.K (hdE D).ak = D.K (hdE D).ak from rfl, show D.popD.wa (hdE D).ak = D.wa (hdE D).ak from rfl, show D.popD.S (D.K (hdE D).ak).ca = D.S (D.K (hdE D).ak).ca from rfl, hwa]
  have hkp : (D.K (hdE D).ak).kp = !(X.K (hdE D).ak).al := by rw [hKe]
  have hca : (D.K (hdE D).ak).ca = (X.K (hdE D).ak).ca := by rw [hKe]
  have hke : (D.K (hdE D).ak).ke = (X.K (hdE D).ak).ke := by rw [hKe]
  rw [hkp]
  cases hal : (X.K (hdE D).ak).al
  · rw [if_pos (show (!false) = true from rfl), if_pos rfl]
    have hl : (X.K (hdE D).ak).ca < C.length := (hx.kk (hdE D).ak _ hk).1
    rw [hca] at h2
    rw [hke, hca]
    refine h2.keep x2 (Day.at_ ?_) _ _
    rw [h2.len]; exact hl
  · rw [if_neg (by simp), if_neg (by simp)]
    exact h2
/-- A request comes to the next one. -/
theorem Sim.arr (h : Sim C [] D X) (hx : XInv C P L [] X) (hv : Val C R E P L) (hq : 0 < D.qu.length) (hb : (hdE D).bk = false) :
    Sim C [] (D.popD.arrD R E P (hdE D).ak) (X.arrX C R E P (hdE D).ak) := by
  have hj := h.hd_at hq
  obtain ⟨hcm, hti⟩ := h.hd_ar hq hb
  have h1 := h.camed hx hq hb
  have hk := Xd.at_ hj
  have x1 := hx.came hj hcm 0
  have hKe := h.K hj
  have hkk := hx.kk _ _ hk
  have hpa : (D.popD.S (D.popD.K (hdE D).ak).ca).pa = parO C (X.K (hdE D).ak).ca := by
    rw [show D.popD.K (hdE D).ak = D.K (hdE D).ak from rfl, show D.popD.S (D.K (hdE D).ak).ca = D.S (D.K (hdE D).ak).ca from rfl, hKe]
    exact (h.at_ hkk.1).2.pa
  have hke : (D.popD.K (hdE D).ak).ke = (X.K (hdE D).ak).ke := by rw [show D.popD.K (hdE D).ak = D.K (hdE D).ak from rfl, hKe]
  have hpar : parO C (X.K (hdE D).ak).ca < ((X.K (hdE D).ak).ca : Int) := (hv.cp (X.K (hdE D).ak).ca (C.getD (X.K (hdE D).ak).ca default) (by rw [List.getD_eq_getElem?_getD, List.getElem?_eq_getElem hkk.1]; rfl)).1
  unfold Day.arrD Xd.arrX
  rw [hpa, hke]
  split
  · exact h1.come (ho := 0) x1 (by omega) hv.rb
  · have h2 : Sim C [⟨0, some (hdE D).ak, 0⟩] D.popD (X.cameX (hdE D).ak) := Sim.how (w := ⟨0, some (hdE D).ak, 0⟩) h1 (fun ha => by cases ha)
    have h3 := Sim.give (a := oriM E (X.K (hdE D).ak).ke D.no) h2 x1
    have e : D.no = X.no := h.no
    show Sim C [] (D.popD.giveD ⟨0, some (hdE D).ak⟩ (oriM E (X.K (hdE D).ak).ke D.no)) _
    rw [e] at h3 ⊢
    exact h3
/-- When something happens next. -/
theorem Sim.nxt (h : Sim C [] D X) : nxtD D L P X.nx X.pg lim ≤ lim + 1 ∧ (∀ t, t ∈ X.times P L → nxtD D L P X.nx X.pg lim ≤ t) ∧ (nxtD D L P X.nx X.pg lim = lim + 1 ∨ nxtD D L P X.nx X.pg lim ∈ X.times P L) := by
  have q1 : ∀ (j : Nat) (k : Xk) (t : Int), X.ak[j]? = some k → (k.cm = false ∧ t = k.ar) ∨ (k.kn = true ∧ k.dn = false ∧ t = k.bk) → 0 < D.qu.length ∧ (hdE D).ti ≤ t := fun j k t hk hh => by
    have : ∃ e : Evn, e ∈ D.qu ∧ e.ti = t := by
      rcases hh with ⟨g1, g2⟩ | ⟨g1, g2, g3⟩
      · exact ⟨⟨t, false, j, ⟨0, 0, 0, false, ⟨#[]⟩⟩⟩, (h.ev _).2 ⟨k, hk, .inl ⟨rfl, g1, g2, rfl⟩⟩, rfl⟩
      · exact ⟨⟨t, true, j, k.go⟩, (h.ev _).2 ⟨k, hk, .inr ⟨rfl, g1, g2, g3, rfl⟩⟩, rfl⟩
    obtain ⟨e, he, rfl⟩ := this
    have hq : 0 < D.qu.length := List.length_pos_iff.2 (List.ne_nil_of_mem he)
    have hl : bfr D.K e (hdE D) = false := heap_least (bfr_ord D.K) h.hp he
    refine ⟨hq, ?_⟩
    unfold bfr at hl
    split at hl
    · simpa using hl
    · omega
  have q2 : 0 < D.qu.length → (hdE D).ti ∈ X.times P L := fun hq => by
    rw [times_mem]
    obtain ⟨k, hk, hh⟩ := (h.ev _).1 (hdE_mem hq)
    refine .inr (.inr ⟨_, k, hk, ?_⟩)
    rcases hh with ⟨_, g2, g3, _⟩ | ⟨_, g2, g3, g4, _⟩
    · exact .inl ⟨g2, g3⟩
    · exact .inr ⟨g2, g3, g4⟩
  have q3 : X.nx < L.length → (L.getD X.nx default).ti ∈ X.times P L := fun hl => by
    rw [times_mem]
    exact .inl ⟨_, by rw [List.getD_eq_getElem?_getD, List.getElem?_eq_getElem hl]; rfl, rfl⟩
  have q4 : X.pg < P.length → (P.getD X.pg default).ti ∈ X.times P L := fun hl => by
    rw [times_mem]
    exact .inr (.inl ⟨_, by rw [List.getD_eq_getElem?_getD, List.getElem?_eq_getElem hl]; rfl, rfl⟩)
  have e1 : nxt1 D lim ≤ lim + 1 ∧ (0 < D.qu.length → nxt1 D lim ≤ (hdE D).ti) ∧ (nxt1 D lim = lim + 1 ∨ (0 < D.qu.length ∧ nxt1 D lim = (hdE D).ti)) := by
    unfold nxt1; split <;> omega
  have e2 : nxt2 D L X.nx lim ≤ nxt1 D lim ∧ (X.nx < L.length → nxt2 D L X.nx lim ≤ (L.getD X.nx default).ti) ∧ (nxt2 D L X.nx lim = nxt1 D lim ∨ (X.nx < L.length ∧ nxt2 D L X.nx lim = (L.getD X.nx default).ti)) := by
    unfold nxt2; split <;> omega
  have e3 : nxtD D L P X.nx X.pg lim ≤ nxt2 D L X.nx lim ∧ (X.pg < P.length → nxtD D L P X.nx X.pg lim ≤ (P.getD X.pg default).ti) ∧ (nxtD D L P X.nx X.pg lim = nxt2 D L X.nx lim ∨ (X.pg < P.length ∧ nxtD D L P X.nx X.pg lim = (P.getD X.pg default).ti)) := by
    unfold nxtD; split <;> omega
  refine ⟨by omega, fun t ht => ?_, ?_⟩
  · rcases times_mem.1 ht with ⟨x, hx, rfl⟩ | ⟨x, hx, rfl⟩ | ⟨j, k, hk, hh⟩
    · have hl := (List.getElem?_eq_some_iff.1 hx).1
      have := e2.2.1 hl
      rw [List.getD_eq_getElem?_getD, hx] at this
      have this : _ ≤ x.ti := this
      omega
    · have hl := (List.getElem?_eq_some_iff.1 hx).1
      have := e3.2.1 hl
      rw [List.getD_eq_getElem?_getD, hx] at this
      have this : _ ≤ x.ti := this
      omega
    · obtain ⟨hq, hl⟩ := q1 j k t hk hh
      have := e1.2.1 hq
      omega
  · rcases e3.2.2 with e | ⟨hl, e⟩
    · rw [e]
      rcases e2.2.2 with e | ⟨hl, e⟩
      · rw [e]
        rcases e1.2.2 with e | ⟨hl, e⟩
        · exact .inl e
        · rw [e]; exact .inr (q2 hl)
      · rw [e]; exact .inr (q3 hl)
    · rw [e]; exact .inr (q4 hl)
theorem Sim.out (h : Sim C [] D X) : (¬ lim < nxtD D L P X.nx X.pg lim → minT (X.times P L) = some (nxtD D L P X.nx X.pg lim)) ∧ (lim < nxtD D L P X.nx X.pg lim → ∀ t, minT (X.times P L) = some t → lim < t) := by
  obtain ⟨h1, h2, h3⟩ := h.nxt (P := P) (L := L) (lim := lim)
  refine ⟨fun hl => ?_, fun hl t ht => ?_⟩
  · have hm := h3.resolve_left (by omega)
    cases hmt : minT (X.times P L) with
    | none => rw [minT_none hmt] at hm; exact absurd hm (by simp)
    | some t =>
      obtain ⟨g1, g2⟩ := minT_spec hmt
      have := h2 t g1
      have := g2 _ hm
      congr 1
      omega
  · obtain ⟨g1, _⟩ := minT_spec ht
    have := h2 t g1
    omega
/-- What holds of both machines together. -/
structure Both (C : List Cch) (R : List Crl) (E : List Rel) (P : List Pur) (L : List Gt) (lim : Int) (X0 : Xd) (c : Cfg) (X : Xd) : Prop where
  sim : Sim C [] c.D X
  inv : XInv C P L [] X
  g : c.g = X.nx
  p : c.p = X.pg
  rch : XReach C R E P L lim .out X0 c.m X
  mode : c.m = .get ∨ c.m = .arr → NoB X
  fit : ∃ n, Fit n c.D ∧ n + (waitsX X).length + 5 * muX C P L X ≤ 310000
theorem Both.next {X0 : Xd} {c c' : Cfg} (h : Both C R E P L lim X0 c X) (hv : Val C R E P L) (hn : c.next C R E P L lim = some c') :
    ∃ X', Both C R E P L lim X0 c' X' ∧ muX C P L X' ≤ muX C P L X ∧ (c'.m = c.m → muX C P L X' < muX C P L X) := by
  obtain ⟨m, D, g, p⟩ := c
  obtain ⟨hs, hx, hg, hp, hr, hm, n, hf, hfn⟩ := h
  dsimp only at hs hg hp hr hm hf
  subst hg hp
  have hV : ∀ (i : Nat) (x : Cch), C[i]? = some x → 1 ≤ x.de ∧ x.de ≤ 100000 := fun i x hx => (hv.cd i x hx).1
  -- the step of the document, then all
  have step : ∀ X', X.next C R E P L lim m = some (c'.m, X') → Sim C [] c'.D X' → c'.g = X'.nx → c'.p = X'.pg → (c'.m = .get ∨ c'.m = .arr → NoB X') → (∃ n', Fit n' c'.D ∧ n' + (waitsX X').length + 5 * muX C P L X' ≤ n + (waitsX X).length + 5 * muX C P L X) → Both C R E P L lim X0 c' X' := fun X' h1 h2 h3 h4 h5 ⟨n', h6, h7⟩ =>
    ⟨h2, hx.next hv h1, h3, h4, .step hr h1, h5, n', h6, by omega⟩
  cases m with
  | out =>
    unfold Cfg.next at hn
    dsimp only at hn
    split at hn
    · cases hn
    · rename_i hl
      cases hn
      have ht := (hs.out (P := P) (L := L) (lim := lim)).1 hl
      have hnx : X.next C R E P L lim .out = some (.pur, { X with no := nxtD D L P X.nx X.pg lim }) := by
        unfold Xd.next
        dsimp only
        rw [ht]
        dsimp only
        rw [if_neg hl]
      refine ⟨_, step _ hnx (hs.now _) rfl rfl (fun h => by rcases h with h | h <;> cases h) ⟨n, ?_, Nat.le_refl _⟩, Nat.le_refl _, fun h => by cases h⟩
      have hno := (hx.next hv hnx).no
      exact { hf with num := ⟨hf.num.qu, hf.num.ar, hf.num.wa⟩, no := ⟨hno.1, by have := hno.2; show nxtD D L P X.nx X.pg lim ≤ _; have this : nxtD D L P X.nx X.pg lim ≤ 1000006100000 := this; omega⟩ }
  | pur =>
    unfold Cfg.next at hn
    dsimp only at hn
    have hno : D.no = X.no := hs.no
    split at hn
    · rename_i hd
      have hd : X.pg < P.length ∧ (P.getD X.pg default).ti = D.no := hd
      cases hn
      rw [hno] at hd
      have hnx : X.next C R E P L lim .pur = some (.pur, X.purX (P.getD X.pg default).ke) := by
        unfold Xd.next
        dsimp only
        rw [if_pos hd]
      have e : muX C P L (X.purX (P.getD X.pg default).ke) + 1 = muX C P L X := by
        show sumK X + ((L.drop X.nx).map (wG C)).sum + (P.length - (X.pg + 1)) + 1 = sumK X + ((L.drop X.nx).map (wG C)).sum + (P.length - X.pg)
        omega
      refine ⟨_, step _ hnx (hs.purge _) rfl rfl (fun h => by rcases h with h | h <;> cases h) ⟨n, hf.purge, ?_⟩, by omega, fun _ => by omega⟩
      show n + (waitsX X).length + _ ≤ _
      omega
    · rename_i hd
      have hd : ¬ (X.pg < P.length ∧ (P.getD X.pg default).ti = D.no) := hd
      cases hn
      rw [hno] at hd
      have hnx : X.next C R E P L lim .pur = some (.bak, X) := by
        unfold Xd.next
        dsimp only
        rw [if_neg hd]
      exact ⟨_, step _ hnx hs rfl rfl (fun h => by rcases h with h | h <;> cases h) ⟨n, hf, Nat.le_refl _⟩, Nat.le_refl _, fun h => by cases h⟩
  | bak =>
    unfold Cfg.next at hn
    dsimp only at hn
    obtain ⟨f1, f2⟩ := hs.firstB hx
    split at hn
    · rename_i hd
      have hd : (0 < D.qu.length ∧ (hdE D).ti = D.no) ∧ (hdE D).bk = true := hd
      cases hn
      have hB := f1 ⟨hd.1.1, hd.1.2, hd.2⟩
      have hnx : X.next C R E P L lim .bak = some (.bak, X.backX C R P (hdE D).ak) := by
        unfold Xd.next
        dsimp only
        rw [hB]
      have hj := hs.hd_at hd.1.1
      obtain ⟨hkn, hdn, _, han⟩ := hs.hd_bk hd.1.1 hd.2
      obtain ⟨l1, l2, l3, l4, l5⟩ := back_left (R := R) hx hV hj hkn hdn
      have e : muX C P L (X.backX C R P (hdE D).ak) + 1 ≤ muX C P L X := by
        unfold muX
        rw [l1, l2]
        omega
      have hwl : (D.wa (hdE D).ak).length = (X.K (hdE D).ak).ws.length := by rw [hs.wa _ hj, List.length_map]
      have ha : AFit (hdE D).an := by
        rw [han]
        exact (hx.an _ _ (Xd.at_ hj) hkn).fit
      have hF := (hf.pop hd.1.1).back (R := R) (P := P) (j := (hdE D).ak) (by show _ < D.ak.length; rw [hs.akl]; exact hj) ha
      refine ⟨_, step _ hnx (hs.back hx hV hd.1.1 hd.2) l1.symm l2.symm (fun h => by rcases h with h | h <;> cases h) ⟨_, hF, ?_⟩, by omega, fun _ => by omega⟩
      show n + 1 + (D.wa (hdE D).ak).length + 1 + _ + _ ≤ _
      omega
    · rename_i hd
      cases hn
      have hB := f2 (fun h => hd ⟨⟨h.1, h.2.1⟩, h.2.2⟩)
      have hnx : X.next C R E P L lim .bak = some (.get, X) := by
        unfold Xd.next
        dsimp only
        rw [hB]
      exact ⟨_, step _ hnx hs rfl rfl (fun _ => nextB_none hB) ⟨n, hf, Nat.le_refl _⟩, Nat.le_refl _, fun h => by cases h⟩
  | get =>
    have hm := hm (.inl rfl)
    unfold Cfg.next at hn
    dsimp only at hn
    have hno : D.no = X.no := hs.no
    split at hn
    · rename_i hd
      have hd : X.nx < L.length ∧ (L.getD X.nx default).ti = D.no := hd
      rw [hno] at hd
      obtain ⟨hl, hti⟩ := hd
      have hxg : L[X.nx]? = some (L.getD X.nx default) := by rw [List.getD_eq_getElem?_getD, List.getElem?_eq_getElem hl]; rfl
      obtain ⟨g1, g2, i, g3, g4⟩ := hv.lt _ (List.mem_of_getElem? hxg)
      have hget := hx.get hl (fun x hx2 => by rw [← hti]; exact hv.ls X.nx (X.nx + 1) _ x (Nat.le_succ _) hxg hx2) 0
      have hgi : getI C L ⟨.get, D, X.nx, X.pg⟩ = i := by unfold getI; rw [g3]; rfl
      have hgi2 : (cNum C (L.getD X.nx default).ca).toNat = i := by rw [g3]; rfl
      rw [hgi] at hn
      cases hn
      have hnx : X.next C R E P L lim .get = some (.get, ({ X with nx := X.nx + 1 } : Xd).comeX C R P i (L.getD X.nx default).ke X.nx none) := by
        unfold Xd.next
        dsimp only
        rw [if_pos ⟨hl, hti⟩, hgi2]
      have hs' : Sim C [] D { X with nx := X.nx + 1 } := { hs with st := fun i s h => by have g := hs.st i s h; exact ⟨g.ch, g.pa, g.ld, g.ar, g.he⟩ }
      have hsm := hs'.come (R := R) (key := (L.getD X.nx default).ke) (ge := X.nx) (ak := none) (ho := 0) hget g4 hv.rb
      have hlf := Lf.come (C := C) (R := R) (P := P) (X := { X with nx := X.nx + 1 }) (i := i) (key := (L.getD X.nx default).ke) (ge := X.nx) (ak := none) hV (fun j h => by cases h)
      have hsi := (hs.at_ g4).1
      have e : muX C P L (({ X with nx := X.nx + 1 } : Xd).comeX C R P i (L.getD X.nx default).ke X.nx none) + 1 ≤ muX C P L X := by
        unfold muX
        rw [hlf.nx, hlf.pg]
        have h1 : sumK (({ X with nx := X.nx + 1 } : Xd).comeX C R P i (L.getD X.nx default).ke X.nx none) ≤ sumK X + (2 * i + 2) := hlf.sk
        have h2 : ((L.drop X.nx).map (wG C)).sum = (2 * i + 3) + ((L.drop (X.nx + 1)).map (wG C)).sum := by
          have hcons : L.drop X.nx = L.getD X.nx default :: L.drop (X.nx + 1) := by
            rw [List.drop_eq_getElem_cons hl]
            congr 1
            rw [List.getElem?_eq_getElem hl] at hxg
            exact Option.some.inj hxg
          rw [hcons, List.map_cons, List.sum_cons]
          congr 1
          unfold wG
          rw [hgi2]
        show _ + ((L.drop (X.nx + 1)).map (wG C)).sum + (P.length - X.pg) + 1 ≤ _
        omega
      have hF := hf.came (R := R) (P := P) (key := (L.getD X.nx default).ke) (f := ⟨X.nx, none⟩) hsi (by
        show X.nx < D.go.length
        rw [hs.gl]
        have := hx.le.2.2.1
        omega) g2
      refine ⟨_, step _ hnx hsm hlf.nx.symm hlf.pg.symm (fun _ => hlf.nb hm) ⟨_, hF, ?_⟩, by omega, fun _ => by omega⟩
      have hw : (waitsX (({ X with nx := X.nx + 1 } : Xd).comeX C R P i (L.getD X.nx default).ke X.nx none)).length ≤ (waitsX X).length + 1 := hlf.wt
      omega
    · rename_i hd
      have hd : ¬ (X.nx < L.length ∧ (L.getD X.nx default).ti = D.no) := hd
      cases hn
      rw [hno] at hd
      have hnx : X.next C R E P L lim .get = some (.arr, X) := by
        unfold Xd.next
        dsimp only
        rw [if_neg hd]
      exact ⟨_, step _ hnx hs rfl rfl (fun _ => hm) ⟨n, hf, Nat.le_refl _⟩, Nat.le_refl _, fun h => by cases h⟩
  | arr =>
    have hm := hm (.inr rfl)
    unfold Cfg.next at hn
    dsimp only at hn
    obtain ⟨f1, f2⟩ := hs.firstA hx hm.none
    split at hn
    · rename_i hd
      have hd : 0 < D.qu.length ∧ (hdE D).ti = D.no := hd
      cases hn
      obtain ⟨hA, hbk⟩ := f1 hd
      have hnx : X.next C R E P L lim .arr = some (.arr, X.arrX C R E P (hdE D).ak) := by
        unfold Xd.next
        dsimp only
        rw [hA]
      have hj := hs.hd_at hd.1
      obtain ⟨hcm, _⟩ := hs.hd_ar hd.1 hbk
      obtain ⟨l1, l2, l3, l4, l5, l6⟩ := arr_left hx hv hj hcm
      have e : muX C P L (X.arrX C R E P (hdE D).ak) + 1 ≤ muX C P L X := by
        unfold muX
        rw [l1, l2]
        omega
      have hkk := hx.kk _ _ (Xd.at_ hj)
      have hpar : parO C (X.K (hdE D).ak).ca < ((X.K (hdE D).ak).ca : Int) := (hv.cp (X.K (hdE D).ak).ca (C.getD (X.K (hdE D).ak).ca default) (by rw [List.getD_eq_getElem?_getD, List.getElem?_eq_getElem hkk.1]; rfl)).1
      have hF := (hf.pop hd.1).arr (R := R) (P := P) (E := E) (j := (hdE D).ak) (by show _ < D.ak.length; rw [hs.akl]; exact hj) (by
        show (D.S (D.K _).ca).pa < D.st.length
        rw [(hs.Kck _).1, (hs.at_ hkk.1).2.pa, hs.len]
        omega) (oriM_ok hv.e _ ⟨hf.no.1, hf.no.2⟩).fit
      refine ⟨_, step _ hnx (hs.arr hx hv hd.1 hbk) l1.symm l2.symm (fun _ => l4 hm) ⟨_, hF, ?_⟩, by omega, fun _ => by omega⟩
      omega
    · rename_i hd
      cases hn
      have hA := f2 hd
      have hnx : X.next C R E P L lim .arr = some (.out, X) := by
        unfold Xd.next
        dsimp only
        rw [hA]
      exact ⟨_, step _ hnx hs rfl rfl (fun h => by rcases h with h | h <;> cases h) ⟨n, hf, Nat.le_refl _⟩, Nat.le_refl _, fun h => by cases h⟩
theorem Both.last {X0 : Xd} {c : Cfg} (h : Both C R E P L lim X0 c X) (hn : c.next C R E P L lim = none) : c.m = .out ∧ X.next C R E P L lim .out = none := by
  obtain ⟨m, D, g, p⟩ := c
  obtain ⟨hs, hx, hg, hp, hr, hm, n, hf, hfn⟩ := h
  dsimp only at hs hg hp hr hm hf
  subst hg hp
  cases m with
  | out =>
    refine ⟨rfl, ?_⟩
    unfold Cfg.next at hn
    dsimp only at hn
    split at hn
    · rename_i hl
      have ht := (hs.out (P := P) (L := L) (lim := lim)).2 hl
      unfold Xd.next
      dsimp only
      split
      · rfl
      · rename_i t e
        rw [if_pos (ht t e)]
    · cases hn
  | pur => unfold Cfg.next at hn; dsimp only at hn; split at hn <;> cases hn
  | bak => unfold Cfg.next at hn; dsimp only at hn; split at hn <;> cases hn
  | get => unfold Cfg.next at hn; dsimp only at hn; split at hn <;> cases hn
  | arr => unfold Cfg.next at hn; dsimp only at hn; split at hn <;> cases hn
def InvB (C : List Cch) (R : List Crl) (E : List Rel) (P : List Pur) (L : List Gt) (lim : Int) (X0 : Xd) (k : Nat) (c : Cfg) : Prop := ∃ X, Both C R E P L lim X0 c X ∧ k = muX C P L X
/-- What run needs. -/
theorem runInv (hv : Val C R E P L) (X0 : Xd) : RunInv C R E P L lim (InvB C R E P L lim X0) where
  fit k c h := by
    obtain ⟨X, h, rfl⟩ := h
    obtain ⟨n, h1, h2⟩ := h.fit
    exact ⟨n, by omega, h1⟩
  step k c c' h hn := by
    obtain ⟨X, h, rfl⟩ := h
    obtain ⟨X', h1, h2, h3⟩ := h.next hv hn
    exact ⟨_, ⟨X', h1, rfl⟩, h2, h3⟩
  back k c h hm hd hb := by
    obtain ⟨X, h, rfl⟩ := h
    have hj := h.sim.hd_at hd.1
    obtain ⟨h1, h2, _⟩ := h.sim.hd_bk hd.1 hb
    have hkk := h.inv.kk _ _ (Xd.at_ hj)
    rw [(h.sim.Kck _).1, (h.sim.at_ hkk.1).2.ar]
    unfold liveL
    rw [List.mem_filter]
    exact ⟨List.mem_range.2 hj, by simp [h2]⟩
  get k c h hm hd := by
    obtain ⟨X, h, rfl⟩ := h
    have hl := hd.1
    have hxg : L[c.g]? = some (L.getD c.g default) := by rw [List.getD_eq_getElem?_getD, List.getElem?_eq_getElem hl]; rfl
    obtain ⟨g1, g2, i, g3, g4⟩ := hv.lt _ (List.mem_of_getElem? hxg)
    refine ⟨i, g3, by rw [h.sim.len]; exact g4, g2, ?_⟩
    rw [h.sim.gl, h.inv.le.2.2.1]
    exact hl
  par k c h hm hd := by
    obtain ⟨X, h, rfl⟩ := h
    have hj := h.sim.hd_at hd.1
    have hkk := h.inv.kk _ _ (Xd.at_ hj)
    rw [(h.sim.Kck _).1, (h.sim.at_ hkk.1).2.pa, h.sim.len]
    have hpar : parO C (X.K (hdE c.D).ak).ca < ((X.K (hdE c.D).ak).ca : Int) := (hv.cp (X.K (hdE c.D).ak).ca (C.getD (X.K (hdE c.D).ak).ca default) (by rw [List.getD_eq_getElem?_getD, List.getElem?_eq_getElem hkk.1]; rfl)).1
    omega
  pos k c h := by
    obtain ⟨X, h, rfl⟩ := h
    rw [h.g, h.p, h.sim.len]
    have := h.inv.le
    have := hv.c
    omega
end
/-- The start. -/
def xd0 (C : List Cch) (m : Nat) : Xd := ⟨[], C.map fun _ => [], List.replicate m default, C.map fun _ => default, 0, 0, 0⟩
end Go.Proofs.YtehbmnkbmgnkfaaGreatDoor

/- The day as the document tells it: how it begins and how it ends. -/
namespace Go.Proofs.YtehbmnkbmgnkfaaGreatDoor
open Go.RowKit

def gnAt (C : List Cch) (l : List Gt) (i : Nat) : Int := gnOf (l.getD i default) (l.getD (i - 1) default) i (hasC C (l.getD i default).ca)
/-- The fault of gets. -/
def checkN (C : List Cch) (l : List Gt) : Int := if 1000 < l.length then 2 else FF (gnAt C l) l.length
/-- The fault of a delivery and gets. -/
def checkS (C : List Cch) (R : List Crl) (E : List Rel) (P : List Pur) (L : List Gt) : Int := if checkD C R E P ≠ 0 then checkD C R E P else checkN C L
theorem getD_at {α : Type} [Inhabited α] {l : List α} {i : Nat} {x : α} (h : l[i]? = some x) : l.getD i default = x := by rw [List.getD_eq_getElem?_getD, h]; rfl
theorem mono_of {α : Type} {f : α → Int} {l : List α} (h : ∀ (i : Nat) (x y : α), l[i]? = some x → l[i + 1]? = some y → f x ≤ f y) : ∀ (i j : Nat) (x y : α), i ≤ j → l[i]? = some x → l[j]? = some y → f x ≤ f y := by
  intro i j
  induction j with
  | zero =>
    intro x y hij hx hy
    obtain rfl : i = 0 := by omega
    rw [hx] at hy; cases hy; exact Int.le_refl _
  | succ j ih =>
    intro x y hij hx hy
    by_cases e : i = j + 1
    · rw [e, hy] at hx; cases hx; exact Int.le_refl _
    · have hj : j < l.length := by have := (List.getElem?_eq_some_iff.1 hy).1; omega
      have h1 := ih x l[j] (by omega) hx (List.getElem?_eq_getElem hj)
      have h2 := h j _ y (List.getElem?_eq_getElem hj) hy
      omega
theorem mem_at {α : Type} {l : List α} {x : α} (h : x ∈ l) : ∃ i : Nat, i < l.length ∧ l[i]? = some x := by
  obtain ⟨i, hi, rfl⟩ := List.mem_iff_getElem.1 h
  exact ⟨i, hi, List.getElem?_eq_getElem hi⟩
section
variable {C : List Cch} {R : List Crl} {E : List Rel} {P : List Pur} {L : List Gt}
theorem ccOf_zero {x : Cch} {tw hp : Bool} (h : ccOf x tw hp = 0) : nameB x.na = true ∧ tw = false ∧ parB x hp = false ∧ (1 ≤ x.de ∧ x.de ≤ 100000) ∧ (0 ≤ x.ro ∧ x.ro ≤ 1000000000000) := by
  unfold ccOf at h
  split at h
  · cases h
  · rename_i h1
    split at h
    · cases h
    · rename_i h2
      split at h
      · cases h
      · rename_i h3
        split at h
        · cases h
        · rename_i h4
          simp only [Bool.or_eq_true, not_or] at h4
          exact ⟨by simpa using h1, by simpa using h2, by simpa using h3, outB_no' h4.1, outB_no' h4.2⟩
theorem name_ne {s : ByteArray} (h : nameB s = true) : s ≠ ⟨#[]⟩ := fun e => by
  rw [e] at h; revert h; decide
theorem checkD_zero (h : checkD C R E P = 0) : checkC C = 0 ∧ checkU R = 0 ∧ checkL E = 0 ∧ checkG P = 0 := by
  unfold checkD at h
  by_cases h1 : checkC C = 0
  · rw [if_neg (by simp [h1])] at h
    by_cases h2 : checkU R = 0
    · rw [if_neg (by simp [h2])] at h
      by_cases h3 : checkL E = 0
      · rw [if_neg (by simp [h3])] at h
        exact ⟨h1, h2, h3, h⟩
      · rw [if_pos h3] at h; exact absurd h h3
    · rw [if_pos h2] at h; exact absurd h h2
  · rw [if_pos h1] at h; exact absurd h h1
theorem cc_at (h : checkC C = 0) : C.length ≠ 0 ∧ C.length ≤ 30 ∧ ∀ (i : Nat) (x : Cch), C[i]? = some x → nameB x.na = true ∧ hasC (C.take i) x.na = false ∧ parB x (hasC (C.take i) x.pa) = false ∧ (1 ≤ x.de ∧ x.de ≤ 100000) ∧ (0 ≤ x.ro ∧ x.ro ≤ 1000000000000) := by
  unfold checkC at h
  split at h
  · cases h
  · rename_i h0
    split at h
    · cases h
    · refine ⟨h0, by omega, fun i x hx => ?_⟩
      have hz := FF_eq_zero h i (List.getElem?_eq_some_iff.1 hx).1
      unfold ccAt at hz
      rw [getD_at hx] at hz
      exact ccOf_zero hz
theorem cg_at (h : checkG P = 0) : P.length ≤ 200 ∧ ∀ (i : Nat) (x : Pur), P[i]? = some x → (0 ≤ x.ti ∧ x.ti ≤ 1000000000000) ∧ reqB x.ke = true ∧ ordG x (P.getD (i - 1) default) i = false := by
  unfold checkG at h
  split at h
  · cases h
  · refine ⟨by omega, fun i x hx => ?_⟩
    have hz := FF_eq_zero h i (List.getElem?_eq_some_iff.1 hx).1
    unfold cgAt at hz
    rw [getD_at hx] at hz
    unfold cgOf at hz
    split at hz
    · cases hz
    · rename_i h1
      split at hz
      · cases hz
      · rename_i h2
        split at hz
        · cases hz
        · rename_i h3
          exact ⟨outB_no' h1, by simpa using h2, by simpa using h3⟩
theorem cu_at (h : checkU R = 0) : ∀ (i : Nat) (x : Crl), R[i]? = some x → (0 ≤ x.li ∧ x.li ≤ 1000000000) ∧ (0 ≤ x.st ∧ x.st ≤ 1000000000) ∧ (0 ≤ x.go ∧ x.go ≤ 1000000000) := by
  unfold checkU at h
  split at h
  · cases h
  · intro i x hx
    have hz := FF_eq_zero h i (List.getElem?_eq_some_iff.1 hx).1
    unfold cuAt at hz
    rw [getD_at hx] at hz
    unfold cuOf at hz
    split at hz
    · cases hz
    · split at hz
      · cases hz
      · split at hz
        · cases hz
        · rename_i h3
          simp only [Bool.or_eq_true, not_or] at h3
          exact ⟨outB_no' h3.1.1, outB_no' h3.1.2, outB_no' h3.2⟩
theorem cl_at (h : checkL E = 0) : ∀ (i : Nat) (x : Rel), E[i]? = some x → (x.go = true → x.si = 0) ∧ (x.go = false → 1 ≤ x.si ∧ x.si ≤ 1000000000) ∧ (0 ≤ x.ti ∧ x.ti ≤ 1000000000000) ∧ ordL x (E.getD (i - 1) default) i = false := by
  unfold checkL at h
  split at h
  · cases h
  · intro i x hx
    have hz := FF_eq_zero h i (List.getElem?_eq_some_iff.1 hx).1
    unfold clAt at hz
    rw [getD_at hx] at hz
    unfold clOf at hz
    split at hz
    · cases hz
    · split at hz
      · cases hz
      · rename_i h2
        split at hz
        · cases hz
        · rename_i h3
          split at hz
          · cases hz
          · rename_i h4
            split at hz
            · cases hz
            · rename_i h5
              refine ⟨fun hg => ?_, fun hg => ?_, outB_no' h2, by simpa using h5⟩
              · rw [hg] at h3; simpa using h3
              · rw [hg] at h4; exact outB_no' (by simpa using h4)
theorem cn_at (h : checkN C L = 0) : L.length ≤ 1000 ∧ ∀ (i : Nat) (x : Gt), L[i]? = some x → (0 ≤ x.ti ∧ x.ti ≤ 1000000000000) ∧ hasC C x.ca = true ∧ reqB x.ke = true ∧ ordT x (L.getD (i - 1) default) i = false := by
  unfold checkN at h
  split at h
  · cases h
  · refine ⟨by omega, fun i x hx => ?_⟩
    have hz := FF_eq_zero h i (List.getElem?_eq_some_iff.1 hx).1
    unfold gnAt at hz
    rw [getD_at hx] at hz
    unfold gnOf at hz
    split at hz
    · cases hz
    · rename_i h1
      split at hz
      · cases hz
      · rename_i h2
        split at hz
        · cases hz
        · rename_i h3
          split at hz
          · cases hz
          · rename_i h4
            exact ⟨outB_no' h1, by simpa using h2, by simpa using h3, by simpa using h4⟩
theorem cNum_has {n : ByteArray} (h : hasC C n = true) : ∃ i : Nat, cNum C n = (i : Int) ∧ i < C.length := by
  have hz := fidxC_any (fun o => isC o n) C
  have h1 : decide (0 ≤ fidxC (fun o => isC o n) C) = true := hz.trans h
  unfold cNum fidxC at *
  split
  · rename_i e
    rw [if_pos e] at h1
    simp at h1
  · rename_i e
    exact ⟨_, rfl, by have := List.findIdx_le_length (p := fun o => isC o n) (xs := C); omega⟩
theorem cNum_ge (n : ByteArray) : -1 ≤ cNum C n := by
  unfold cNum fidxC
  split <;> omega
theorem val_of (h : checkS C R E P L = 0) : Val C R E P L := by
  unfold checkS at h
  have hd : checkD C R E P = 0 := Classical.byContradiction fun hd => by rw [if_pos hd] at h; exact hd h
  rw [if_neg (by simp [hd])] at h
  obtain ⟨hC, hU, hE, hG⟩ := checkD_zero hd
  obtain ⟨_, c1, c2⟩ := cc_at hC
  obtain ⟨g1, g2⟩ := cg_at hG
  obtain ⟨n1, n2⟩ := cn_at h
  refine { c := c1, cd := fun i x hx => ⟨(c2 i x hx).2.2.2.1, (c2 i x hx).2.2.2.2⟩, cp := fun i x hx => ?_, rb := fun x hx => ?_, e := fun x hx => ?_, p := g1, ps := ?_, pt := fun x hx => ?_, l := n1, ls := ?_, lt := fun x hx => ?_ }
  · refine ⟨?_, cNum_ge _⟩
    obtain ⟨q1, q2, q3, _⟩ := c2 i x hx
    have hil := (List.getElem?_eq_some_iff.1 hx).1
    by_cases he : x.pa = ⟨#[]⟩
    · have hn : cNum C x.pa = -1 := by
        refine (fidxC_none fun j y hy => ?_).1
        have := name_ne (c2 j y hy).1
        unfold isC
        rw [he]
        cases e : (y.na.toList == (ByteArray.mk #[]).toList)
        · rfl
        · exact absurd (ba_list (by simpa using e)) this
      omega
    · unfold parB at q3
      rw [decide_eq_false he] at q3
      have hh : hasC (C.take i) x.pa = true := by simpa using q3
      unfold hasC at hh
      obtain ⟨y, hy, hyn⟩ := List.any_eq_true.1 hh
      obtain ⟨k, hk, hky⟩ := mem_at hy
      rw [List.getElem?_take] at hky
      split at hky
      · rename_i hki
        have hle : C.findIdx (fun o => isC o x.pa) ≤ k := by
          rw [Nat.le_iff_lt_or_eq]
          by_cases hlt : C.findIdx (fun o => isC o x.pa) < k
          · exact .inl hlt
          · right
            by_cases hgt : k < C.findIdx (fun o => isC o x.pa)
            · have := List.not_of_lt_findIdx hgt
              rw [List.getElem?_eq_getElem (by omega)] at hky
              cases hky
              rw [hyn] at this; cases this
            · omega
        unfold cNum fidxC
        split <;> omega
      · cases hky
  · obtain ⟨i, _, hx⟩ := mem_at hx
    exact cu_at hU i x hx
  · obtain ⟨i, _, hx⟩ := mem_at hx
    obtain ⟨q1, q2, q3, _⟩ := cl_at hE i x hx
    exact ⟨q1, q2, q3.1⟩
  · refine mono_of (f := Pur.ti) fun i x y hx hy => ?_
    have ho := (g2 (i + 1) y hy).2.2
    rw [Nat.add_sub_cancel, getD_at hx] at ho
    unfold ordG at ho
    rw [decide_eq_true (Nat.succ_pos i), Bool.true_and, Bool.or_eq_false_iff] at ho
    have := of_decide_eq_false ho.1
    omega
  · obtain ⟨i, _, hx⟩ := mem_at hx
    obtain ⟨q1, q2, _⟩ := g2 i x hx
    exact ⟨q1, (reqB_true q2).2.1⟩
  · refine mono_of (f := Gt.ti) fun i x y hx hy => ?_
    have ho := (n2 (i + 1) y hy).2.2.2
    rw [Nat.add_sub_cancel, getD_at hx] at ho
    unfold ordT at ho
    rw [decide_eq_true (Nat.succ_pos i), Bool.true_and] at ho
    have := of_decide_eq_false ho
    omega
  · obtain ⟨i, _, hx⟩ := mem_at hx
    obtain ⟨q1, q2, q3, _⟩ := n2 i x hx
    exact ⟨q1, (reqB_true q3).2.1, cNum_has q2⟩
theorem xd0_sim : Sim C [] (day0 (C.map (stoOf C)) L.length) (xd0 C L.length) := by
  have hnone : ∀ {α β : Type} (l : List α) (b : β) (i : Nat), (l.map fun _ => b).getD i b = b := fun l b i => by
    rw [List.getD_eq_getElem?_getD, List.getElem?_map]
    cases l[i]? <;> rfl
  exact {
    len := by show (C.map (stoOf C)).length = _; simp
    st := fun i s hs => by
      have hs' : (C.map (stoOf C))[i]? = some s := hs
      rw [List.getElem?_map] at hs'
      cases hc : C[i]? with
      | none => rw [hc] at hs'; cases hs'
      | some c =>
        rw [hc] at hs'
        cases hs'
        refine ⟨(getD_at hc).symm, ?_, ?_, rfl, ?_⟩
        · show cNum C c.pa = cNum C (C.getD i default).pa
          rw [getD_at hc]
        · exact (hnone C (default : Ldd) i).symm
        · have e : (xd0 C L.length).H i = [] := hnone C ([] : List Xh) i
          rw [e]
          exact ⟨List.Perm.nil, fun h hh => by cases hh⟩
    ak := rfl
    wa := fun j hj => absurd hj (Nat.not_lt_zero _)
    ev := fun e => Iff.intro (fun h => (by cases h)) (fun ⟨k, hk, _⟩ => (by cases hk))
    nd := List.nodup_nil
    hp := fun i h0 hi => absurd hi (Nat.not_lt_zero _)
    no := rfl
    gl := by show (List.replicate _ _).length = (List.replicate _ _).length; simp
    g1 := fun w hw => by cases hw
    g2 := fun g _ => rfl }
theorem xd0_inv (hv : Val C R E P L) : XInv C P L [] (xd0 C L.length) :=
  { le := ⟨by show (C.map _).length = _; simp, by show (C.map _).length = _; simp, by show (List.replicate _ _).length = _; simp, Nat.zero_le _, Nat.zero_le _⟩
    kk := fun j k h => by cases h
    tm := fun j k h => by cases h
    an := fun j k h => by cases h
    wu := List.Pairwise.nil
    wg := fun w hw => by cases hw
    wk := fun w hw => by cases hw
    wp := fun j k h => by cases h
    lv := fun j k h => by cases h
    he := fun i l h => by
      have h' : (C.map fun _ => ([] : List Xh))[i]? = some l := h
      rw [List.getElem?_map] at h'
      cases hc : C[i]? with
      | none => rw [hc] at h'; cases h'
      | some c =>
        rw [hc] at h'
        cases h'
        exact ⟨List.nodup_nil, fun h hh => by cases hh⟩
    no := ⟨Int.le_refl _, by show (0 : Int) ≤ _; decide⟩
    gn := fun x hx => (hv.lt x (List.mem_of_getElem? hx)).1.1
    pn := fun x hx => (hv.pt x (List.mem_of_getElem? hx)).1.1 }
theorem xd0_fit (hv : Val C R E P L) : Fit 0 (day0 (C.map (stoOf C)) L.length) := by
  have hat : ∀ (i : Nat) (s : Sto), (day0 (C.map (stoOf C)) L.length).st[i]? = some s → ∃ c, C[i]? = some c ∧ s = stoOf C c := fun i s hs => by
    have hs' : (C.map (stoOf C))[i]? = some s := hs
    rw [List.getElem?_map] at hs'
    cases hc : C[i]? with
    | none => rw [hc] at hs'; cases hs'
    | some c => rw [hc] at hs'; cases hs'; exact ⟨c, rfl, rfl⟩
  exact {
    num := ⟨fun e h => (by cases h), fun i s hs j hj => (by obtain ⟨c, hc, rfl⟩ := hat i s hs; cases hj), fun j hj => absurd hj (Nat.not_lt_zero _)⟩
    qu := Nat.le_refl _
    ak := Nat.le_refl _
    wa := fun j => Nat.le_refl _
    pu := Nat.le_refl _
    no := ⟨Int.le_refl _, by show (0 : Int) ≤ _; decide⟩
    st := fun i s hs => by
      obtain ⟨c, hc, rfl⟩ := hat i s hs
      obtain ⟨h1, h2⟩ := hv.cd i c hc
      have h3 := hv.cp i c hc
      have h4 := (List.getElem?_eq_some_iff.1 hc).1
      have h5 := hv.c
      refine ⟨Nat.le_refl _, ⟨Int.le_refl _, Int.le_refl _⟩, ⟨Int.le_refl _, Int.le_refl _⟩, ⟨Int.le_refl _, Int.le_refl _⟩, ⟨Int.le_refl _, Int.le_refl _⟩, ⟨Int.le_refl _, Int.le_refl _⟩, ⟨Int.le_refl _, by show (0 : Int) ≤ ((0 : Nat) : Int) * 1000000000; decide⟩, h1, h2, ⟨h3.2, ?_⟩, Nat.le_refl _⟩
      show cNum C c.pa ≤ 30
      omega
    an := fun i s hs k hk => (by obtain ⟨c, hc, rfl⟩ := hat i s hs; cases hk)
    ks := fun i s hs => (by obtain ⟨c, hc, rfl⟩ := hat i s hs; exact ⟨List.nodup_nil, fun k hk => by cases hk⟩)
    qa := fun e h => (by cases h)
    kk := fun j k h => (by cases h)
    wg := fun j hj => absurd hj (Nat.not_lt_zero _) }
theorem sum_le {α : Type} (f : α → Nat) (n : Nat) : ∀ l : List α, (∀ x, x ∈ l → f x ≤ n) → (l.map f).sum ≤ n * l.length
  | [], _ => Nat.zero_le _
  | a :: l, h => by
    have h1 := h a (List.mem_cons_self ..)
    have h2 := sum_le f n l fun x hx => h x (List.mem_cons_of_mem _ hx)
    rw [List.map_cons, List.sum_cons, List.length_cons, Nat.mul_succ]
    omega
theorem xd0_mu (hv : Val C R E P L) : muX C P L (xd0 C L.length) ≤ 61200 := by
  have h1 := sum_le (wG C) 61 L fun x hx => by
    obtain ⟨_, _, i, hi, hl⟩ := hv.lt x hx
    have := hv.c
    unfold wG
    rw [hi, Int.toNat_natCast]
    omega
  have h2 := hv.l
  have h3 := hv.p
  show 0 + ((L.drop 0).map (wG C)).sum + (P.length - 0) ≤ _
  rw [List.drop_zero]
  omega
theorem both0 (hv : Val C R E P L) (lim : Int) : Both C R E P L lim (xd0 C L.length) ⟨.out, day0 (C.map (stoOf C)) L.length, 0, 0⟩ (xd0 C L.length) :=
  { sim := xd0_sim
    inv := xd0_inv hv
    g := rfl
    p := rfl
    rch := .refl _ _
    mode := fun h => by rcases h with h | h <;> cases h
    fit := ⟨0, xd0_fit hv, by
      have := xd0_mu hv
      show 0 + 0 + 5 * _ ≤ _
      omega⟩ }
/-- The day is over, up to a time. -/
structure EndX (C : List Cch) (R : List Crl) (E : List Rel) (P : List Pur) (L : List Gt) (lim : Int) (X : Xd) : Prop where
  rch : XReach C R E P L lim .out (xd0 C L.length) .out X
  nxt : X.next C R E P L lim .out = none
  inv : XInv C P L [] X
theorem endX_of {lim : Int} {k : Nat} {c : Cfg} (h : InvB C R E P L lim (xd0 C L.length) k c) (hn : c.next C R E P L lim = none) : ∃ X, EndX C R E P L lim X ∧ Sim C [] c.D X := by
  obtain ⟨X, h, _⟩ := h
  obtain ⟨hm, h1⟩ := h.last hn
  exact ⟨X, ⟨hm ▸ h.rch, h1, h.inv⟩, h.sim⟩
/-- Nothing can happen any more: all is done. -/
structure Done (L : List Gt) (P : List Pur) (X : Xd) : Prop where
  nx : X.nx = L.length
  pg : X.pg = P.length
  ak : ∀ (j : Nat) (k : Xk), X.ak[j]? = some k → k.cm = true ∧ k.kn = true ∧ k.dn = true
  wt : waitsX X = []
theorem EndX.times {lim : Int} {X : Xd} (h : EndX C R E P L lim X) : ∀ t, t ∈ X.times P L → lim < t := fun t ht => by
  have hn := h.nxt
  unfold Xd.next at hn
  dsimp only at hn
  cases hm : minT (X.times P L) with
  | none => rw [minT_none hm] at ht; cases ht
  | some s =>
    rw [hm] at hn
    dsimp only at hn
    split at hn
    · have := (minT_spec hm).2 t ht
      omega
    · cases hn
theorem EndX.done {X : Xd} (h : EndX C R E P L 1152921504606846976 X) (hv : Val C R E P L) : Done L P X := by
  have hno : ∀ t, ¬ t ∈ X.times P L := fun t ht => by
    have h1 := h.times t ht
    cases hm : minT (X.times P L) with
    | none => rw [minT_none hm] at ht; cases ht
    | some s =>
      have h2 := h.times s (minT_spec hm).1
      have h3 := (h.inv.now hv hm).no.2
      have h3 : s ≤ 1000006100000 := h3
      omega
  have hcm : ∀ (j : Nat) (k : Xk), X.ak[j]? = some k → k.cm = true := fun j k hk => by
    cases e : k.cm
    · exact absurd (times_mem.2 (.inr (.inr ⟨j, k, hk, .inl ⟨e, rfl⟩⟩))) (hno k.ar)
    · rfl
  have hdn : ∀ (j : Nat) (k : Xk), X.ak[j]? = some k → k.kn = true → k.dn = true := fun j k hk hkn => by
    cases e : k.dn
    · exact absurd (times_mem.2 (.inr (.inr ⟨j, k, hk, .inr ⟨hkn, e, rfl⟩⟩))) (hno k.bk)
    · rfl
  -- who has no answer waits at one of a lower cache
  have hkn : ∀ (n : Nat) (a : Nat) (k : Xk), X.ak[a]? = some k → k.ca ≤ n → k.kn = true := by
    intro n
    induction n with
    | zero =>
      intro a k hk hn
      cases e : k.kn
      · obtain ⟨w, hw, hwa⟩ := h.inv.lv a k hk (hcm a k hk) e
        rw [List.nil_append] at hw
        obtain ⟨k2, hk2, hws⟩ := List.mem_flatMap.1 hw
        obtain ⟨j, _, hj⟩ := mem_at hk2
        unfold wsOf at hws
        split at hws
        · cases hws
        · rename_i hd
          have := h.inv.wp j k2 hj (by simpa using hd) w hws a hwa
          rw [Xd.K_eq hk] at this
          omega
      · rfl
    | succ n ih =>
      intro a k hk hn
      cases e : k.kn
      · obtain ⟨w, hw, hwa⟩ := h.inv.lv a k hk (hcm a k hk) e
        rw [List.nil_append] at hw
        obtain ⟨k2, hk2, hws⟩ := List.mem_flatMap.1 hw
        obtain ⟨j, _, hj⟩ := mem_at hk2
        unfold wsOf at hws
        split at hws
        · cases hws
        · rename_i hd
          have hlt := h.inv.wp j k2 hj (by simpa using hd) w hws a hwa
          rw [Xd.K_eq hk] at hlt
          have := hdn j k2 hj (ih j k2 hj (by omega))
          exact absurd this hd
      · rfl
  have hall : ∀ (j : Nat) (k : Xk), X.ak[j]? = some k → k.cm = true ∧ k.kn = true ∧ k.dn = true := fun j k hk => ⟨hcm j k hk, hkn k.ca j k hk (Nat.le_refl _), hdn j k hk (hkn k.ca j k hk (Nat.le_refl _))⟩
  refine ⟨?_, ?_, hall, ?_⟩
  · have := h.inv.le.2.2.2.1
    by_cases e : X.nx < L.length
    · exact absurd (times_mem.2 (.inl ⟨_, List.getElem?_eq_getElem e, rfl⟩)) (hno _)
    · omega
  · have := h.inv.le.2.2.2.2
    by_cases e : X.pg < P.length
    · exact absurd (times_mem.2 (.inr (.inl ⟨_, List.getElem?_eq_getElem e, rfl⟩))) (hno _)
    · omega
  · unfold waitsX
    rw [List.flatMap_eq_nil_iff]
    intro k hk
    obtain ⟨j, _, hj⟩ := mem_at hk
    unfold wsOf
    rw [if_pos (hall j k hj).2.2]
theorem Sim.go_eq {D : Day} {X : Xd} (h : Sim C [] D X) (hd : Done L P X) : D.go = X.go := by
  apply List.ext_getElem?
  intro g
  by_cases hg : g < D.go.length
  · have e := h.g2 g fun w hw => by rw [List.nil_append, hd.wt] at hw; cases hw
    have hg2 : g < X.go.length := by rw [← h.gl]; exact hg
    unfold Day.G Xd.G at e
    rw [List.getD_eq_getElem?_getD, List.getD_eq_getElem?_getD, List.getElem?_eq_getElem hg, List.getElem?_eq_getElem hg2] at e
    rw [List.getElem?_eq_getElem hg, List.getElem?_eq_getElem hg2]
    exact congrArg some e
  · rw [List.getElem?_eq_none (by omega), List.getElem?_eq_none (by have := h.gl; omega)]
theorem Sim.lds {D : Day} {X : Xd} (h : Sim C [] D X) (hx : XInv C P L [] X) : D.st.map Sto.ld = X.ld := by
  apply List.ext_getElem?
  intro i
  rw [List.getElem?_map]
  by_cases hi : i < C.length
  · obtain ⟨h1, h2⟩ := h.at_ hi
    rw [h1]
    have hl : i < X.ld.length := by rw [hx.le.2.1]; exact hi
    rw [List.getElem?_eq_getElem hl]
    show some (D.S i).ld = _
    rw [h2.ld]
    unfold Xd.Ld
    rw [List.getD_eq_getElem?_getD, List.getElem?_eq_getElem hl]
    rfl
  · rw [List.getElem?_eq_none (by rw [h.len]; omega), List.getElem?_eq_none (by rw [hx.le.2.1]; omega)]
    rfl
end
end Go.Proofs.YtehbmnkbmgnkfaaGreatDoor

/- CheckCaches of the program. -/
namespace Go.Proofs.YtehbmnkbmgnkfaaGreatDoor
open Go.RowKit

theorem sameCache (n : ByteArray) (y : Cch) (B : Nat) (W : World) (hc : W.cell? ⟨B, 0, none⟩ = some (.string n)) :
    Calls Tryz.prog 85 #[.agg #[.string y.na, .string y.pa, .int .i64 y.de, .int .i64 y.ro], .pointer (some ⟨B, 0, none⟩)] W fun e w' => e = .returned (.bool (isC y n)) ∧ Below W.heap.size W w' := by
  have hlt := World.block_lt_of_cell? W _ hc
  have hv : Hid ((y.na.toList == n.toList) = isC y n) := Lib.hid rfl
  go_enter Tryz.func85, Tryz.ntmps85
  go_wp2
  go_ret
  exact ⟨ret_bool hv.out, (Below.refl _ _).alloc (Nat.le_refl _) _⟩

set_option maxRecDepth 100000 in
theorem named_any (w : World) (l : List Cch) (v : Value) (kk : Nat) (n : ByteArray) (b1 b2 : Nat) (hl : Sl w 4 encC v l) (hk : kk ≤ l.length) (h1 : w.cell? ⟨b1, 0, none⟩ = some v) (h2 : w.cell? ⟨b2, 0, none⟩ = some (.int .i64 kk)) :
    Calls Tryz.prog 84 #[.string n, .pointer (some ⟨b1, 0, none⟩), .pointer (some ⟨b2, 0, none⟩)] w fun e w' => e = .returned (.bool (hasC (l.take kk) n)) ∧ Below w.heap.size w w' := by
  obtain ⟨T, hT⟩ : ∃ T, T = hasC (l.take kk) n := ⟨_, rfl⟩
  have hl0 := hl
  obtain ⟨ao, cap, rfl, hcap, hmax, hnil, hel⟩ := hl
  unfold maxLen at hmax
  have hany : Hid (Calls Tryz.prog 38 #[.slice ao kk cap, .func (.func 85) #[] #[.pointer (some ⟨w.heap.size, 0, none⟩)]] (w.alloc (.cells #[.string n] 9)) fun e w' => e = .returned (.bool T) ∧ Below (w.alloc (.cells #[.string n] 9)).heap.size (w.alloc (.cells #[.string n] 9)) w') := Lib.hid (by
    rw [hT]
    refine anyC 85 _ (fun o => isC o n) (w.alloc (.cells #[.string n] 9)) (l.take kk) _ ((hl0.take rfl kk hk).below (B := w.heap.size) ((Below.refl _ _).alloc (Nat.le_refl _) _) (Nat.le_refl _)) (enters_of Tryz.func85 (by kernel_rfl) rfl) (fun W' y _ hb => ?_)
    refine sameCache n y w.heap.size W' ?_
    rw [hb.cell (p := ⟨w.heap.size, 0, none⟩) (by show w.heap.size < (w.alloc _).heap.size; simp), cell_of_block (block_new w _)]
    rfl)
  rw [← hT]
  have hlt1 := World.block_lt_of_cell? w _ h1
  have hlt2 := World.block_lt_of_cell? w _ h2
  have hkz : (kk : Int) ≤ (l.length : Int) := by omega
  have hkc : (kk : Int) ≤ (cap : Int) := by omega
  have hwa : w.heap.size < (w.alloc (.cells #[.string n] 9)).heap.size := by simp
  clear hel hT hl0 hnil
  go_enter Tryz.func84, Tryz.ntmps84
  go_wp2_with fail
  refine hany.out.mono ?_
  rintro e w1 ⟨rfl, hb1⟩
  have HB1 := Lib.hid (((Below.refl w.heap.size w).alloc (Nat.le_refl _) (.cells #[.string n] 9)).trans (hb1.mono (Nat.le_of_lt hwa)))
  clear hb1
  go_wp2
  go_ret
  exact ⟨rfl, HB1.out⟩
end Go.Proofs.YtehbmnkbmgnkfaaGreatDoor

/- The program's day is the document's: requests that come, answers that come back. -/
import Derived.Test.YtehbmnkbmgnkfaaGreatDoorB18
namespace Go.Proofs.YtehbmnkbmgnkfaaGreatDoor
open Go.RowKit

section
variable {f g : ByteArray → Hld}
theorem LonM.perm {ks ks' : List ByteArray} {x : ByteArray} (h : LonM f ks x) (hp : ks.Perm ks') (he : ∀ k, k ∈ ks → f k = g k) : LonM g ks' x := by
  refine ⟨hp.subset h.1, fun y hy => ?_⟩
  have hy' := hp.symm.subset hy
  have h2 := h.2 y hy'
  unfold lgB at h2 ⊢
  rw [← he y hy', ← he x h.1]
  exact h2
theorem totK_perm {ks ks' : List ByteArray} (hp : ks.Perm ks') : totK f ks = totK f ks' := by
  induction hp with
  | nil => rfl
  | cons x _ ih => show needA _ + _ = needA _ + _; rw [ih]
  | swap x y l => show needA _ + (needA _ + _) = needA _ + (needA _ + _); omega
  | trans _ _ h1 h2 => exact h1.trans h2
theorem totK_congr : ∀ {ks : List ByteArray}, (∀ k, k ∈ ks → f k = g k) → totK f ks = totK g ks
  | [], _ => rfl
  | k :: ks, h => by
    show needA _ + _ = needA _ + _
    rw [h k (List.mem_cons_self ..), totK_congr (ks := ks) fun k hk => h k (List.mem_cons_of_mem _ hk)]
theorem rmv_perm {ks ks' : List ByteArray} (k : ByteArray) (hp : ks.Perm ks') : (rmv k ks).Perm (rmv k ks') := hp.filter _
theorem evK_perm {ro nd : Int} : ∀ {n : Nat} {ks ks' : List ByteArray}, ks.Perm ks' → (∀ k, k ∈ ks → f k = g k) → (evK f ro nd n ks).Perm (evK g ro nd n ks')
  | 0, _, _, hp, _ => hp
  | n + 1, ks, ks', hp, he => by
    unfold evK
    rw [← totK_perm hp, ← totK_congr he]
    split
    · by_cases hne : ks = []
      · subst hne
        rw [hp.symm.eq_nil]
        have e : ∀ (f : ByteArray → Hld) k, evK f ro nd n (rmv k []) = [] := fun f k => evK_nil
        rw [e, e]
      · have hl := (lonK_ok f hne).perm hp he
        rw [← hl.eq]
        exact evK_perm (rmv_perm _ hp) fun k hk => he k (mem_rmv.1 hk).1
    · exact hp
theorem evK_nodup {ro nd : Int} : ∀ {n : Nat} {ks : List ByteArray}, ks.Nodup → (evK f ro nd n ks).Nodup
  | 0, _, h => h
  | n + 1, ks, h => by
    unfold evK
    split
    · exact evK_nodup (rmv_nodup h)
    · exact h
end
theorem onL_onH {ks : List ByteArray} {l : List Xh} (hp : (l.map Xh.ke).Perm ks) (k : ByteArray) : onL k ks = onH l k := by
  have h : onL k ks = true ↔ onH l k = true := by
    rw [onL_iff, onH_iff, ← hp.mem_iff, List.mem_map]
  cases h1 : onL k ks <;> cases h2 : onH l k
  · rfl
  · exact (Bool.noConfusion (h1.symm.trans (h.2 h2)))
  · exact (Bool.noConfusion (h2.symm.trans (h.1 h1)))
  · rfl
theorem HeldR.hm {ks : List ByteArray} {hm : ByteArray → Hld} {l : List Xh} (h : HeldR ks hm l) (hn : (l.map Xh.ke).Nodup) {k : ByteArray} (hk : onH l k = true) : hm k = hmOf l k := by
  obtain ⟨x, h1, rfl⟩ := onH_iff.1 hk
  rw [h.eq x h1, hmOf_in hn h1]
theorem HeldR.del {ks : List ByteArray} {hm : ByteArray → Hld} {l : List Xh} (h : HeldR ks hm l) (k : ByteArray) : HeldR (rmv k ks) hm (delH l k) :=
  ⟨by rw [delH_keys]; exact rmv_perm k h.pm, fun x hx => h.eq x (List.mem_filter.1 hx).1⟩
theorem HeldR.use {ks : List ByteArray} {hm : ByteArray → Hld} {l : List Xh} (h : HeldR ks hm l) (key : ByteArray) (no : Int) : HeldR ks (fun d => if d = key then ⟨(hm key).an, no⟩ else hm d) (useH l key no) := by
  refine ⟨by rw [useH_keys]; exact h.pm, fun x hx => ?_⟩
  obtain ⟨x0, g1, g2, g3, g4⟩ := useH_mem hx
  show (if x.ke = key then _ else _) = _
  have h0 := h.eq x0 g1
  rw [g2, g3, g4]
  split
  · rename_i e
    rw [← e, h0]
  · exact h0
theorem HeldR.put {ks : List ByteArray} {hm : ByteArray → Hld} {l : List Xh} (h : HeldR ks hm l) (hn : (l.map Xh.ke).Nodup) (key : ByteArray) (a : Ans) (no ro nd : Int) (n : Nat) (hl : ks.length ≤ n) :
    HeldR (key :: evK hm ro nd n (rmv key ks)) (fun d => if d = key then ⟨a, no⟩ else hm d) (evX (delH l key) ro nd ++ [⟨key, a, no⟩]) := by
  have hd := h.del key
  have hn1 : ((delH l key).map Xh.ke).Nodup := by rw [delH_keys]; exact rmv_nodup hn
  obtain ⟨l1, hl1⟩ : ∃ l1, l1 = delH l key := ⟨_, rfl⟩
  have hnk : ∀ x, x ∈ l1 → x.ke ≠ key := fun x hx e => by
    have := List.mem_map_of_mem (f := Xh.ke) hx
    rw [hl1, delH_keys, mem_rmv] at this
    exact this.2 e
  rw [← hl1] at hd hn1 ⊢
  have hf : ∀ k, k ∈ l1.map Xh.ke → hmOf l1 k = hm k := fun k hk => by
    obtain ⟨x, hx, rfl⟩ := List.mem_map.1 hk
    rw [hmOf_in hn1 hx, hd.eq x hx]
  have hp1 : ((evX l1 ro nd).map Xh.ke).Perm (evK (hmOf l1) ro nd l1.length (l1.map Xh.ke)) := by
    have e : (evX l1 ro nd).map Xh.ke = (l1.map Xh.ke).filter fun k => onL k (evK (hmOf l1) ro nd l1.length (l1.map Xh.ke)) := by
      unfold evX
      rw [List.filter_map]
      rfl
    rw [e]
    refine (List.perm_ext_iff_of_nodup (hn1.filter _) (evK_nodup hn1)).2 fun k => ?_
    rw [List.mem_filter, onL_iff]
    exact ⟨fun h => h.2, fun h => ⟨evK_sub h, h⟩⟩
  have hp2 : (evK (hmOf l1) ro nd l1.length (l1.map Xh.ke)).Perm (evK hm ro nd n (rmv key ks)) := by
    have hlen : l1.length ≤ n := by
      have := hd.pm.length_eq
      rw [List.length_map] at this
      rw [this]
      exact Nat.le_trans (rmv_len_le _ _) hl
    rw [evK_fuel (g := l1.length) (h := n) (by rw [List.length_map]; exact Nat.le_refl _) (by rw [List.length_map]; exact hlen)]
    exact evK_perm hd.pm hf
  refine ⟨?_, fun x hx => ?_⟩
  · rw [List.map_append]
    exact List.perm_append_comm.trans ((hp1.trans hp2).cons key)
  · show (if x.ke = key then _ else _) = _
    rcases List.mem_append.1 hx with hx | hx
    · rw [if_neg (hnk x (evX_sub hx))]
      exact hd.eq x (evX_sub hx)
    · simp only [List.mem_singleton] at hx
      subst hx
      rw [if_pos rfl]
section
variable {C : List Cch} {R : List Crl} {E : List Rel} {P : List Pur} {L : List Gt} {X : Xd} {D : Day} {pd : List Xw}
theorem find_filter {α : Type} (p q : α → Bool) : ∀ l : List α, (l.filter p).find? q = l.find? fun a => p a && q a
  | [] => rfl
  | a :: l => by
    rw [List.filter_cons, List.find?_cons]
    cases hp : p a
    · rw [if_neg (by simp)]
      simp [find_filter p q l]
    · rw [if_pos rfl, List.find?_cons]
      cases q a <;> simp [find_filter p q l]
theorem Sim.way (h : Sim C pd D X) {i : Nat} {s : Sto} (hs : s.ar = liveL X i) (key : ByteArray) (last : Int) : wayO D s.ar key last = X.wayX i key last := by
  unfold wayO Xd.wayX
  rw [hs]
  unfold liveL
  rw [find_filter]
  have : ∀ (l : List Nat), (∀ j, j ∈ l → j < X.ak.length) → l.find? (fun a => (decide ((X.K a).ca = i) && !(X.K a).dn) && wayB D key last a) = l.find? fun j => (decide ((X.K j).ca = i) && !(X.K j).dn) && (((X.K j).ke.toList == key.toList) && (!(X.K j).al && decide (last ≤ (X.K j).ma))) := by
    intro l hl
    induction l with
    | nil => rfl
    | cons a l ih =>
      rw [List.find?_cons, List.find?_cons, ih (fun j hj => hl j (List.mem_cons_of_mem _ hj))]
      unfold wayB
      rw [h.K (hl a (List.mem_cons_self ..))]
  exact this _ fun j hj => List.mem_range.1 hj
theorem Sim.keep (h : Sim C pd D X) (hx : XInv C P L pd X) {i : Nat} {s : Sto} (hs : D.st[i]? = some s) (key : ByteArray) (a : Ans) : Sim C pd (D.keepD R P i s key a) (X.keepX C R P i key a) := by
  have g := h.st i s hs
  have hn := (hx.held i).1
  have e1 : noKeep D R P s key a = X.noKX R P i key a := by
    unfold noKeep Xd.noKX rulO
    rw [onL_onH g.he.pm, h.no]
    cases ho : onH (X.H i) key
    · rfl
    · rw [g.he.hm hn ho]
  have e2 : s.ch.ro = (C.getD i default).ro := by rw [g.ch]
  unfold Day.keepD Xd.keepX
  rw [e1, e2]
  split
  · exact h
  · split
    · exact h.heS hx.le.1 hs (g.he.del key) D.pu
    · have hp := g.he.put hn key a D.no (C.getD i default).ro (needA a) s.ks.length (Nat.le_refl _)
      rw [h.no] at hp
      have := h.heS hx.le.1 hs hp (D.pu + 1)
      rw [← h.no] at this
      rw [← h.no]
      exact this
theorem Sim.gives {a : Ans} (hV : ∀ (i : Nat) (x : Cch), C[i]? = some x → 1 ≤ x.de ∧ x.de ≤ 100000) (ha : AnsOk a) : ∀ (ws : List Xw) (D : Day) (X : Xd), Sim C (ws ++ pd) D X → XInv C P L (ws ++ pd) X → (∀ w, w ∈ ws → ∀ j, w.ak = some j → X.no ≤ 1000000000000 + 100000 * (30 + ((X.K j).ca : Int))) →
    Sim C pd ((ws.map fun w => (⟨w.ge, w.ak⟩ : Wtr)).foldl (fun D f => D.giveD f a) D) (X.givesX C ws a)
  | [], D, X, h, _, _ => h
  | w :: ws, D, X, h, hx, hn => by
    have h1 := Sim.give (w := w) (a := a) h hx
    have x1 := XInv.give (w := w) (a := a) hx hV ha (hn w (List.mem_cons_self ..))
    refine Sim.gives hV ha ws _ _ h1 x1 fun v hv j hj => ?_
    rw [giveX_no, giveX_ca fun b hb => (hx.wk w (List.mem_cons_self ..) b hb).1]
    exact hn v (List.mem_cons_of_mem _ hv) j hj
theorem howD_give {f : Wtr} {o : Int} {x : Ans} : (D.giveD f x).howD f o = (D.howD f o).giveD f x := by
  unfold Day.howD Day.giveD
  cases f.ak with
  | some j => rfl
  | none =>
    show ({ D with go := (D.go.set f.ge (gotS (D.G f.ge) D.no x)).set f.ge { (D.go.set f.ge (gotS (D.G f.ge) D.no x)).getD f.ge default with ho := o } } : Day) = { D with go := (D.go.set f.ge { D.G f.ge with ho := o }).set f.ge (gotS ((D.go.set f.ge { D.G f.ge with ho := o }).getD f.ge default) D.no x) }
    rw [List.set_set, List.set_set]
    by_cases hg : f.ge < D.go.length
    · rw [G_set hg, G_set hg, if_pos rfl, if_pos rfl]
      rfl
    · rw [List.set_eq_of_length_le (by omega), List.set_eq_of_length_le (by omega)]
theorem howD_set {f : Wtr} {o : Int} {i : Nat} {s : Sto} : (D.setS i s).howD f o = (D.howD f o).setS i s := by
  unfold Day.howD
  cases f.ak <;> rfl
theorem howD_take {f : Wtr} {o : Int} {i : Nat} {s : Sto} {key : ByteArray} : (D.takeD i s key).howD f o = (D.howD f o).takeD i s key := by
  unfold Day.howD
  cases f.ak <;> rfl
theorem howD_ask {f : Wtr} {o : Int} {i : Nat} {s : Sto} {key : ByteArray} {k : Bool} : (D.askD i s key k).howD f o = (D.howD f o).askD i s key k := by
  unfold Day.howD
  cases f.ak <;> rfl
theorem howD_wait {f : Wtr} {o : Int} {j : Nat} {v : Wtr} : (D.waitD j v).howD f o = (D.howD f o).waitD j v := by
  unfold Day.howD
  cases f.ak <;> rfl
theorem howD_ak {f : Wtr} {o : Int} : (D.howD f o).ak = D.ak := by
  unfold Day.howD
  cases f.ak <;> rfl
theorem howD_st {f : Wtr} {o : Int} : (D.howD f o).st = D.st := by
  unfold Day.howD
  cases f.ak <;> rfl
theorem startX_one {i : Nat} {key : ByteArray} {al : Bool} {w : Xw} : X.startX C i key al [w] = (X.startX C i key al []).joinX X.ak.length w := by
  have e : (X.startX C i key al []).K X.ak.length = ⟨i, key, X.no, X.no + deO C i, false, false, 0, default, false, al, []⟩ := by
    show (X.ak ++ [_]).getD X.ak.length default = _
    rw [List.getD_eq_getElem?_getD, List.getElem?_append_right (Nat.le_refl _)]
    simp
  have e2 : ((X.startX C i key al []).ak).set X.ak.length ⟨i, key, X.no, X.no + deO C i, false, false, 0, default, false, al, [w]⟩ = X.ak ++ [⟨i, key, X.no, X.no + deO C i, false, false, 0, default, false, al, [w]⟩] := by
    show (X.ak ++ [_]).set _ _ = _
    rw [List.set_append_right _ _ (Nat.le_refl _)]
    simp
  unfold Xd.joinX
  rw [e]
  show _ = ({ X.startX C i key al [] with ak := ((X.startX C i key al []).ak).set X.ak.length ⟨i, key, X.no, X.no + deO C i, false, false, 0, default, false, al, [w]⟩ } : Xd)
  rw [e2]
  rfl
theorem giveX_wayX {w : Xw} {a : Ans} (hj : ∀ j, w.ak = some j → j < X.ak.length) (i : Nat) (key : ByteArray) (last : Int) : (X.giveX C w a).wayX i key last = X.wayX i key last := by
  unfold Xd.giveX
  cases hw : w.ak with
  | none => rfl
  | some j =>
    show (X.setA j { X.K j with kn := true, go := a, bk := X.no + deO C (X.K j).ca }).wayX i key last = _
    unfold Xd.wayX
    rw [setA_len]
    congr 1
    funext b
    rw [Xd.setA_K (hj j hw)]
    split
    · rename_i e; rw [e]
    · rfl
theorem give_start {w : Xw} {a : Ans} {i : Nat} {key : ByteArray} {al : Bool} (hj : ∀ j, w.ak = some j → j < X.ak.length) : (X.giveX C w a).startX C i key al [] = (X.startX C i key al []).giveX C w a := by
  unfold Xd.giveX
  cases hw : w.ak with
  | none => rfl
  | some j =>
    have h := hj j hw
    have e : (X.startX C i key al []).K j = X.K j := by
      show (X.ak ++ [_]).getD j default = _
      rw [List.getD_eq_getElem?_getD, List.getElem?_append_left h, ← List.getD_eq_getElem?_getD]
      rfl
    show (X.setA j { X.K j with kn := true, go := a, bk := X.no + deO C (X.K j).ca }).startX C i key al [] = (X.startX C i key al []).setA j { (X.startX C i key al []).K j with kn := true, go := a, bk := X.no + deO C ((X.startX C i key al []).K j).ca }
    rw [e]
    unfold Xd.startX Xd.setA Xd.setL
    dsimp only
    rw [List.set_append_left _ _ h]
    rfl
theorem howD_more {f : Wtr} {o : Int} {i : Nat} {key : ByteArray} {last : Int} : (D.moreD i key last).howD f o = (D.howD f o).moreD i key last := by
  have e1 : (D.howD f o).S i = D.S i := by
    show (D.howD f o).st.getD i default = _
    rw [howD_st]; rfl
  have e2 : wayO (D.howD f o) (D.S i).ar key last = wayO D (D.S i).ar key last := by
    unfold wayO
    congr 1
    funext j
    unfold wayB Day.K
    rw [howD_ak]
  unfold Day.moreD
  rw [e1, e2]
  split
  · rfl
  · exact howD_ask
theorem untM_le {r : Crl} {x : Ans} (h : 0 ≤ r.st) : untM r x false ≤ untM r x true := by
  unfold untM
  split
  · exact Int.le_refl _
  · simp; omega
/-- A request comes. -/
theorem Sim.come {i : Nat} {key : ByteArray} {ge : Nat} {ak : Option Nat} {ho : Int} (h : Sim C pd D X) (hx : XInv C P L (⟨ge, ak, ho⟩ :: pd) X) (hi : i < C.length) (hR : ∀ x, x ∈ R → (0 ≤ x.li ∧ x.li ≤ 1000000000) ∧ (0 ≤ x.st ∧ x.st ≤ 1000000000) ∧ (0 ≤ x.go ∧ x.go ≤ 1000000000)) :
    Sim C pd (D.cameD R P i (D.S i) key ⟨ge, ak⟩) (X.comeX C R P i key ge ak) := by
  obtain ⟨hs, g⟩ := h.at_ hi
  obtain ⟨s, hsd⟩ : ∃ s, s = D.S i := ⟨_, rfl⟩
  rw [← hsd] at hs g ⊢
  have hn := (hx.held i).1
  have hle := hx.le
  -- the one who waits, answered so
  have HW : ∀ o : Int, Sim C (⟨ge, ak, o⟩ :: pd) (D.howD ⟨ge, ak⟩ o) X := fun o => Sim.how (w := ⟨ge, ak, o⟩) h fun ha => by
    have ha' : ak = none := ha
    refine ⟨?_, fun v hv hv2 e => ?_⟩
    · have h1 := hx.wg _ (List.mem_cons_self ..) ha
      have h1' : ge < X.nx := h1
      show ge < D.go.length
      rw [h.gl]; omega
    · have hd := (List.pairwise_cons.1 hx.wu).1 v hv
      unfold Dif at hd
      rcases hd with hd | hd
      · exact hd (by rw [hv2]; exact ha')
      · exact hd.2 e.symm
  have hso : ∀ o, (D.howD ⟨ge, ak⟩ o).st[i]? = some s := fun o => by rw [howD_st]; exact hs
  have hil : i < D.st.length := (List.getElem?_eq_some_iff.1 hs).1
  have hset : ∀ (D' : Day) (t : Sto), i < D'.st.length → (D'.setS i t).st[i]? = some t := fun D' t hl => by show (D'.st.set i t)[i]? = _; rw [List.getElem?_set_self hl]
  have hlo : ∀ o, i < (D.howD ⟨ge, ak⟩ o).st.length := fun o => by rw [howD_st]; exact hil
  have e0 : onL key s.ks = onH (X.H i) key := onL_onH g.he.pm key
  have eA : onH (X.H i) key = true → s.hm key = hmOf (X.H i) key := g.he.hm hn
  have eN : s.ch.na = (C.getD i default).na := by rw [g.ch]
  -- a new ask, with who waits
  have NEW : ∀ (kp : Bool), Sim C pd (D.newD i s key kp ⟨ge, ak⟩) ((X.setL i ldCa).startX C i key (!kp) [⟨ge, ak, 3⟩]) := fun kp => by
    have h1 : Sim C (⟨ge, ak, 3⟩ :: pd) ((D.howD ⟨ge, ak⟩ 3).setS i (incCa s)) (X.setL i ldCa) := (HW 3).setL hle.2.1 (hso 3) ldCa
    have h2 := h1.ask (al := !kp) (key := key) (hx.ld i ldCa).le.2.1 (hset _ (incCa s) (hlo 3))
    rw [Bool.not_not] at h2
    have hl2 : ((X.setL i ldCa).startX C i key (!kp) []).ak.length = X.ak.length + 1 := by show (X.ak ++ [_]).length = _; simp
    have h3 := Sim.join (w := ⟨ge, ak, 3⟩) (j := X.ak.length) h2 (by rw [hl2]; exact Nat.lt_succ_self _) (by
      show ((X.ak ++ [_]).getD X.ak.length default).dn = false
      rw [List.getD_eq_getElem?_getD, List.getElem?_append_right (Nat.le_refl _)]
      simp)
    rw [startX_one]
    have e : D.newD i s key kp ⟨ge, ak⟩ = (((D.howD ⟨ge, ak⟩ 3).setS i (incCa s)).askD i (incCa s) key kp).waitD X.ak.length ⟨ge, ak⟩ := by
      unfold Day.newD
      rw [howD_wait, howD_ask, howD_set, h.akl]
    rw [e]
    exact h3
  -- the cache gives
  have GIV : ∀ (fD : Sto → Sto) (fX : Ldd → Ldd) (o : Int), (∀ t : Sto, fD t = { t with ld := fX t.ld }) → onH (X.H i) key = true → Sim C (⟨ge, ak, o⟩ :: pd) (((D.howD ⟨ge, ak⟩ o).setS i (fD (incCa s))).takeD i (fD (incCa s)) key) (((X.setL i ldCa).setL i fX).setH i (useH (X.H i) key X.no)) := fun fD fX o hf ho => by
    have h1 : Sim C (⟨ge, ak, o⟩ :: pd) ((D.howD ⟨ge, ak⟩ o).setS i (incCa s)) (X.setL i ldCa) := (HW o).setL hle.2.1 (hso o) ldCa
    have h2 := h1.setL (hx.ld i ldCa).le.2.1 (hset _ (incCa s) (hlo o)) fX
    rw [← hf, setS_setS] at h2
    have hs2 := hset (D.howD ⟨ge, ak⟩ o) (fD (incCa s)) (hlo o)
    have g2 := h2.st i _ hs2
    have hno2 : ((D.howD ⟨ge, ak⟩ o).setS i (fD (incCa s))).no = X.no := h2.no
    have h3 := h2.heS (ks := (fD (incCa s)).ks) ((hx.ld i ldCa).ld i fX).le.1 hs2 (g2.he.use key X.no) (((D.howD ⟨ge, ak⟩ o).setS i (fD (incCa s))).pu + 1)
    have e : ((D.howD ⟨ge, ak⟩ o).setS i (fD (incCa s))).takeD i (fD (incCa s)) key = { (D.howD ⟨ge, ak⟩ o).setS i (fD (incCa s)) with st := ((D.howD ⟨ge, ak⟩ o).setS i (fD (incCa s))).st.set i { fD (incCa s) with ks := (fD (incCa s)).ks, hm := fun d => if d = key then ⟨((fD (incCa s)).hm key).an, X.no⟩ else (fD (incCa s)).hm d }, pu := ((D.howD ⟨ge, ak⟩ o).setS i (fD (incCa s))).pu + 1 } := by
      unfold Day.takeD takeS
      rw [← hno2]
    rw [e]
    exact h3
  have GIVX : ∀ (fX : Ldd → Ldd) (o : Int), XInv C P L (⟨ge, ak, o⟩ :: pd) (((X.setL i ldCa).setL i fX).setH i (useH (X.H i) key X.no)) := fun fX o =>
    XInv.heS (XInv.ho (w := ⟨ge, ak, ho⟩) ((hx.ld i ldCa).ld i fX) o) i _ ⟨by rw [useH_keys]; exact (hx.held i).1, fun x hx2 => by
      obtain ⟨x0, g1, g2, g3, _⟩ := useH_mem hx2
      rw [g2, g3]
      exact (hx.held i).2 x0 g1⟩
  unfold Day.cameD Xd.comeX rulO
  by_cases hr : (ruI R key R.length).isSome = false
  · rw [if_pos hr, if_pos hr]
    exact NEW false
  rw [if_neg hr, if_neg hr, e0]
  have REST : Sim C pd (match wayO D s.ar key (purM P key D.no) with
      | some j => D.joinD i s j ⟨ge, ak⟩
      | none => D.newD i s key true ⟨ge, ak⟩) (match X.wayX i key (purM P key X.no) with
      | some j => ((X.setL i ldCa).setL i ldWt).joinX j ⟨ge, ak, 4⟩
      | none => (X.setL i ldCa).startX C i key false [⟨ge, ak, 3⟩]) := by
    rw [h.way g.ar, h.no]
    cases hw : X.wayX i key (purM P key X.no) with
    | none => exact NEW true
    | some j =>
      obtain ⟨w1, w2, w3, -, -, -⟩ := wayX_some hw
      have h1 : Sim C (⟨ge, ak, 4⟩ :: pd) ((D.howD ⟨ge, ak⟩ 4).setS i (incCa s)) (X.setL i ldCa) := (HW 4).setL hle.2.1 (hso 4) ldCa
      have h2 := h1.setL (hx.ld i ldCa).le.2.1 (hset _ (incCa s) (hlo 4)) ldWt
      rw [setS_setS] at h2
      have h3 := Sim.join (w := ⟨ge, ak, 4⟩) (j := j) h2 w1 w3
      have e : D.joinD i s j ⟨ge, ak⟩ = ((D.howD ⟨ge, ak⟩ 4).setS i (incWt (incCa s))).waitD j ⟨ge, ak⟩ := by
        unfold Day.joinD
        rw [howD_wait, howD_set]
      show Sim C pd (D.joinD i s j ⟨ge, ak⟩) _
      rw [e]
      exact h3
  by_cases ho : onH (X.H i) key = true
  case neg =>
    rw [if_neg (fun e => ho e.1), if_neg (fun e => ho e.1), if_neg (fun e => ho e.1)]
    exact REST
  have eM := eA ho
  have tA : tookA s key = { (hmOf (X.H i) key).an with fr := (C.getD i default).na } := by
    unfold tookA
    rw [eM, eN]
  have hrs := (outU_ok hR (ruI R key R.length)).2.1.1
  have eD : D.no = X.no := h.no
  by_cases hf : X.no < untM (outU R (ruI R key R.length)) (hmOf (X.H i) key).an false
  · have hu : X.no < untM (outU R (ruI R key R.length)) (hmOf (X.H i) key).an true := Int.lt_of_lt_of_le hf (untM_le hrs)
    rw [if_pos ⟨ho, by rw [eM, eD]; exact hf⟩, if_pos ⟨ho, hu⟩, if_pos hf]
    have e : D.freshD i s key ⟨ge, ak⟩ = ((((D.howD ⟨ge, ak⟩ 1).setS i (incFr (incCa s))).takeD i (incFr (incCa s)) key).giveD ⟨ge, ak⟩ { (hmOf (X.H i) key).an with fr := (C.getD i default).na }) := by
      unfold Day.freshD
      rw [howD_give, howD_take, howD_set, tA]
    rw [e]
    exact Sim.give (w := ⟨ge, ak, 1⟩) (GIV incFr ldFr 1 (fun t => rfl) ho) (GIVX ldFr 1)
  · rw [if_neg (fun e => hf (by rw [← eM, ← eD]; exact e.2))]
    by_cases hu : X.no < untM (outU R (ruI R key R.length)) (hmOf (X.H i) key).an true
    · rw [if_pos ⟨ho, by rw [eM, eD]; exact hu⟩, if_pos ⟨ho, hu⟩, if_neg hf, eD]
      have hjl : ∀ j, ak = some j → j < X.ak.length := fun j hj => (hx.wk _ (List.mem_cons_self ..) j hj).1
      have h1 := Sim.give (w := ⟨ge, ak, 2⟩) (a := { (hmOf (X.H i) key).an with fr := (C.getD i default).na }) (GIV incSl ldSl 2 (fun t => rfl) ho) (GIVX ldSl 2)
      have e : ((D.staleG i s key ⟨ge, ak⟩).moreD i key (purM P key X.no)).howD ⟨ge, ak⟩ 2 = ((((D.howD ⟨ge, ak⟩ 2).setS i (incSl (incCa s))).takeD i (incSl (incCa s)) key).giveD ⟨ge, ak⟩ { (hmOf (X.H i) key).an with fr := (C.getD i default).na }).moreD i key (purM P key X.no) := by
        unfold Day.staleG
        rw [howD_more, howD_give, howD_take, howD_set, tA]
      rw [e]
      obtain ⟨X1, hX1⟩ : ∃ X1, X1 = ((X.setL i ldCa).setL i ldSl).setH i (useH (X.H i) key X.no) := ⟨_, rfl⟩
      have hX1a : X1.ak = X.ak := by rw [hX1]; rfl
      have hX1l : X1.ld.length = C.length := by rw [hX1]; exact ((hx.ld i ldCa).ld i ldSl).le.2.1
      rw [← hX1] at h1 ⊢
      obtain ⟨D2, hD2⟩ : ∃ D2, D2 = (((D.howD ⟨ge, ak⟩ 2).setS i (incSl (incCa s))).takeD i (incSl (incCa s)) key).giveD ⟨ge, ak⟩ { (hmOf (X.H i) key).an with fr := (C.getD i default).na } := ⟨_, rfl⟩
      rw [← hD2] at h1 ⊢
      obtain ⟨hs2, g2⟩ := h1.at_ hi
      have ew : wayO D2 (D2.S i).ar key (purM P key X.no) = X.wayX i key (purM P key X.no) := by
        rw [h1.way g2.ar, giveX_wayX (w := ⟨ge, ak, 2⟩) fun j hj => by rw [hX1a]; exact hjl j hj]
        unfold Xd.wayX Xd.K
        rw [hX1a]
      unfold Day.moreD
      rw [ew]
      cases X.wayX i key (purM P key X.no) with
      | some j => exact h1
      | none =>
        show Sim C pd (D2.askD i (D2.S i) key true) _
        rw [← give_start (w := ⟨ge, ak, 2⟩) fun j hj => by rw [hX1a]; exact hjl j hj]
        refine h1.ask (al := false) ?_ hs2
        unfold Xd.giveX
        cases ak with
        | none => exact hX1l
        | some j => exact hX1l
    · rw [if_neg (fun e => hu (by rw [← eM, ← eD]; exact e.2)), if_neg (fun e => hu e.2)]
      exact REST
end
end Go.Proofs.YtehbmnkbmgnkfaaGreatDoor

/- The program's day is the document's: each step. -/
namespace Go.Proofs.YtehbmnkbmgnkfaaGreatDoor
open Go.RowKit

section
variable {C : List Cch} {R : List Crl} {E : List Rel} {P : List Pur} {L : List Gt} {X : Xd} {D : Day} {pd : List Xw}
theorem Sim.mem_pop (h : Sim C pd D X) (hq : 0 < D.qu.length) (e : Evn) : e ∈ (hpop (bfr D.K) D.qu).2 ↔ e ∈ D.qu ∧ e ≠ hdE D := by
  have hne := List.length_pos_iff.1 hq
  have hp := hpop_perm (lt := bfr D.K) hne
  rw [hpop_fst hne] at hp
  have hn : (hat D.qu 0 :: (hpop (bfr D.K) D.qu).2).Nodup := hp.nodup_iff.2 h.nd
  have hm : e ∈ hat D.qu 0 :: (hpop (bfr D.K) D.qu).2 ↔ e ∈ D.qu := hp.mem_iff
  rw [List.mem_cons] at hm
  obtain ⟨h1, _⟩ := List.nodup_cons.1 hn
  constructor
  · exact fun he => ⟨hm.1 (.inr he), fun e0 => h1 (by rw [e0] at he; exact he)⟩
  · rintro ⟨h2, h3⟩
    exact (hm.2 h2).resolve_left h3
theorem Sim.pop_nd (h : Sim C pd D X) (hq : 0 < D.qu.length) : (hpop (bfr D.K) D.qu).2.Nodup := by
  have hne := List.length_pos_iff.1 hq
  have hp := hpop_perm (lt := bfr D.K) hne
  exact (List.nodup_cons.1 (hp.nodup_iff.2 h.nd)).2
/-- An ask is done: its answer has come back. -/
theorem Sim.done (h : Sim C pd D X) (hx : XInv C P L pd X) (hq : 0 < D.qu.length) (hb : (hdE D).bk = true) :
    Sim C ((X.K (hdE D).ak).ws ++ pd) (D.popD.setS (D.K (hdE D).ak).ca (doneS (D.S (D.K (hdE D).ak).ca) (hdE D).ak (hdE D).an.si)) (X.doneX (hdE D).ak) ∧ (hdE D).an = (X.K (hdE D).ak).go := by
  obtain ⟨e, he⟩ : ∃ e, e = hdE D := ⟨_, rfl⟩
  have hmem : e ∈ D.qu := by rw [he]; exact hdE_mem hq
  rw [← he] at hb ⊢
  obtain ⟨j, hj0⟩ : ∃ j, j = e.ak := ⟨_, rfl⟩
  rw [← hj0]
  obtain ⟨k, hk, hh⟩ := (h.ev e).1 hmem
  rw [← hj0] at hk
  have hkK := Xd.K_eq hk
  have hj : j < X.ak.length := (List.getElem?_eq_some_iff.1 hk).1
  rcases hh with ⟨g1, _⟩ | ⟨_, hkn, hd, hti, han⟩
  · rw [hb] at g1; cases g1
  rw [← hkK] at hk hkn hd hti han
  refine ⟨?_, han⟩
  have hcm := (hx.kk j _ hk).2.2.1 hkn
  have hci : (X.K j).ca < C.length := (hx.kk j _ hk).1
  obtain ⟨hs, g⟩ := h.at_ hci
  rw [(h.Kck j).1, han]
  have hil : (X.K j).ca < X.ld.length := by rw [hx.le.2.1]; exact hci
  have hpm : (((X.K j).ws ++ pd) ++ waitsX (X.setA j { X.K j with dn := true })).Perm (pd ++ waitsX X) := by
    have h1 := waits_set (k' := { X.K j with dn := true }) hk
    have e1 : wsOf (X.K j) = (X.K j).ws := if_neg (by simp [hd])
    have e2 : wsOf { X.K j with dn := true } = [] := if_pos rfl
    rw [e1, e2, List.nil_append] at h1
    refine (List.Perm.append_right _ List.perm_append_comm).trans ?_
    rw [List.append_assoc]
    exact List.Perm.append_left pd h1
  have hlive : ∀ b, liveL (X.setA j { X.K j with dn := true }) b = if b = (X.K j).ca then (liveL X b).filter fun o => !decide (o = j) else liveL X b := fun b => by
    unfold liveL
    rw [setA_len]
    by_cases eb : b = (X.K j).ca
    · rw [if_pos eb, List.filter_filter]
      refine List.filter_congr fun c _ => ?_
      rw [Xd.setA_K hj]
      by_cases ec : c = j
      · rw [if_pos ec, ec]; simp
      · rw [if_neg ec]; simp [ec]
    · rw [if_neg eb]
      refine List.filter_congr fun c _ => ?_
      rw [Xd.setA_K hj]
      by_cases ec : c = j
      · rw [if_pos ec, ec]
        simp [Ne.symm eb]
      · rw [if_neg ec]
  have hL : ∀ b, (X.doneX j).Ld b = if b = (X.K j).ca then ldBs (X.K j).go.si (X.Ld (X.K j).ca) else X.Ld b := fun b => Ld_setL (X := X.setA j { X.K j with dn := true }) hil
  exact {
    len := by show (D.st.set _ _).length = _; rw [List.length_set]; exact h.len
    st := fun b t ht => by
      rcases set_at ht with ⟨rfl, rfl⟩ | ⟨hne, ht⟩
      · refine ⟨g.ch, g.pa, ?_, ?_, g.he⟩
        · rw [hL, if_pos rfl, ← g.ld]; rfl
        · show (D.S (X.K j).ca).ar.filter _ = liveL (X.setA j { X.K j with dn := true }) (X.K j).ca
          rw [hlive, if_pos rfl, ← g.ar]
      · have g2 := h.st b t ht
        refine ⟨g2.ch, g2.pa, ?_, ?_, g2.he⟩
        · rw [hL, if_neg hne]; exact g2.ld
        · show t.ar = liveL (X.setA j { X.K j with dn := true }) b
          rw [hlive, if_neg hne]; exact g2.ar
    ak := by
      show D.ak = (X.ak.set j _).map _
      rw [map_set_same (k' := { X.K j with dn := true }) hk rfl, ← h.ak]
    wa := fun b hbl => by
      have hbl' : b < X.ak.length := by
        have : b < (X.setA j { X.K j with dn := true }).ak.length := hbl
        rw [setA_len] at this; exact this
      show D.wa b = ((X.setA j { X.K j with dn := true }).K b).ws.map _
      rw [h.wa b hbl', Xd.setA_K hj]
      split
      · rename_i e; rw [e]
      · rfl
    ev := fun e' => by
      show e' ∈ (hpop (bfr D.K) D.qu).2 ↔ _
      rw [h.mem_pop hq, h.ev, ← he]
      unfold IsEv
      constructor
      · rintro ⟨⟨k', hk', hh'⟩, hne⟩
        by_cases ej : e'.ak = j
        · exfalso
          rw [ej, hk] at hk'
          cases hk'
          rcases hh' with ⟨_, g2, _⟩ | ⟨g1, g2, g3, g4, g5⟩
          · rw [hcm] at g2; cases g2
          · apply hne
            obtain ⟨t1, b1, q1, a1⟩ := e
            obtain ⟨t2, b2, q2, a2⟩ := e'
            dsimp only at *
            subst hb g1 hti g4 han g5 hj0 ej
            rfl
        · exact ⟨k', by show (X.ak.set j _)[e'.ak]? = _; rw [List.getElem?_set_ne (Ne.symm ej)]; exact hk', hh'⟩
      · rintro ⟨k', hk', hh'⟩
        rcases setA_at hk' with ⟨ej, rfl⟩ | ⟨ej, hk'⟩
        · rcases hh' with ⟨_, g2, _⟩ | ⟨_, _, g3, _⟩
          · have g2' : (X.K j).cm = false := g2
            rw [hcm] at g2'; cases g2'
          · cases g3
        · exact ⟨⟨k', hk', hh'⟩, fun e0 => ej (by rw [e0, hj0])⟩
    nd := h.pop_nd hq
    hp := hpop_heap (bfr_ord _) h.hp (List.length_pos_iff.1 hq)
    no := h.no
    gl := h.gl
    g1 := fun v hv => h.g1 v (hpm.subset hv)
    g2 := fun g hg => h.g2 g fun v hv => hg v (hpm.symm.subset hv) }
/-- An ask has come to its parent. -/
theorem Sim.camed (h : Sim C pd D X) (hx : XInv C P L pd X) (hq : 0 < D.qu.length) (hb : (hdE D).bk = false) : Sim C pd D.popD (X.cameX (hdE D).ak) := by
  obtain ⟨e, he⟩ : ∃ e, e = hdE D := ⟨_, rfl⟩
  have hmem : e ∈ D.qu := by rw [he]; exact hdE_mem hq
  rw [← he] at hb ⊢
  obtain ⟨j, hj0⟩ : ∃ j, j = e.ak := ⟨_, rfl⟩
  rw [← hj0]
  obtain ⟨k, hk, hh⟩ := (h.ev e).1 hmem
  rw [← hj0] at hk
  have hkK := Xd.K_eq hk
  have hj : j < X.ak.length := (List.getElem?_eq_some_iff.1 hk).1
  rcases hh with ⟨_, hcm, hti, han⟩ | ⟨g1, _⟩
  case inr => rw [hb] at g1; cases g1
  rw [← hkK] at hk hcm hti
  have hkn : (X.K j).kn = false := by
    cases e0 : (X.K j).kn
    · rfl
    · have := (hx.kk j _ hk).2.2.1 e0; rw [hcm] at this; cases this
  have hpm := waits_same (k' := { X.K j with cm := true }) hk rfl
  show Sim C pd D.popD (X.setA j { X.K j with cm := true })
  exact {
    len := h.len
    st := fun b t ht => by
      have g := h.st b t ht
      exact ⟨g.ch, g.pa, g.ld, by rw [liveL_setA (k' := { X.K j with cm := true }) hj rfl rfl]; exact g.ar, g.he⟩
    ak := by
      show D.ak = (X.ak.set j _).map _
      rw [map_set_same (k' := { X.K j with cm := true }) hk rfl, ← h.ak]
    wa := fun b hbl => by
      rw [setA_len] at hbl
      show D.wa b = _
      rw [h.wa b hbl, Xd.setA_K hj]
      split
      · rename_i e; rw [e]
      · rfl
    ev := fun e' => by
      show e' ∈ (hpop (bfr D.K) D.qu).2 ↔ _
      rw [h.mem_pop hq, h.ev, ← he]
      unfold IsEv
      constructor
      · rintro ⟨⟨k', hk', hh'⟩, hne⟩
        by_cases ej : e'.ak = j
        · exfalso
          rw [ej, hk] at hk'
          cases hk'
          rcases hh' with ⟨g1, g2, g4, g5⟩ | ⟨_, g2, _⟩
          · apply hne
            obtain ⟨t1, b1, q1, a1⟩ := e
            obtain ⟨t2, b2, q2, a2⟩ := e'
            dsimp only at *
            subst hb g1 hti g4 han g5 hj0 ej
            rfl
          · rw [hkn] at g2; cases g2
        · exact ⟨k', by show (X.ak.set j _)[e'.ak]? = _; rw [List.getElem?_set_ne (Ne.symm ej)]; exact hk', hh'⟩
      · rintro ⟨k', hk', hh'⟩
        rcases setA_at hk' with ⟨ej, rfl⟩ | ⟨ej, hk'⟩
        · rcases hh' with ⟨_, g2, _⟩ | ⟨_, g2, _⟩
          · cases g2
          · have g2' : (X.K j).kn = true := g2
            rw [hkn] at g2'; cases g2'
        · exact ⟨⟨k', hk', hh'⟩, fun e0 => ej (by rw [e0, hj0])⟩
    nd := h.pop_nd hq
    hp := hpop_heap (bfr_ord _) h.hp (List.length_pos_iff.1 hq)
    no := h.no
    gl := h.gl
    g1 := fun v hv => h.g1 v ((hpm.append_left pd).subset hv)
    g2 := fun g hg => h.g2 g fun v hv => hg v ((hpm.append_left pd).symm.subset hv) }
theorem Sim.purge (h : Sim C pd D X) (key : ByteArray) : Sim C pd (D.purD key) (X.purX key) :=
  { h with
    len := by show (D.st.map _).length = _; rw [List.length_map]; exact h.len
    st := fun i t ht => by
      have ht' : (D.st.map fun s => { s with ks := rmv key s.ks })[i]? = some t := ht
      rw [List.getElem?_map] at ht'
      cases hs : D.st[i]? with
      | none => rw [hs] at ht'; cases ht'
      | some s =>
        rw [hs] at ht'
        cases ht'
        have g := h.st i s hs
        refine ⟨g.ch, g.pa, g.ld, g.ar, ?_⟩
        have e : (X.purX key).H i = delH (X.H i) key := by
          show (X.he.map fun l => delH l key).getD i [] = _
          rw [List.getD_eq_getElem?_getD, List.getElem?_map]
          unfold Xd.H
          rw [List.getD_eq_getElem?_getD]
          cases X.he[i]? <;> rfl
        rw [e]
        exact g.he.del key }
theorem Sim.now (h : Sim C pd D X) (t : Int) : Sim C pd (D.nowD t) { X with no := t } :=
  { h with
    no := rfl
    st := fun i s hs => by
      have g := h.st i s hs
      exact ⟨g.ch, g.pa, g.ld, g.ar, g.he⟩ }
/-- Is it the first of those that come back? -/
theorem Sim.firstB (h : Sim C pd D X) (hx : XInv C P L pd X) : (∀ (_ : 0 < D.qu.length ∧ (hdE D).ti = D.no ∧ (hdE D).bk = true), X.nextB = some (hdE D).ak) ∧ (¬ (0 < D.qu.length ∧ (hdE D).ti = D.no ∧ (hdE D).bk = true) → X.nextB = none) := by
  have key : ∀ j, X.nextB = some j → 0 < D.qu.length ∧ (hdE D).ti = D.no ∧ (hdE D).bk = true ∧ (hdE D).ak = j := fun j hj => by
    obtain ⟨⟨g1, g2, g3, g4⟩, g5⟩ := nextB_some hj
    have hm : (⟨(X.K j).bk, true, j, (X.K j).go⟩ : Evn) ∈ D.qu := (h.ev _).2 ⟨X.K j, Xd.at_ g1, .inr ⟨rfl, g2, g3, rfl, rfl⟩⟩
    have hq : 0 < D.qu.length := List.length_pos_iff.2 (List.ne_nil_of_mem hm)
    have hl := heap_least (bfr_ord D.K) h.hp hm
    obtain ⟨k, hk, hh⟩ := (h.ev _).1 (hdE_mem hq)
    have hK := Xd.K_eq hk
    have hle : (hdE D).ti ≤ X.no := by
      rw [← g4]
      have hl' : bfr D.K ⟨(X.K j).bk, true, j, (X.K j).go⟩ (hdE D) = false := hl
      unfold bfr at hl'
      dsimp only at hl'
      by_cases e : (X.K j).bk = (hdE D).ti
      · omega
      · rw [if_pos e] at hl'
        simp at hl'
        exact hl'
    have hge : X.no ≤ (hdE D).ti := by
      have t := hx.tm _ k hk
      rcases hh with ⟨_, a2, a3, _⟩ | ⟨_, a2, a3, a4, _⟩
      · rw [a3]; exact (t.2.1 a2).1
      · rw [a4]; exact (t.2.2 a2 a3).1
    have hti : (hdE D).ti = X.no := by omega
    have hbk : (hdE D).bk = true := by
      cases hb : (hdE D).bk
      · exfalso
        have hl' : bfr D.K ⟨(X.K j).bk, true, j, (X.K j).go⟩ (hdE D) = false := hl
        unfold bfr at hl'
        dsimp only at hl'
        rw [if_neg (by rw [hti, g4]; simp), hb] at hl'
        simp at hl'
      · rfl
    refine ⟨hq, by rw [h.no]; exact hti, hbk, ?_⟩
    have hl1 : akLt X j (hdE D).ak = false := by
      have := akLt_bfr (X := X) (e := ⟨(X.K j).bk, true, j, (X.K j).go⟩) (o := hdE D) h.Kck (by rw [hti]; exact g4) hbk.symm
      rw [← this]; exact hl
    have hl2 : akLt X (hdE D).ak j = false := by
      refine g5 _ (List.getElem?_eq_some_iff.1 hk).1 ?_ ?_ ?_ <;> rw [hK]
      · rcases hh with ⟨a1, _⟩ | ⟨_, a2, _⟩
        · rw [hbk] at a1; cases a1
        · exact a2
      · rcases hh with ⟨a1, _⟩ | ⟨_, _, a3, _⟩
        · rw [hbk] at a1; cases a1
        · exact a3
      · rcases hh with ⟨a1, _⟩ | ⟨_, _, _, a4, _⟩
        · rw [hbk] at a1; cases a1
        · rw [← a4]; exact hti
    exact (akLt_ord X).2.2.2 _ _ hl2 hl1
  constructor
  · rintro ⟨hq, hti, hbk⟩
    cases hn : X.nextB with
    | some j => rw [(key j hn).2.2.2]
    | none =>
      exfalso
      obtain ⟨k, hk, hh⟩ := (h.ev _).1 (hdE_mem hq)
      have hK := Xd.K_eq hk
      rcases hh with ⟨a1, _⟩ | ⟨_, a2, a3, a4, _⟩
      · rw [hbk] at a1; cases a1
      · refine nextB_none hn _ (List.getElem?_eq_some_iff.1 hk).1 ?_ ?_ ?_ <;> rw [hK]
        · exact a2
        · exact a3
        · rw [← a4, hti, h.no]
  · intro hn
    cases hb : X.nextB with
    | none => rfl
    | some j =>
      obtain ⟨g1, g2, g3, _⟩ := key j hb
      exact absurd ⟨g1, g2, g3⟩ hn
/-- Is it the first of those that arrive? Nothing comes back any more. -/
theorem Sim.firstA (h : Sim C pd D X) (hx : XInv C P L pd X) (hb : X.nextB = none) : (∀ (_ : 0 < D.qu.length ∧ (hdE D).ti = D.no), X.nextA = some (hdE D).ak ∧ (hdE D).bk = false) ∧ (¬ (0 < D.qu.length ∧ (hdE D).ti = D.no) → X.nextA = none) := by
  have hnb : 0 < D.qu.length → (hdE D).ti = D.no → (hdE D).bk = false := fun hq hti => by
    cases hbk : (hdE D).bk
    · rfl
    · have := (h.firstB hx).1 ⟨hq, hti, hbk⟩
      rw [hb] at this; cases this
  have key : ∀ j, X.nextA = some j → 0 < D.qu.length ∧ (hdE D).ti = D.no ∧ (hdE D).ak = j := fun j hj => by
    obtain ⟨⟨g1, g2, g3⟩, g5⟩ := nextA_some hj
    have hm : (⟨(X.K j).ar, false, j, ⟨0, 0, 0, false, ⟨#[]⟩⟩⟩ : Evn) ∈ D.qu := (h.ev _).2 ⟨X.K j, Xd.at_ g1, .inl ⟨rfl, g2, rfl, rfl⟩⟩
    have hq : 0 < D.qu.length := List.length_pos_iff.2 (List.ne_nil_of_mem hm)
    have hl := heap_least (bfr_ord D.K) h.hp hm
    obtain ⟨k, hk, hh⟩ := (h.ev _).1 (hdE_mem hq)
    have hK := Xd.K_eq hk
    have hle : (hdE D).ti ≤ X.no := by
      rw [← g3]
      have hl' : bfr D.K ⟨(X.K j).ar, false, j, ⟨0, 0, 0, false, ⟨#[]⟩⟩⟩ (hdE D) = false := hl
      unfold bfr at hl'
      dsimp only at hl'
      by_cases e : (X.K j).ar = (hdE D).ti
      · omega
      · rw [if_pos e] at hl'
        simp at hl'
        exact hl'
    have hge : X.no ≤ (hdE D).ti := by
      have t := hx.tm _ k hk
      rcases hh with ⟨_, a2, a3, _⟩ | ⟨_, a2, a3, a4, _⟩
      · rw [a3]; exact (t.2.1 a2).1
      · rw [a4]; exact (t.2.2 a2 a3).1
    have hti : (hdE D).ti = X.no := by omega
    have hbk := hnb hq (by rw [h.no]; exact hti)
    refine ⟨hq, by rw [h.no]; exact hti, ?_⟩
    have hl1 : akLt X j (hdE D).ak = false := by
      have := akLt_bfr (X := X) (e := ⟨(X.K j).ar, false, j, ⟨0, 0, 0, false, ⟨#[]⟩⟩⟩) (o := hdE D) h.Kck (by rw [hti]; exact g3) hbk.symm
      rw [← this]; exact hl
    have hl2 : akLt X (hdE D).ak j = false := by
      refine g5 _ (List.getElem?_eq_some_iff.1 hk).1 ?_ ?_ <;> rw [hK]
      · rcases hh with ⟨_, a2, _⟩ | ⟨a1, _⟩
        · exact a2
        · rw [hbk] at a1; cases a1
      · rcases hh with ⟨_, _, a3, _⟩ | ⟨a1, _⟩
        · rw [← a3]; exact hti
        · rw [hbk] at a1; cases a1
    exact (akLt_ord X).2.2.2 _ _ hl2 hl1
  constructor
  · rintro ⟨hq, hti⟩
    refine ⟨?_, hnb hq hti⟩
    cases hn : X.nextA with
    | some j => rw [(key j hn).2.2]
    | none =>
      exfalso
      obtain ⟨k, hk, hh⟩ := (h.ev _).1 (hdE_mem hq)
      have hK := Xd.K_eq hk
      rcases hh with ⟨_, a2, a3, _⟩ | ⟨a1, _⟩
      · refine nextA_none hn _ (List.getElem?_eq_some_iff.1 hk).1 ?_ ?_ <;> rw [hK]
        · exact a2
        · rw [← a3, hti, h.no]
      · rw [hnb hq hti] at a1; cases a1
  · intro hn
    cases hb : X.nextA with
    | none => rfl
    | some j =>
      obtain ⟨g1, g2, _⟩ := key j hb
      exact absurd ⟨g1, g2⟩ hn
end
end Go.Proofs.YtehbmnkbmgnkfaaGreatDoor

/- The machine of the program and that of the document go step for step; what is left to be done grows less. -/
namespace Go.Proofs.YtehbmnkbmgnkfaaGreatDoor
open Go.RowKit

theorem sum_set {α : Type} (f : α → Nat) : ∀ (l : List α) (j : Nat) (k k' : α), l[j]? = some k → ((l.set j k').map f).sum + f k = (l.map f).sum + f k'
  | [], _, _, _, h => by cases h
  | a :: l, 0, k, k', h => by
    have e : a = k := by simpa using h
    subst e
    rw [List.set_cons_zero, List.map_cons, List.map_cons, List.sum_cons, List.sum_cons]
    omega
  | a :: l, j + 1, k, k', h => by
    have h' : l[j]? = some k := by simpa using h
    have ih := sum_set f l j k k' h'
    rw [List.set_cons_succ, List.map_cons, List.map_cons, List.sum_cons, List.sum_cons]
    omega
def wK (k : Xk) : Nat := (if k.cm = true then 0 else 2 * k.ca + 1) + (if k.dn = true then 0 else 1)
def sumK (X : Xd) : Nat := (X.ak.map wK).sum
section
variable (C : List Cch) (P : List Pur) (L : List Gt)
def wG (x : Gt) : Nat := 2 * (cNum C x.ca).toNat + 3
/-- What is left to be done. -/
def muX (X : Xd) : Nat := sumK X + ((L.drop X.nx).map (wG C)).sum + (P.length - X.pg)
end
/-- Nothing comes back at this time any more. -/
def NoB (X : Xd) : Prop := ∀ a, a < X.ak.length → (X.K a).kn = true → (X.K a).dn = false → (X.K a).bk ≠ X.no
theorem NoB.none {X : Xd} (h : NoB X) : X.nextB = none := by
  cases hb : X.nextB with
  | none => rfl
  | some j =>
    obtain ⟨⟨g1, g2, g3, g4⟩, _⟩ := nextB_some hb
    exact absurd g4 (h j g1 g2 g3)
section
variable {C : List Cch} {R : List Crl} {E : List Rel} {P : List Pur} {L : List Gt} {X : Xd} {D : Day} {pd : List Xw}
/-- What a step of the document leaves. -/
structure Lf (X X' : Xd) (b : Bool) (n m : Nat) : Prop where
  nx : X'.nx = X.nx
  pg : X'.pg = X.pg
  no : X'.no = X.no
  nb : NoB X → NoB X'
  sk : sumK X' ≤ sumK X + n
  wt : (waitsX X').length ≤ (waitsX X).length + m
theorem Lf.trans {X Y Z : Xd} {a b : Bool} {n m n' m' : Nat} (h : Lf X Y a n m) (k : Lf Y Z b n' m') : Lf X Z true (n + n') (m + m') :=
  ⟨k.nx.trans h.nx, k.pg.trans h.pg, k.no.trans h.no, fun g => k.nb (h.nb g), by have := h.sk; have := k.sk; omega, by have := h.wt; have := k.wt; omega⟩
theorem Lf.same {X X' : Xd} (h1 : X'.ak = X.ak) (h2 : X'.nx = X.nx) (h3 : X'.pg = X.pg) (h4 : X'.no = X.no) : Lf X X' true 0 0 := by
  refine ⟨h2, h3, h4, fun g a ha => ?_, ?_, ?_⟩
  · unfold Xd.K
    rw [h1] at ha ⊢
    rw [h4]
    exact g a ha
  · unfold sumK; rw [h1]; exact Nat.le_refl _
  · unfold waitsX; rw [h1]; exact Nat.le_refl _
theorem Lf.setA {j : Nat} {k' : Xk} {n m : Nat} (hj : j < X.ak.length) (h1 : wK k' ≤ wK (X.K j) + n) (h2 : (wsOf k').length ≤ (wsOf (X.K j)).length + m) (h3 : ((X.K j).kn = true → (X.K j).dn = false → (X.K j).bk ≠ X.no) → k'.kn = true → k'.dn = false → k'.bk ≠ X.no) : Lf X (X.setA j k') true n m := by
  have hk := Xd.at_ hj
  refine ⟨rfl, rfl, rfl, fun g a ha => ?_, ?_, ?_⟩
  · rw [setA_len] at ha
    rw [Xd.setA_K hj]
    split
    · exact h3 (fun g1 g2 => g j hj g1 g2)
    · exact g a ha
  · have := sum_set wK X.ak j _ k' hk
    show ((X.ak.set j k').map wK).sum ≤ (X.ak.map wK).sum + n
    omega
  · have := (waits_set (k' := k') hk).length_eq
    rw [List.length_append, List.length_append] at this
    omega
theorem Lf.give {w : Xw} {a : Ans} (hV : ∀ (i : Nat) (x : Cch), C[i]? = some x → 1 ≤ x.de ∧ x.de ≤ 100000) (hj : ∀ j, w.ak = some j → j < X.ak.length ∧ (X.K j).ca < C.length) : Lf X (X.giveX C w a) true 0 0 := by
  unfold Xd.giveX
  cases hw : w.ak with
  | none => exact Lf.same rfl rfl rfl rfl
  | some j =>
    obtain ⟨h1, h2⟩ := hj j hw
    have hde : 1 ≤ deO C (X.K j).ca := (hV (X.K j).ca (C.getD (X.K j).ca default) (by rw [List.getD_eq_getElem?_getD, List.getElem?_eq_getElem h2]; rfl)).1
    exact Lf.setA (k' := { X.K j with kn := true, go := a, bk := X.no + deO C (X.K j).ca }) h1 (Nat.le_refl _) (Nat.le_refl _) (fun _ _ _ => by show X.no + deO C (X.K j).ca ≠ X.no; omega)
theorem Lf.start {i : Nat} {key : ByteArray} {al : Bool} {ws : List Xw} : Lf X (X.startX C i key al ws) true (2 * i + 2) ws.length := by
  refine ⟨rfl, rfl, rfl, fun g a ha => ?_, ?_, ?_⟩
  · have hl : (X.startX C i key al ws).ak.length = X.ak.length + 1 := by show (X.ak ++ [_]).length = _; simp
    rw [hl] at ha
    by_cases e : a < X.ak.length
    · have hk : (X.startX C i key al ws).K a = X.K a := by
        show (X.ak ++ [_]).getD a default = _
        rw [List.getD_eq_getElem?_getD, List.getElem?_append_left e, ← List.getD_eq_getElem?_getD]
        rfl
      rw [hk]
      exact g a e
    · have hk : ((X.startX C i key al ws).K a).kn = false := by
        show ((X.ak ++ [_]).getD a default).kn = false
        rw [List.getD_eq_getElem?_getD, List.getElem?_append_right (by omega), show a - X.ak.length = 0 by omega]
        rfl
      rw [hk]
      intro h; cases h
  · show ((X.ak ++ [_]).map wK).sum ≤ (X.ak.map wK).sum + _
    rw [List.map_append, List.sum_append]
    simp [wK]
  · show ((X.ak ++ [_]).flatMap wsOf).length ≤ (X.ak.flatMap wsOf).length + _
    rw [List.flatMap_append, List.length_append]
    simp [wsOf]
theorem Lf.join {j : Nat} {w : Xw} (hj : j < X.ak.length) : Lf X (X.joinX j w) true 0 1 :=
  Lf.setA (k' := { X.K j with ws := (X.K j).ws ++ [w] }) hj (Nat.le_refl _) (by unfold wsOf; dsimp only; split <;> simp) (fun h => h)
theorem Lf.mono {X X' : Xd} {b : Bool} {n m n' m' : Nat} (h : Lf X X' b n m) (hn : n ≤ n') (hm : m ≤ m') : Lf X X' b n' m' :=
  ⟨h.nx, h.pg, h.no, h.nb, by have := h.sk; omega, by have := h.wt; omega⟩
theorem Lf.come {i : Nat} {key : ByteArray} {ge : Nat} {ak : Option Nat} (hV : ∀ (i : Nat) (x : Cch), C[i]? = some x → 1 ≤ x.de ∧ x.de ≤ 100000) (hj : ∀ j, ak = some j → j < X.ak.length ∧ (X.K j).ca < C.length) : Lf X (X.comeX C R P i key ge ak) true (2 * i + 2) 1 := by
  have S1 : ∀ f, Lf X ((X.setL i ldCa).setL i f) true 0 0 := fun f => Lf.same rfl rfl rfl rfl
  have S2 : ∀ f l, Lf X (((X.setL i ldCa).setL i f).setH i l) true 0 0 := fun f l => Lf.same rfl rfl rfl rfl
  have N : ∀ al, Lf X ((X.setL i ldCa).startX C i key al [⟨ge, ak, 3⟩]) true (2 * i + 2) 1 := fun al => ((Lf.same (X := X) (X' := X.setL i ldCa) rfl rfl rfl rfl).trans Lf.start).mono (by omega) (by simp)
  unfold Xd.comeX
  split
  · exact N true
  · split
    · split
      · exact ((S2 ldFr _).trans (Lf.give (w := ⟨ge, ak, 1⟩) (X := ((X.setL i ldCa).setL i ldFr).setH i (useH (X.H i) key X.no)) hV hj)).mono (by omega) (by omega)
      · split
        · exact ((S2 ldSl _).trans (Lf.give (w := ⟨ge, ak, 2⟩) (X := ((X.setL i ldCa).setL i ldSl).setH i (useH (X.H i) key X.no)) hV hj)).mono (by omega) (by omega)
        · have s := Lf.start (X := ((X.setL i ldCa).setL i ldSl).setH i (useH (X.H i) key X.no)) (C := C) (i := i) (key := key) (al := false) (ws := [])
          refine (((S2 ldSl _).trans s).trans (Lf.give (w := ⟨ge, ak, 2⟩) hV fun j hj2 => ?_)).mono (by omega) (by simp)
          obtain ⟨h1, h2⟩ := hj j hj2
          have hl : ((((X.setL i ldCa).setL i ldSl).setH i (useH (X.H i) key X.no)).startX C i key false []).ak.length = X.ak.length + 1 := by show (X.ak ++ [_]).length = _; simp
          refine ⟨by rw [hl]; omega, ?_⟩
          show ((X.ak ++ [_]).getD j default).ca < _
          rw [List.getD_eq_getElem?_getD, List.getElem?_append_left h1, ← List.getD_eq_getElem?_getD]
          exact h2
    · split
      · rename_i j hw
        obtain ⟨w1, _⟩ := wayX_some hw
        exact ((S1 ldWt).trans (Lf.join (X := (X.setL i ldCa).setL i ldWt) (w := ⟨ge, ak, 4⟩) w1)).mono (by omega) (by omega)
      · exact N false
theorem Lf.gives {a : Ans} (hV : ∀ (i : Nat) (x : Cch), C[i]? = some x → 1 ≤ x.de ∧ x.de ≤ 100000) : ∀ (ws : List Xw) (X : Xd), (∀ w, w ∈ ws → ∀ j, w.ak = some j → j < X.ak.length ∧ (X.K j).ca < C.length) → Lf X (X.givesX C ws a) true 0 0
  | [], X, _ => Lf.same rfl rfl rfl rfl
  | w :: ws, X, h => by
    have h1 := Lf.give (w := w) (a := a) hV (h w (List.mem_cons_self ..))
    have h2 := Lf.gives (a := a) hV ws (X.giveX C w a) (fun v hv j hj => by
      obtain ⟨g1, g2⟩ := h v (List.mem_cons_of_mem _ hv) j hj
      refine ⟨?_, by rw [giveX_ca fun b hb => (h w (List.mem_cons_self ..) b hb).1]; exact g2⟩
      unfold Xd.giveX
      cases w.ak with
      | none => exact g1
      | some b => show j < (X.setA b _).ak.length; rw [setA_len]; exact g1)
    exact (h1.trans h2).mono (Nat.le_refl _) (Nat.le_refl _)
theorem Lf.keep {i : Nat} {key : ByteArray} {a : Ans} : Lf X (X.keepX C R P i key a) true 0 0 := by
  unfold Xd.keepX
  split
  · exact Lf.same rfl rfl rfl rfl
  · split <;> exact Lf.same rfl rfl rfl rfl
/-- What an answer that comes back leaves. -/
theorem back_left {j : Nat} (h : XInv C P L [] X) (hV : ∀ (i : Nat) (x : Cch), C[i]? = some x → 1 ≤ x.de ∧ x.de ≤ 100000) (hj : j < X.ak.length) (hkn : (X.K j).kn = true) (hd : (X.K j).dn = false) :
    (X.backX C R P j).nx = X.nx ∧ (X.backX C R P j).pg = X.pg ∧ (X.backX C R P j).no = X.no ∧ sumK (X.backX C R P j) + 1 ≤ sumK X ∧ (waitsX (X.backX C R P j)).length + (X.K j).ws.length ≤ (waitsX X).length := by
  have hk := Xd.at_ hj
  have h1 := h.done hj hkn hd
  have hs : sumK (X.doneX j) + 1 = sumK X := by
    have := sum_set wK X.ak j _ { X.K j with dn := true } hk
    have e : wK (X.K j) = wK { X.K j with dn := true } + 1 := by unfold wK; rw [hd]; simp
    show ((X.ak.set j _).map wK).sum + 1 = (X.ak.map wK).sum
    omega
  have hw : (waitsX (X.doneX j)).length + (X.K j).ws.length = (waitsX X).length := by
    have := (waits_set (k' := { X.K j with dn := true }) hk).length_eq
    have e1 : wsOf (X.K j) = (X.K j).ws := if_neg (by simp [hd])
    have e2 : wsOf { X.K j with dn := true } = [] := if_pos rfl
    rw [e1, e2, List.length_append, List.nil_append] at this
    show (waitsX (X.setA j { X.K j with dn := true })).length + _ = _
    omega
  have hg := Lf.gives (a := (X.K j).go) hV (X.K j).ws (X.doneX j) (fun w hw a ha => by
    obtain ⟨g1, _, _⟩ := h1.wk w (List.mem_append_left _ (List.mem_append_left _ hw)) a ha
    exact ⟨g1, (h1.kk a _ (Xd.at_ g1)).1⟩)
  have hf : Lf (X.doneX j) (X.backX C R P j) true 0 0 := by
    unfold Xd.backX
    split
    · exact (hg.trans Lf.keep).mono (Nat.le_refl _) (Nat.le_refl _)
    · exact hg
  exact ⟨hf.nx, hf.pg, hf.no, by have := hf.sk; omega, by have := hf.wt; omega⟩
theorem arr_left {j : Nat} (h : XInv C P L [] X) (hv : Val C R E P L) (hj : j < X.ak.length) (hcm : (X.K j).cm = false) :
    (X.arrX C R E P j).nx = X.nx ∧ (X.arrX C R E P j).pg = X.pg ∧ (X.arrX C R E P j).no = X.no ∧ (NoB X → NoB (X.arrX C R E P j)) ∧ sumK (X.arrX C R E P j) + 1 ≤ sumK X ∧ (waitsX (X.arrX C R E P j)).length ≤ (waitsX X).length + 1 := by
  have hk := Xd.at_ hj
  have hkk := h.kk j _ hk
  have hV : ∀ (i : Nat) (x : Cch), C[i]? = some x → 1 ≤ x.de ∧ x.de ≤ 100000 := fun i x hx => (hv.cd i x hx).1
  have hs : sumK (X.cameX j) + (2 * (X.K j).ca + 1) = sumK X := by
    have := sum_set wK X.ak j _ { X.K j with cm := true } hk
    have e : wK (X.K j) = wK { X.K j with cm := true } + (2 * (X.K j).ca + 1) := by unfold wK; rw [hcm]; simp; omega
    show ((X.ak.set j _).map wK).sum + _ = (X.ak.map wK).sum
    omega
  have hc : Lf X (X.cameX j) true 0 0 := Lf.setA (k' := { X.K j with cm := true }) hj (by unfold wK; rw [hcm]; simp) (Nat.le_refl _) (fun h => h)
  have hl : ∀ a, some j = some a → a < (X.cameX j).ak.length ∧ ((X.cameX j).K a).ca < C.length := fun a ha => by
    cases ha
    refine ⟨by show j < (X.setA j _).ak.length; rw [setA_len]; exact hj, ?_⟩
    have e : ((X.cameX j).K j).ca = (X.K j).ca := setA_ca (k' := { X.K j with cm := true }) hj rfl
    rw [e]; exact hkk.1
  have hpar : parO C (X.K j).ca < ((X.K j).ca : Int) := (hv.cp (X.K j).ca (C.getD (X.K j).ca default) (by rw [List.getD_eq_getElem?_getD, List.getElem?_eq_getElem hkk.1]; rfl)).1
  unfold Xd.arrX
  split
  · have hf := Lf.come (X := X.cameX j) (C := C) (R := R) (P := P) (i := (parO C (X.K j).ca).toNat) (key := (X.K j).ke) (ge := 0) (ak := some j) hV hl
    exact ⟨hf.nx.trans hc.nx, hf.pg.trans hc.pg, hf.no.trans hc.no, fun g => hf.nb (hc.nb g), by have := hf.sk; omega, by have := hf.wt; have := hc.wt; omega⟩
  · have hf := Lf.give (X := X.cameX j) (C := C) (w := ⟨0, some j, 0⟩) (a := oriM E (X.K j).ke X.no) hV hl
    exact ⟨hf.nx.trans hc.nx, hf.pg.trans hc.pg, hf.no.trans hc.no, fun g => hf.nb (hc.nb g), by have := hf.sk; omega, by have := hf.wt; have := hc.wt; omega⟩
theorem Fit.came {n i : Nat} {s : Sto} {key : ByteArray} {f : Wtr} (h : Fit n D) (hs : D.st[i]? = some s) (hf : WFit D f) (hk : key.size ≤ 300) : Fit (n + 4) (D.cameD R P i s key f) := by
  obtain ⟨i1, i2, i3, i4⟩ := h.incs hs
  have hil := (List.getElem?_eq_some_iff.1 hs).1
  have hset : ∀ t : Sto, (D.setS i t).st[i]? = some t := fun t => by show (D.st.set i t)[i]? = _; rw [List.getElem?_set_self hil]
  have NEW : ∀ kp, Fit (n + 4) (D.newD i s key kp f) := fun kp => by
    have h1 := i1.ask (hset (incCa s)) key kp hk
    have hl : ((D.setS i (incCa s)).askD i (incCa s) key kp).ak.length = D.ak.length + 1 := by show (D.ak ++ [_]).length = _; simp
    have hw : WFit ((D.setS i (incCa s)).askD i (incCa s) key kp) f := by
      unfold WFit at *
      cases ha : f.ak with
      | none => rw [ha] at hf; exact hf
      | some j => rw [ha] at hf; simp only at hf ⊢; omega
    exact ((h1.wait (j := D.ak.length) hw).how f 3).mono (by omega)
  unfold Day.cameD
  split
  · exact NEW false
  · split
    · rename_i ho
      have h1 := i2.take (hset (incFr (incCa s))) key (onL_iff.1 ho.1)
      have ha : AFit (tookA s key) := by
        have g := h.an i s hs key (onL_iff.1 ho.1)
        exact ⟨g.bo, g.si⟩
      exact ((h1.give (f := f) hf ha).how f 1).mono (by omega)
    · split
      · rename_i ho
        have h1 := i3.take (hset (incSl (incCa s))) key (onL_iff.1 ho.1)
        have ha : AFit (tookA s key) := by
          have g := h.an i s hs key (onL_iff.1 ho.1)
          exact ⟨g.bo, g.si⟩
        have h2 := h1.give (f := f) hf ha
        refine Fit.how ?_ f 2
        unfold Day.moreD
        split
        · exact h2.mono (by omega)
        · have hl : i < (D.staleG i s key f).st.length := by
            unfold Day.staleG
            rw [giveD_st]
            show i < ((D.st.set i _).set i _).length
            rw [List.length_set, List.length_set]; exact hil
          exact h2.ask (Day.at_ hl) key true hk
      · split
        · exact ((i4.wait (f := f) hf).how f 4).mono (by omega)
        · exact NEW true
theorem evK_len (f : ByteArray → Hld) (ro nd : Int) : ∀ (n : Nat) (ks : List ByteArray), (evK f ro nd n ks).length ≤ ks.length
  | 0, ks => Nat.le_refl _
  | n + 1, ks => by
    unfold evK
    split
    · exact Nat.le_trans (evK_len f ro nd n _) (rmv_len_le _ _)
    · exact Nat.le_refl _
theorem Fit.keep {n i : Nat} {s : Sto} {key : ByteArray} {x : Ans} (h : Fit n D) (hs : D.st[i]? = some s) (hk : key.size ≤ 300) (hx : AFit x) : Fit (n + 1) (D.keepD R P i s key x) := by
  have h' := h.mono (Nat.le_succ n)
  obtain ⟨h1, h2, h3, h4, h5, h6, h7, h8, h9, h10, h11⟩ := h.st i s hs
  obtain ⟨k1, k2⟩ := h.ks i s hs
  have hl := rmv_len_le key s.ks
  unfold Day.keepD
  split
  · exact h'
  · split
    · refine h'.set ?_ (fun k hk => h.an i s hs k (mem_rmv.1 hk).1) ⟨rmv_nodup k1, fun k hk => k2 k (mem_rmv.1 hk).1⟩ (h.num.ar i s hs)
      obtain ⟨a1, a2, a3, a4, a5, a6, a7, a8, a9, a10, a11⟩ := h'.st i s hs
      exact ⟨a1, a2, a3, a4, a5, a6, a7, a8, a9, a10, by show (rmv key s.ks).length ≤ _; omega⟩
    · have hsub : ∀ k, k ∈ evK s.hm s.ch.ro (needA x) s.ks.length (rmv key s.ks) → k ∈ rmv key s.ks := fun k hk => evK_sub hk
      have hnd := evK_nodup (f := s.hm) (ro := s.ch.ro) (nd := needA x) (n := s.ks.length) (rmv_nodup (x := key) k1)
      have hkl : (evK s.hm s.ch.ro (needA x) s.ks.length (rmv key s.ks)).length ≤ s.ks.length := by
        have := evK_len s.hm s.ch.ro (needA x) s.ks.length (rmv key s.ks)
        omega
      have hf : Fit (n + 1) (D.setS i { s with ks := key :: evK s.hm s.ch.ro (needA x) s.ks.length (rmv key s.ks), hm := fun d => if d = key then ⟨x, D.no⟩ else s.hm d }) := by
        refine h'.set ?_ (fun k hk => ?_) ⟨List.nodup_cons.2 ⟨fun hm => (mem_rmv.1 (hsub _ hm)).2 rfl, hnd⟩, fun k hk2 => ?_⟩ (h.num.ar i s hs)
        · obtain ⟨a1, a2, a3, a4, a5, a6, a7, a8, a9, a10, a11⟩ := h'.st i s hs
          exact ⟨a1, a2, a3, a4, a5, a6, a7, a8, a9, a10, by show (key :: evK _ _ _ _ _).length ≤ _; rw [List.length_cons]; omega⟩
        · show AFit (if k = key then (⟨x, D.no⟩ : Hld) else s.hm k).an
          split
          · exact hx
          · rename_i e
            exact h.an i s hs k (mem_rmv.1 (hsub k ((List.mem_cons.1 hk).resolve_left e))).1
        · rcases List.mem_cons.1 hk2 with rfl | hk2
          · exact hk
          · exact k2 k (mem_rmv.1 (hsub k hk2)).1
      exact { hf with
        pu := Nat.succ_le_succ h.pu
        num := ⟨hf.num.qu, hf.num.ar, hf.num.wa⟩ }
theorem Fit.back {n j : Nat} {x : Ans} (h : Fit n D) (hj : j < D.ak.length) (hx : AFit x) : Fit (n + 1 + (D.wa j).length + 1) (D.backD R P j x) := by
  have hc := h.kk j _ (Day.ak_at hj)
  have hs := Day.at_ hc.1
  have h1 := h.done hs j hx
  have h2 := h1.gives hx (D.wa j) (n + 1) _ (fun f hf => (h.waits hj f hf).of rfl rfl)
  have hsm := gives_same x (D.wa j) (D.setS (D.K j).ca (doneS (D.S (D.K j).ca) j x.si))
  unfold Day.backD
  dsimp only
  split
  · refine h2.keep (Day.at_ ?_) hc.2 hx
    rw [hsm.st]
    show _ < (D.st.set _ _).length
    rw [List.length_set]; exact hc.1
  · exact h2.mono (Nat.le_succ _)
theorem Fit.purge {n : Nat} {key : ByteArray} (h : Fit n D) : Fit n (D.purD key) := by
  have hat : ∀ (i : Nat) (t : Sto), (D.purD key).st[i]? = some t → ∃ s, D.st[i]? = some s ∧ t = { s with ks := rmv key s.ks } := fun i t ht => by
    have ht' : (D.st.map fun s => { s with ks := rmv key s.ks })[i]? = some t := ht
    rw [List.getElem?_map] at ht'
    cases hs : D.st[i]? with
    | none => rw [hs] at ht'; cases ht'
    | some s => rw [hs] at ht'; cases ht'; exact ⟨s, rfl, rfl⟩
  exact { h with
    num := ⟨h.num.qu, fun i t ht => by obtain ⟨s, hs, rfl⟩ := hat i t ht; exact h.num.ar i s hs, h.num.wa⟩
    st := fun i t ht => by
      obtain ⟨s, hs, rfl⟩ := hat i t ht
      obtain ⟨a1, a2, a3, a4, a5, a6, a7, a8, a9, a10, a11⟩ := h.st i s hs
      exact ⟨a1, a2, a3, a4, a5, a6, a7, a8, a9, a10, Nat.le_trans (rmv_len_le _ _) a11⟩
    an := fun i t ht => by obtain ⟨s, hs, rfl⟩ := hat i t ht; exact fun k hk => h.an i s hs k (mem_rmv.1 hk).1
    ks := fun i t ht => by
      obtain ⟨s, hs, rfl⟩ := hat i t ht
      exact ⟨rmv_nodup (h.ks i s hs).1, fun k hk => (h.ks i s hs).2 k (mem_rmv.1 hk).1⟩
    kk := fun j k hk => by
      show k.ca < (D.st.map _).length ∧ _
      rw [List.length_map]; exact h.kk j k hk }
theorem Fit.arr {n j : Nat} (h : Fit n D) (hj : j < D.ak.length) (hp : (D.S (D.K j).ca).pa < D.st.length) (hE : AFit (oriM E (D.K j).ke D.no)) : Fit (n + 4) (D.arrD R E P j) := by
  have hc := h.kk j _ (Day.ak_at hj)
  unfold Day.arrD
  split
  · exact h.came (Day.at_ (by omega)) (f := ⟨0, some j⟩) hj hc.2
  · exact (h.give (f := ⟨0, some j⟩) hj hE).mono (by omega)
end
end Go.Proofs.YtehbmnkbmgnkfaaGreatDoor

/- The day as the document tells it: loads add up. -/
import Derived.Test.YtgohddfnhofjhaaGreatDoorB25
import Derived.Test.YtgohddfnhofjhaaGreatDoorB26
import Derived.Test.YtgohddfnhofjhaaGreatDoorB27
namespace Go.Proofs.YtgohddfnhofjhaaGreatDoor
open Go.RowKit

theorem cnt_set : ∀ (l : List Bool) (j : Nat), l[j]? = some false → (l.set j true).count true = l.count true + 1
  | [], _, h => by cases h
  | a :: l, 0, h => by
    have e : a = false := by simpa using h
    subst e
    simp
  | a :: l, j + 1, h => by
    have h' : l[j]? = some false := by simpa using h
    have ih := cnt_set l j h'
    rw [List.set_cons_succ, List.count_cons, List.count_cons, ih]
    omega
/-- How many asks a cache made, and how many have come to it. -/
def cN (X : Xd) (i : Nat) : Nat := (X.ak.map fun k => decide (k.ca = i)).count true
section
variable (C : List Cch) (L : List Gt)
def aN (X : Xd) (i : Nat) : Nat := (X.ak.map fun k => k.cm && decide (parO C k.ca = (i : Int))).count true
def gN (n i : Nat) : Nat := ((L.take n).map fun g => decide (cNum C g.ca = (i : Int))).count true
end
/-- What a cache had to do is in order. -/
structure LdB (l : Ldd) : Prop where
  fr : 0 ≤ l.fr
  sl : 0 ≤ l.sl
  wt : 0 ≤ l.wt
  b1 : l.fr + l.sl + l.wt ≤ l.ca
  b2 : l.ak + l.fr + l.wt ≤ l.ca
  b3 : l.ca ≤ l.sl + l.fr + l.wt + l.ak
structure LInv (C : List Cch) (X : Xd) (f : Nat → Nat) : Prop where
  ln : X.ld.length = C.length
  ca : ∀ i, i < C.length → (X.Ld i).ca = (f i : Int)
  ak : ∀ i, i < C.length → (X.Ld i).ak = (cN X i : Int)
  b : ∀ i, i < C.length → LdB (X.Ld i)
/-- Loads but for bytes, and the caches of asks, stay. -/
structure Lk (C : List Cch) (X X' : Xd) : Prop where
  ln : X'.ld.length = X.ld.length
  ld : ∀ j, (X'.Ld j).ca = (X.Ld j).ca ∧ (X'.Ld j).fr = (X.Ld j).fr ∧ (X'.Ld j).sl = (X.Ld j).sl ∧ (X'.Ld j).wt = (X.Ld j).wt ∧ (X'.Ld j).ak = (X.Ld j).ak
  cn : ∀ j, cN X' j = cN X j
  an : ∀ j, aN C X' j = aN C X j
section
variable {C : List Cch} {R : List Crl} {E : List Rel} {P : List Pur} {L : List Gt} {X X' Y : Xd} {f g : Nat → Nat}
theorem LInv.congr (h : LInv C X f) (e : ∀ i, f i = g i) : LInv C X g := ⟨h.ln, fun i hi => by rw [← e]; exact h.ca i hi, h.ak, h.b⟩
theorem LInv.lk (h : LInv C X f) (k : Lk C X X') : LInv C X' f :=
  ⟨k.ln.trans h.ln, fun i hi => (k.ld i).1.trans (h.ca i hi), fun i hi => by rw [k.cn, (k.ld i).2.2.2.2]; exact h.ak i hi, fun i hi => by
    obtain ⟨h1, h2, h3, h4, h5⟩ := k.ld i
    obtain ⟨g1, g2, g3, g4, g5, g6⟩ := h.b i hi
    constructor <;> omega⟩
theorem Lk.refl (X : Xd) : Lk C X X := ⟨rfl, fun _ => ⟨rfl, rfl, rfl, rfl, rfl⟩, fun _ => rfl, fun _ => rfl⟩
theorem Lk.trans (h : Lk C X X') (k : Lk C X' Y) : Lk C X Y :=
  ⟨k.ln.trans h.ln, fun j => by
    obtain ⟨h1, h2, h3, h4, h5⟩ := h.ld j
    obtain ⟨k1, k2, k3, k4, k5⟩ := k.ld j
    exact ⟨k1.trans h1, k2.trans h2, k3.trans h3, k4.trans h4, k5.trans h5⟩, fun j => (k.cn j).trans (h.cn j), fun j => (k.an j).trans (h.an j)⟩
theorem Lk.of (h1 : X'.ld = X.ld) (h2 : X'.ak = X.ak) : Lk C X X' :=
  ⟨by rw [h1], fun j => by unfold Xd.Ld; rw [h1]; exact ⟨rfl, rfl, rfl, rfl, rfl⟩, fun j => by unfold cN; rw [h2], fun j => by unfold aN; rw [h2]⟩
theorem Lk.setA {j : Nat} {k' : Xk} (hj : j < X.ak.length) (e1 : k'.ca = (X.K j).ca) (e2 : k'.cm = (X.K j).cm) : Lk C X (X.setA j k') := by
  have hk := Xd.at_ hj
  refine ⟨rfl, fun j => ⟨rfl, rfl, rfl, rfl, rfl⟩, fun i => ?_, fun i => ?_⟩
  · show ((X.ak.set j k').map _).count true = _
    rw [map_set_same hk (by rw [e1])]
    rfl
  · show ((X.ak.set j k').map _).count true = _
    rw [map_set_same hk (by rw [e1, e2])]
    rfl
theorem Lk.give {w : Xw} {a : Ans} (hj : ∀ j, w.ak = some j → j < X.ak.length) : Lk C X (X.giveX C w a) := by
  unfold Xd.giveX
  cases hw : w.ak with
  | none => exact Lk.of rfl rfl
  | some j => exact Lk.setA (k' := { X.K j with kn := true, go := a, bk := X.no + deO C (X.K j).ca }) (hj j hw) rfl rfl
theorem giveX_len {w : Xw} {a : Ans} : (X.giveX C w a).ak.length = X.ak.length := by
  unfold Xd.giveX
  cases w.ak with
  | none => rfl
  | some j => exact setA_len
theorem Lk.gives {a : Ans} : ∀ (ws : List Xw) (X : Xd), (∀ w, w ∈ ws → ∀ j, w.ak = some j → j < X.ak.length) → Lk C X (X.givesX C ws a)
  | [], X, _ => Lk.refl X
  | w :: ws, X, h => (Lk.give (w := w) (a := a) (h w (List.mem_cons_self ..))).trans (Lk.gives ws _ fun v hv j hj => by
      rw [giveX_len]; exact h v (List.mem_cons_of_mem _ hv) j hj)
theorem Lk.keep {i : Nat} {key : ByteArray} {a : Ans} : Lk C X (X.keepX C R P i key a) := by
  unfold Xd.keepX
  split
  · exact Lk.refl X
  · split <;> exact Lk.of rfl rfl
theorem Lk.done {j : Nat} (hj : j < X.ak.length) (hc : (X.K j).ca < X.ld.length) : Lk C X (X.doneX j) := by
  have h1 : Lk C X (X.setA j { X.K j with dn := true }) := Lk.setA hj rfl rfl
  refine h1.trans ⟨by show (List.set _ _ _).length = _; rw [List.length_set], fun i => ?_, fun _ => rfl, fun _ => rfl⟩
  rw [show (X.doneX j) = (X.setA j { X.K j with dn := true }).setL (X.K j).ca (ldBs (X.K j).go.si) from rfl, Ld_setL (X := X.setA j { X.K j with dn := true }) hc]
  split
  · rename_i e; rw [e]; exact ⟨rfl, rfl, rfl, rfl, rfl⟩
  · exact ⟨rfl, rfl, rfl, rfl, rfl⟩
theorem Lk.back {j : Nat} (hx : XInv C P L [] X) (hj : j < X.ak.length) (hd : (X.K j).dn = false) : Lk C X (X.backX C R P j) := by
  have hk := Xd.at_ hj
  have h1 : Lk C X (X.doneX j) := Lk.done hj (by rw [hx.le.2.1]; exact (hx.kk j _ hk).1)
  have h2 := Lk.gives (C := C) (a := (X.K j).go) (X.K j).ws (X.doneX j) fun w hw a ha => by
    show a < (X.setA j _).ak.length
    rw [setA_len]
    refine (hx.wk w ?_ a ha).1
    rw [List.nil_append]
    exact List.mem_flatMap.2 ⟨_, List.mem_of_getElem? hk, by unfold wsOf; rw [if_neg (by simp [hd])]; exact hw⟩
  unfold Xd.backX
  split
  · exact (h1.trans h2).trans Lk.keep
  · exact h1.trans h2
theorem LInv.upd {i d : Nat} {l' : Ldd} (h : LInv C X f) (hi : i < C.length) (hl : X'.ld = X.ld.set i l') (hc : ∀ j, cN X' j = cN X j + if j = i then d else 0) (h1 : l'.ca = (X.Ld i).ca + 1) (h2 : l'.ak = (X.Ld i).ak + (d : Int)) (h3 : LdB l') : LInv C X' (fun j => f j + if j = i then 1 else 0) := by
  have hil : i < X.ld.length := by rw [h.ln]; exact hi
  have hL : ∀ j, X'.Ld j = if j = i then l' else X.Ld j := fun j => by
    unfold Xd.Ld
    rw [hl, List.getD_eq_getElem?_getD]
    by_cases e : j = i
    · subst e
      rw [List.getElem?_set_self hil, if_pos rfl]; rfl
    · rw [List.getElem?_set_ne (Ne.symm e), if_neg e, List.getD_eq_getElem?_getD]
  refine ⟨by rw [hl, List.length_set]; exact h.ln, fun j hj => ?_, fun j hj => ?_, fun j hj => ?_⟩
  · rw [hL]
    split
    · rename_i e
      rw [e, h1, h.ca i hi]; simp
    · rw [h.ca j hj]; simp
  · rw [hL, hc]
    split
    · rename_i e
      rw [e, h2, h.ak i hi]; simp
    · rw [h.ak j hj]; simp
  · rw [hL]
    split
    · exact h3
    · exact h.b j hj
theorem setL2 {i : Nat} {a b : Ldd → Ldd} (hi : i < X.ld.length) : ((X.setL i a).setL i b).ld = X.ld.set i (b (a (X.Ld i))) := by
  show (X.ld.set i (a (X.Ld i))).set i (b ((X.setL i a).Ld i)) = _
  rw [Ld_setL hi, if_pos rfl, List.set_set]
theorem cN_start {i : Nat} {key : ByteArray} {al : Bool} {ws : List Xw} (j : Nat) : cN (X.startX C i key al ws) j = cN X j + if j = i then 1 else 0 := by
  show ((X.ak ++ [_]).map _).count true = _
  rw [List.map_append, List.count_append]
  by_cases e : j = i
  · subst e; simp [cN]
  · rw [if_neg e]; simp [cN, Ne.symm e]
theorem aN_start {i : Nat} {key : ByteArray} {al : Bool} {ws : List Xw} (j : Nat) : aN C (X.startX C i key al ws) j = aN C X j := by
  show ((X.ak ++ [_]).map _).count true = _
  rw [List.map_append, List.count_append]
  simp [aN]
theorem LInv.come {i : Nat} {key : ByteArray} {ge : Nat} {ak : Option Nat} (h : LInv C X f) (hi : i < C.length) (hj : ∀ j, ak = some j → j < X.ak.length) : LInv C (X.comeX C R P i key ge ak) (fun j => f j + if j = i then 1 else 0) ∧ ∀ j, aN C (X.comeX C R P i key ge ak) j = aN C X j := by
  have hil : i < X.ld.length := by rw [h.ln]; exact hi
  have hb := h.b i hi
  have hN : ∀ al ws, LInv C ((X.setL i ldCa).startX C i key al ws) (fun j => f j + if j = i then 1 else 0) ∧ ∀ j, aN C ((X.setL i ldCa).startX C i key al ws) j = aN C X j := fun al ws => by
    refine ⟨LInv.upd (d := 1) h hi (l' := ldAk (ldCa (X.Ld i))) (setL2 hil) (fun j => cN_start (X := X.setL i ldCa) j) rfl rfl ?_, fun j => aN_start (X := X.setL i ldCa) j⟩
    obtain ⟨g1, g2, g3, g4, g5, g6⟩ := hb
    constructor <;> (simp only [ldAk, ldCa]; omega)
  have hF : ∀ l, LInv C (((X.setL i ldCa).setL i ldFr).setH i l) (fun j => f j + if j = i then 1 else 0) := fun l => by
    refine LInv.upd (d := 0) h hi (l' := ldFr (ldCa (X.Ld i))) (setL2 hil) (fun j => by simp; rfl) rfl (by simp [ldFr, ldCa]) ?_
    obtain ⟨g1, g2, g3, g4, g5, g6⟩ := hb
    constructor <;> (simp only [ldFr, ldCa]; omega)
  have hS : ∀ l, LInv C (((X.setL i ldCa).setL i ldSl).setH i l) (fun j => f j + if j = i then 1 else 0) := fun l => by
    refine LInv.upd (d := 0) h hi (l' := ldSl (ldCa (X.Ld i))) (setL2 hil) (fun j => by simp; rfl) rfl (by simp [ldSl, ldCa]) ?_
    obtain ⟨g1, g2, g3, g4, g5, g6⟩ := hb
    constructor <;> (simp only [ldSl, ldCa]; omega)
  have hW : LInv C ((X.setL i ldCa).setL i ldWt) (fun j => f j + if j = i then 1 else 0) := by
    refine LInv.upd (d := 0) h hi (l' := ldWt (ldCa (X.Ld i))) (setL2 hil) (fun j => by simp; rfl) rfl (by simp [ldWt, ldCa]) ?_
    obtain ⟨g1, g2, g3, g4, g5, g6⟩ := hb
    constructor <;> (simp only [ldWt, ldCa]; omega)
  unfold Xd.comeX
  split
  · exact hN true _
  · split
    · split
      · have k := Lk.give (C := C) (X := ((X.setL i ldCa).setL i ldFr).setH i (useH (X.H i) key X.no)) (w := ⟨ge, ak, 1⟩) (a := { (hmOf (X.H i) key).an with fr := (C.getD i default).na }) hj
        exact ⟨(hF _).lk k, k.an⟩
      · split
        · have k := Lk.give (C := C) (X := ((X.setL i ldCa).setL i ldSl).setH i (useH (X.H i) key X.no)) (w := ⟨ge, ak, 2⟩) (a := { (hmOf (X.H i) key).an with fr := (C.getD i default).na }) hj
          exact ⟨(hS _).lk k, k.an⟩
        · have k := Lk.give (C := C) (X := (((X.setL i ldCa).setL i ldSl).setH i (useH (X.H i) key X.no)).startX C i key false []) (w := ⟨ge, ak, 2⟩) (a := { (hmOf (X.H i) key).an with fr := (C.getD i default).na }) (fun j hj2 => by
            have := hj j hj2
            show j < (X.ak ++ [_]).length
            simp; omega)
          refine ⟨LInv.lk (X := (((X.setL i ldCa).setL i ldSl).setH i (useH (X.H i) key X.no)).startX C i key false []) ?_ k, fun j => (k.an j).trans (aN_start (X := ((X.setL i ldCa).setL i ldSl).setH i (useH (X.H i) key X.no)) j)⟩
          refine LInv.upd (d := 1) h hi (l' := ldAk (ldSl (ldCa (X.Ld i)))) ?_ (fun j => cN_start (X := ((X.setL i ldCa).setL i ldSl).setH i (useH (X.H i) key X.no)) j) rfl rfl ?_
          · show ((((X.setL i ldCa).setL i ldSl).setH i _).setL i ldAk).ld = _
            have e1 : (((X.setL i ldCa).setL i ldSl).setH i (useH (X.H i) key X.no)).Ld i = ldSl (ldCa (X.Ld i)) := by
              show ((X.setL i ldCa).setL i ldSl).Ld i = _
              rw [Ld_setL (X := X.setL i ldCa) (by show i < (X.ld.set i _).length; rw [List.length_set]; exact hil), if_pos rfl, Ld_setL hil, if_pos rfl]
            show ((X.setL i ldCa).setL i ldSl).ld.set i (ldAk ((((X.setL i ldCa).setL i ldSl).setH i (useH (X.H i) key X.no)).Ld i)) = _
            rw [e1, setL2 hil, List.set_set]
          · obtain ⟨g1, g2, g3, g4, g5, g6⟩ := hb
            constructor <;> (simp only [ldAk, ldSl, ldCa]; omega)
    · split
      · rename_i j hw
        obtain ⟨w1, _⟩ := wayX_some hw
        have k : Lk C ((X.setL i ldCa).setL i ldWt) (((X.setL i ldCa).setL i ldWt).joinX j ⟨ge, ak, 4⟩) := Lk.setA (X := (X.setL i ldCa).setL i ldWt) w1 rfl rfl
        exact ⟨hW.lk k, k.an⟩
      · exact hN false _
theorem gN_next {i : Nat} (hn : X.nx < L.length) : gN C L (X.nx + 1) i = gN C L X.nx i + if cNum C (L.getD X.nx default).ca = (i : Int) then 1 else 0 := by
  unfold gN
  have hx := List.getElem?_eq_getElem hn
  rw [List.take_add_one, hx, List.map_append, List.count_append, getD_at hx]
  show _ + (([_] : List Gt).map _).count true = _
  by_cases e : cNum C L[X.nx].ca = (i : Int)
  · simp [e]
  · simp [e]
/-- What came to a cache until now. -/
abbrev LNow (C : List Cch) (L : List Gt) (X : Xd) : Prop := LInv C X fun i => gN C L X.nx i + aN C X i
theorem LNow.lk (h : LNow C L X) (k : Lk C X X') (e : X'.nx = X.nx) : LNow C L X' := (LInv.lk h k).congr fun i => by rw [e, k.an]
theorem LNow.arr {j : Nat} (h : LNow C L X) (hx : XInv C P L [] X) (hv : Val C R E P L) (hj : j < X.ak.length) (hcm : (X.K j).cm = false) : LNow C L (X.arrX C R E P j) := by
  have hk := Xd.at_ hj
  have hnx := (arr_left hx hv hj hcm).1
  have hca := (hx.kk j _ hk).1
  have hcl : (X.cameX j).ak.length = X.ak.length := setA_len
  have hcj : ∀ a, some j = some a → a < (X.cameX j).ak.length := fun a ha => by cases ha; rw [hcl]; exact hj
  have hpar : parO C (X.K j).ca < ((X.K j).ca : Int) := (hv.cp (X.K j).ca (C.getD (X.K j).ca default) (by rw [List.getD_eq_getElem?_getD, List.getElem?_eq_getElem hca]; rfl)).1
  have h1 : LInv C (X.cameX j) fun i => gN C L X.nx i + aN C X i := ⟨h.ln, h.ca, fun i hi => by
    have e : cN (X.cameX j) i = cN X i := by
      obtain ⟨k', hk'⟩ : ∃ k' : Xk, k' = { X.K j with cm := true } := ⟨_, rfl⟩
      have h2 := map_set_same (f := fun k : Xk => decide (k.ca = i)) (k' := k') hk (by rw [hk'])
      rw [hk'] at h2
      exact congrArg (List.count true) h2
    rw [e]
    exact h.ak i hi, h.b⟩
  have ha : ∀ i, aN C (X.cameX j) i = aN C X i + if parO C (X.K j).ca = (i : Int) then 1 else 0 := fun i => by
    show ((X.ak.set j { X.K j with cm := true }).map fun k => k.cm && decide (parO C k.ca = (i : Int))).count true = _
    by_cases e : parO C (X.K j).ca = (i : Int)
    · rw [if_pos e, List.map_set]
      show ((X.ak.map _).set j (true && decide (parO C (X.K j).ca = (i : Int)))).count true = _
      rw [decide_eq_true e, Bool.true_and]
      refine cnt_set _ j ?_
      rw [List.getElem?_map, hk]
      show some ((X.K j).cm && _) = _
      rw [hcm]; rfl
    · rw [if_neg e, map_set_same hk (by show (true && decide (parO C (X.K j).ca = (i : Int))) = ((X.K j).cm && _); rw [decide_eq_false e, hcm]; rfl)]
      rfl
  unfold LNow
  rw [hnx]
  unfold Xd.arrX
  split
  · rename_i hp
    obtain ⟨g1, g2⟩ := LInv.come (R := R) (P := P) (i := (parO C (X.K j).ca).toNat) (key := (X.K j).ke) (ge := 0) (ak := some j) h1 (by omega) hcj
    refine g1.congr fun i => ?_
    rw [g2, ha]
    by_cases e : parO C (X.K j).ca = (i : Int)
    · rw [if_pos e, if_pos (by omega)]; omega
    · rw [if_neg e, if_neg (by omega)]; omega
  · rename_i hp
    have k := Lk.give (C := C) (X := X.cameX j) (w := ⟨0, some j, 0⟩) (a := oriM E (X.K j).ke X.no) hcj
    refine (h1.lk k).congr fun i => ?_
    rw [k.an, ha, if_neg (by omega)]
    rfl
theorem LNow.next {lim : Int} {m m' : Mod} (h : LNow C L X) (hx : XInv C P L [] X) (hv : Val C R E P L) (hn : X.next C R E P L lim m = some (m', X')) : LNow C L X' := by
  have hV : ∀ (i : Nat) (x : Cch), C[i]? = some x → 1 ≤ x.de ∧ x.de ≤ 100000 := fun i x hx => (hv.cd i x hx).1
  unfold Xd.next at hn
  cases m with
  | out =>
    dsimp only at hn
    split at hn
    · cases hn
    · split at hn
      · cases hn
      · cases hn; exact h.lk (Lk.of rfl rfl) rfl
  | pur =>
    dsimp only at hn
    split at hn
    · cases hn; exact h.lk (Lk.of rfl rfl) rfl
    · cases hn; exact h
  | bak =>
    dsimp only at hn
    split at hn
    · rename_i j hj
      cases hn
      obtain ⟨⟨g1, g2, g3, g4⟩, _⟩ := nextB_some hj
      exact h.lk (Lk.back hx g1 g3) (back_left hx hV g1 g2 g3).1
    · cases hn; exact h
  | get =>
    dsimp only at hn
    split at hn
    · rename_i hd
      cases hn
      have hxg : L[X.nx]? = some (L.getD X.nx default) := by rw [List.getD_eq_getElem?_getD, List.getElem?_eq_getElem hd.1]; rfl
      obtain ⟨g1, g2, i, g3, g4⟩ := hv.lt _ (List.mem_of_getElem? hxg)
      have hlf := Lf.come (C := C) (R := R) (P := P) (X := { X with nx := X.nx + 1 }) (i := (cNum C (L.getD X.nx default).ca).toNat) (key := (L.getD X.nx default).ke) (ge := X.nx) (ak := none) hV (fun j h => by cases h)
      have h0 : LInv C { X with nx := X.nx + 1 } fun i => gN C L X.nx i + aN C X i := LInv.lk h (Lk.of rfl rfl)
      obtain ⟨q1, q2⟩ := LInv.come (R := R) (P := P) (i := (cNum C (L.getD X.nx default).ca).toNat) (key := (L.getD X.nx default).ke) (ge := X.nx) (ak := none) h0 (by rw [g3, Int.toNat_natCast]; exact g4) (fun j h => by cases h)
      refine q1.congr fun a => ?_
      rw [q2, hlf.nx]
      show _ = gN C L (X.nx + 1) a + aN C X a
      rw [gN_next hd.1, g3, Int.toNat_natCast]
      by_cases e : (i : Int) = (a : Int)
      · rw [if_pos e, if_pos (by omega)]; omega
      · rw [if_neg e, if_neg (by omega)]; omega
    · cases hn; exact h
  | arr =>
    dsimp only at hn
    split at hn
    · rename_i j hj
      cases hn
      obtain ⟨⟨g1, g2, g3⟩, _⟩ := nextA_some hj
      exact h.arr hx hv g1 g2
    · cases hn; exact h
theorem xd0_linv : LNow C L (xd0 C L.length) := by
  have hd : ∀ i, (xd0 C L.length).Ld i = default := fun i => by
    show (C.map fun _ => (default : Ldd)).getD i default = default
    rw [List.getD_eq_getElem?_getD, List.getElem?_map]
    cases C[i]? <;> rfl
  refine ⟨by show (C.map _).length = _; simp, fun i hi => ?_, fun i hi => ?_, fun i hi => ?_⟩
  · rw [hd]
    show (0 : Int) = ((0 + 0 : Nat) : Int)
    rfl
  · rw [hd]; rfl
  · rw [hd]
    refine ⟨?_, ?_, ?_, ?_, ?_, ?_⟩ <;> exact Int.le_refl _
theorem XReach.linv {lim : Int} {m m' : Mod} (h : XReach C R E P L lim m X m' X') (hv : Val C R E P L) (hx : XInv C P L [] X) (hl : LNow C L X) : XInv C P L [] X' ∧ LNow C L X' := by
  induction h with
  | refl => exact ⟨hx, hl⟩
  | step _ hn ih =>
    obtain ⟨h1, h2⟩ := ih hx hl
    exact ⟨h1.next hv hn, LNow.next h2 h1 hv hn⟩
theorem EndX.linv {lim : Int} (h : EndX C R E P L lim X) (hv : Val C R E P L) : LNow C L X := (h.rch.linv hv (xd0_inv hv) xd0_linv).2
/-- What the first n caches ask of one. -/
def smA (C : List Cch) (l : List Ldd) (i : Nat) : Nat → Int
  | 0 => 0
  | n + 1 => smA C l i n + if parO C n = (i : Int) then (l.getD n default).ak else 0
theorem aT_succ (C : List Cch) (i : Int) (n : Nat) : ∀ l : List Xk, (l.map fun k => decide (parO C k.ca = i) && decide (k.ca < n + 1)).count true = (l.map fun k => decide (parO C k.ca = i) && decide (k.ca < n)).count true + if parO C n = i then (l.map fun k => decide (k.ca = n)).count true else 0
  | [] => by simp
  | k :: l => by
    have ih := aT_succ C i n l
    rw [List.map_cons, List.map_cons, List.map_cons, List.count_cons, List.count_cons, List.count_cons, ih]
    by_cases e : k.ca = n
    · subst e
      by_cases p : parO C k.ca = i
      · simp [p]; omega
      · simp [p]
    · have e2 : (k.ca < n + 1) ↔ k.ca < n := by omega
      by_cases p : parO C n = i
      · simp [p, e, e2]; omega
      · simp [p, e2]
theorem EndX.came (h : EndX C R E P L 1152921504606846976 X) (hv : Val C R E P L) {i : Nat} (hi : i < C.length) : LdB (X.Ld i) ∧ (X.Ld i).ca = (gN C L L.length i : Int) + smA C X.ld i C.length := by
  have hl := h.linv hv
  have hd := h.done hv
  refine ⟨hl.b i hi, ?_⟩
  have h1 := hl.ca i hi
  rw [hd.nx] at h1
  have e : aN C X i = (X.ak.map fun k => decide (parO C k.ca = (i : Int)) && decide (k.ca < C.length)).count true := by
    unfold aN
    congr 1
    refine List.map_congr_left fun k hk => ?_
    obtain ⟨j, _, hj⟩ := mem_at hk
    rw [(hd.ak j k hj).1, decide_eq_true (h.inv.kk j k hj).1]
    simp
  have hs : ∀ n, n ≤ C.length → smA C X.ld i n = (((X.ak.map fun k => decide (parO C k.ca = (i : Int)) && decide (k.ca < n)).count true : Nat) : Int) := by
    intro n
    induction n with
    | zero =>
      intro _
      have hz : ∀ l : List Xk, (l.map fun k => decide (parO C k.ca = (i : Int)) && decide (k.ca < 0)).count true = 0 := fun l => by
        induction l with
        | nil => rfl
        | cons a l ih => rw [List.map_cons, List.count_cons, ih]; simp
      rw [hz]
      rfl
    | succ n ih =>
      intro hn
      rw [smA, ih (by omega), aT_succ]
      split
      · have := hl.ak n (by omega)
        unfold Xd.Ld cN at this
        rw [this]
        simp
      · simp
  rw [h1, hs C.length (Nat.le_refl _), e]
  simp
/-- Names of caches are numbers. -/
theorem nm_num (hC : checkC C = 0) {i : Nat} {c : Cch} (hc : C[i]? = some c) (n : ByteArray) : (n.toList == c.na.toList) = decide (cNum C n = (i : Int)) := by
  obtain ⟨_, _, c2⟩ := cc_at hC
  by_cases e : n = c.na
  · subst e
    have h1 := (fidxC_hit (p := fun o => isC o c.na) hc (by unfold isC; simp) (fun j y hy hj => by
      have h2 := (c2 i c hc).2.1
      unfold hasC at h2
      have h3 := List.any_eq_false.1 h2 y (List.mem_of_getElem? (i := j) (by rw [List.getElem?_take]; simp [hj, hy]))
      simpa using h3)).1
    have h1 : cNum C c.na = (i : Int) := h1
    rw [decide_eq_true h1]
    simp
  · have hne : (n.toList == c.na.toList) = false := by
      cases h : (n.toList == c.na.toList)
      · rfl
      · exact absurd (ba_list (by simpa using h)) e
    rw [hne]
    symm
    apply decide_eq_false
    intro h
    have hi := (List.getElem?_eq_some_iff.1 hc).1
    have hf : C.findIdx (fun o => isC o n) = i := by
      have h : fidxC (fun o => isC o n) C = (i : Int) := h
      unfold fidxC at h
      split at h
      · omega
      · omega
    have hlt : C.findIdx (fun o => isC o n) < C.length := by omega
    have h2 := List.findIdx_getElem (w := hlt)
    have h3 : isC c n = true := by
      have e2 : C[C.findIdx (fun o => isC o n)]? = some c := by rw [hf]; exact hc
      rw [List.getElem?_eq_getElem hlt] at e2
      cases e2
      exact h2
    unfold isC at h3
    exact e (ba_list (by simpa using h3)).symm
end
end Go.Proofs.YtgohddfnhofjhaaGreatDoor

/- The law: loads add up. -/
namespace Go.Proofs.YtgohddfnhofjhaaGreatDoor
open Go.RowKit

section
variable {C : List Cch} {R : List Crl} {E : List Rel} {P : List Pur} {L : List Gt} {X X' : Xd}
theorem comeX_len {i : Nat} {key : ByteArray} {ge : Nat} {ak : Option Nat} : (X.comeX C R P i key ge ak).ak.length ≤ X.ak.length + 1 := by
  have hs : ∀ (Y : Xd) (al : Bool) (ws : List Xw), (Y.startX C i key al ws).ak.length = Y.ak.length + 1 := fun Y al ws => by
    show (Y.ak ++ [_]).length = _
    simp
  unfold Xd.comeX
  split
  · rw [hs]; exact Nat.le_refl _
  · split
    · split
      · rw [giveX_len]; exact Nat.le_succ _
      · split
        · rw [giveX_len]; exact Nat.le_succ _
        · rw [giveX_len, hs]; exact Nat.le_refl _
    · split
      · show (Xd.setA _ _ _).ak.length ≤ _
        rw [setA_len]; exact Nat.le_succ _
      · rw [hs]; exact Nat.le_refl _
theorem givesX_len {a : Ans} : ∀ (ws : List Xw) (X : Xd), (X.givesX C ws a).ak.length = X.ak.length
  | [], _ => rfl
  | w :: ws, X => (givesX_len ws (X.giveX C w a)).trans giveX_len
theorem backX_len {j : Nat} : (X.backX C R P j).ak.length = X.ak.length := by
  have h1 : (X.doneX j).ak.length = X.ak.length := setA_len
  have h2 : ∀ (Y : Xd) (i : Nat) (key : ByteArray) (a : Ans), (Y.keepX C R P i key a).ak.length = Y.ak.length := fun Y i key a => by
    unfold Xd.keepX
    split
    · rfl
    · split <;> rfl
  unfold Xd.backX
  split
  · rw [h2, givesX_len, h1]
  · rw [givesX_len, h1]
theorem arrX_len {j : Nat} : (X.arrX C R E P j).ak.length ≤ X.ak.length + 1 := by
  have h1 : (X.cameX j).ak.length = X.ak.length := setA_len
  unfold Xd.arrX
  split
  · have := comeX_len (C := C) (R := R) (P := P) (X := X.cameX j) (i := (parO C (X.K j).ca).toNat) (key := (X.K j).ke) (ge := 0) (ak := some j)
    omega
  · rw [giveX_len, h1]; exact Nat.le_succ _
/-- How many asks there may be. -/
theorem mu_next {lim : Int} {m m' : Mod} (hx : XInv C P L [] X) (hv : Val C R E P L) (hn : X.next C R E P L lim m = some (m', X')) : X'.ak.length + muX C P L X' ≤ X.ak.length + muX C P L X := by
  have hV : ∀ (i : Nat) (x : Cch), C[i]? = some x → 1 ≤ x.de ∧ x.de ≤ 100000 := fun i x hx => (hv.cd i x hx).1
  unfold Xd.next at hn
  cases m with
  | out =>
    dsimp only at hn
    split at hn
    · cases hn
    · split at hn
      · cases hn
      · cases hn; exact Nat.le_refl _
  | pur =>
    dsimp only at hn
    split at hn
    · cases hn
      show X.ak.length + (sumK X + ((L.drop X.nx).map (wG C)).sum + (P.length - (X.pg + 1))) ≤ X.ak.length + (sumK X + ((L.drop X.nx).map (wG C)).sum + (P.length - X.pg))
      omega
    · cases hn; exact Nat.le_refl _
  | bak =>
    dsimp only at hn
    split at hn
    · rename_i j hj
      cases hn
      obtain ⟨⟨g1, g2, g3, g4⟩, _⟩ := nextB_some hj
      obtain ⟨b1, b2, b3, b4, b5⟩ := back_left (R := R) hx hV g1 g2 g3
      unfold muX
      rw [b1, b2, backX_len]
      omega
    · cases hn; exact Nat.le_refl _
  | get =>
    dsimp only at hn
    split at hn
    · rename_i hd
      cases hn
      have hlf := Lf.come (C := C) (R := R) (P := P) (X := { X with nx := X.nx + 1 }) (i := (cNum C (L.getD X.nx default).ca).toNat) (key := (L.getD X.nx default).ke) (ge := X.nx) (ak := none) hV (fun j h => by cases h)
      have hc := comeX_len (C := C) (R := R) (P := P) (X := { X with nx := X.nx + 1 }) (i := (cNum C (L.getD X.nx default).ca).toNat) (key := (L.getD X.nx default).ke) (ge := X.nx) (ak := none)
      have hs := hlf.sk
      have e1 : sumK { X with nx := X.nx + 1 } = sumK X := rfl
      have e2 : ((L.drop X.nx).map (wG C)).sum = wG C (L.getD X.nx default) + ((L.drop (X.nx + 1)).map (wG C)).sum := by
        have hd1 := hd.1
        rw [show L.getD X.nx default = L[X.nx]'hd1 from getD_at (List.getElem?_eq_getElem hd1), List.drop_eq_getElem_cons hd1, List.map_cons, List.sum_cons]
      unfold muX
      rw [hlf.nx, hlf.pg, e2]
      show _ + (_ + ((L.drop (X.nx + 1)).map (wG C)).sum + (P.length - X.pg)) ≤ _
      unfold wG at *
      have hc : _ ≤ X.ak.length + 1 := hc
      omega
    · cases hn; exact Nat.le_refl _
  | arr =>
    dsimp only at hn
    split at hn
    · rename_i j hj
      cases hn
      obtain ⟨⟨g1, g2, g3⟩, _⟩ := nextA_some hj
      obtain ⟨b1, b2, b3, b4, b5, b6⟩ := arr_left hx hv g1 g2
      have hc := arrX_len (C := C) (R := R) (E := E) (P := P) (X := X) (j := j)
      unfold muX
      rw [b1, b2]
      omega
    · cases hn; exact Nat.le_refl _
theorem XReach.mu {lim : Int} {m m' : Mod} (h : XReach C R E P L lim m X m' X') (hv : Val C R E P L) (hx : XInv C P L [] X) : XInv C P L [] X' ∧ X'.ak.length + muX C P L X' ≤ X.ak.length + muX C P L X := by
  induction h with
  | refl => exact ⟨hx, Nat.le_refl _⟩
  | step _ hn ih =>
    obtain ⟨h1, h2⟩ := ih hx
    exact ⟨h1.next hv hn, Nat.le_trans (mu_next h1 hv hn) h2⟩
theorem EndX.akl {lim : Int} (h : EndX C R E P L lim X) (hv : Val C R E P L) : X.ak.length ≤ 61200 := by
  have h1 := (h.rch.mu hv (xd0_inv hv)).2
  have h2 := xd0_mu hv
  have h3 : (xd0 C L.length).ak.length = 0 := rfl
  omega
theorem count_le_len (l : List Bool) : l.count true ≤ l.length := List.count_le_length
/-- What the law asks of a cache's load. -/
structure LawL (C : List Cch) (L : List Gt) (ld : List Ldd) (i : Nat) (c : Cch) (x : Ldd) : Prop where
  b : LdB x
  ca : x.ca = (((L.map fun g => g.ca.toList == c.na.toList).count true : Nat) : Int) + smA C ld i C.length
  bd : x.ca ≤ 100000
  ak : 0 ≤ x.ak
  sm : ∀ n, n ≤ C.length → 0 ≤ smA C ld i n ∧ smA C ld i n ≤ smA C ld i C.length
theorem smA_mono (C : List Cch) (ld : List Ldd) (i : Nat) (h : ∀ n, n < C.length → 0 ≤ (ld.getD n default).ak) : ∀ n, n ≤ C.length → 0 ≤ smA C ld i n ∧ ∀ m, n + m ≤ C.length → smA C ld i n ≤ smA C ld i (n + m) := by
  have step : ∀ n, n < C.length → smA C ld i n ≤ smA C ld i (n + 1) := fun n hn => by
    rw [smA]
    have := h n hn
    split <;> omega
  have pos : ∀ n, n ≤ C.length → 0 ≤ smA C ld i n := by
    intro n
    induction n with
    | zero => intro _; exact Int.le_refl _
    | succ n ih => intro hn; have := step n (by omega); have := ih (by omega); omega
  refine fun n hn => ⟨pos n hn, fun m => ?_⟩
  induction m with
  | zero => intro _; exact Int.le_refl _
  | succ m ih => intro hm; have := ih (by omega); have := step (n + m) (by omega); rw [Nat.add_assoc] at this; omega
theorem EndX.loads (h : EndX C R E P L 1152921504606846976 X) (hs : checkS C R E P L = 0) {i : Nat} {c : Cch} (hc : C[i]? = some c) : LawL C L X.ld i c (X.Ld i) := by
  have hv := val_of hs
  have hi := (List.getElem?_eq_some_iff.1 hc).1
  have hC : checkC C = 0 := by
    unfold checkS at hs
    by_cases hd : checkD C R E P = 0
    · exact (checkD_zero hd).1
    · rw [if_pos hd] at hs; exact absurd hs hd
  obtain ⟨h1, h2⟩ := h.came hv hi
  have hl := h.linv hv
  have hd := h.done hv
  have hak : ∀ n, n < C.length → 0 ≤ (X.ld.getD n default).ak := fun n hn => by
    have := hl.ak n hn
    unfold Xd.Ld at this
    omega
  have hg : (((L.map fun g => g.ca.toList == c.na.toList).count true : Nat) : Int) = (gN C L L.length i : Int) := by
    unfold gN
    rw [List.take_length]
    congr 2
    exact List.map_congr_left fun g _ => nm_num hC hc g.ca
  have hm := smA_mono C X.ld i hak
  refine ⟨h1, by rw [hg]; exact h2, ?_, hak i hi, fun n hn => ⟨(hm n hn).1, ?_⟩⟩
  · have h3 := hl.ca i hi
    have h4 := h.akl hv
    have h5 : gN C L X.nx i ≤ 1000 := by
      refine Nat.le_trans (count_le_len _) ?_
      have := hv.l
      simp; omega
    have h6 : aN C X i ≤ X.ak.length := by
      refine Nat.le_trans (count_le_len _) ?_
      simp
    omega
  · have := (hm n hn).2 (C.length - n) (by omega)
    rw [show n + (C.length - n) = C.length by omega] at this
    exact this
end
set_option maxRecDepth 100000 in
set_option maxHeartbeats 4000000 in
theorem getsOf_any (w : World) (L : List Gt) (v : Value) (n : ByteArray) (hl : Sl w 3 encT v L) (hn : L.length ≤ 1000) :
    Calls Tryz.prog 18 #[v, .string n] w fun e w' => e = .returned (.int .i64 (((L.map fun g => g.ca.toList == n.toList).count true : Nat) : Int)) ∧ Below w.heap.size w w' := by
  obtain ⟨ao, cap, rfl, hcap, hmax, -, hel⟩ := hl
  unfold maxLen at hmax
  have HEL := Lib.hid hel
  clear hel
  obtain ⟨F, hF⟩ : ∃ F : Nat → Nat, F = fun k => ((L.take k).map fun g => g.ca.toList == n.toList).count true := ⟨_, rfl⟩
  have hF0 : F 0 = 0 := by rw [hF]; rfl
  have hFl : (L.map fun g => g.ca.toList == n.toList).count true = F L.length := by rw [hF]; simp
  have HFS : Hid (∀ k x, L[k]? = some x → F (k + 1) = F k + if (x.ca.toList == n.toList) = true then 1 else 0) := Lib.hid fun k x hx => by
    rw [hF]
    dsimp only
    rw [List.take_add_one, hx, List.map_append, List.count_append]
    cases h : (x.ca.toList == n.toList) <;> simp [h]
  have HFB : Hid (∀ k, k ≤ L.length → F k ≤ 1000) := Lib.hid fun k hk => by
    rw [hF]
    refine Nat.le_trans (count_le_len _) ?_
    simp; omega
  rw [hFl]
  have HF0 := Lib.hid hF0
  clear hF hF0 hFl
  go_enter Tryz.func18, Tryz.ntmps18
  go_wp2_with fail
  go_loopg [5, 7, 10] L.length (fun gg s5 s7 s10 wr => ∃ (kk : Nat) (v7 : Value), kk ≤ L.length ∧ L.length - kk ≤ gg ∧ s10 = .int .i64 kk ∧ s5 = .int .i64 (F kk : Nat) ∧ s7 = v7 ∧ Aside (Below w.heap.size w wr))
  case atStart => exact ⟨0, _, Nat.zero_le _, by omega, rfl, by rw [HF0.out]; rfl, rfl, Below.refl _ _⟩
  case round =>
    obtain ⟨kk, v7, hkk, hg, rfl, rfl, rfl, BW⟩ := hrel
    have hfb := HFB.out kk hkk
    by_cases hlt : kk < L.length
    · have hltz : (kk : Int) < (L.length : Int) := by omega
      obtain ⟨x, hx⟩ : ∃ x, L[kk]? = some x := ⟨_, List.getElem?_eq_getElem hlt⟩
      obtain ⟨b, off, rfl, hc⟩ := HEL.out kk x hx
      have hl2 := World.block_lt_of_cell? w _ (hc 0 _ rfl)
      have c0 : wr.cell? ⟨b, off + kk * 3, none⟩ = some (.int .i64 x.ti) := by have h := (BW.out.cell (p := ⟨b, off + kk * 3 + 0, none⟩) hl2).trans (hc 0 _ rfl); simpa using h
      have c1 : wr.cell? ⟨b, off + kk * 3 + 1, none⟩ = some (.string x.ca) := (BW.out.cell (p := ⟨b, off + kk * 3 + 1, none⟩) hl2).trans (hc 1 _ rfl)
      have c2 : wr.cell? ⟨b, off + kk * 3 + 2, none⟩ = some (.string x.ke) := (BW.out.cell (p := ⟨b, off + kk * 3 + 2, none⟩) hl2).trans (hc 2 _ rfl)
      have HNX := Lib.hid (HFS.out kk x hx)
      have hsz := BW.out.size
      have HB := Lib.hid (BW.out.alloc hsz (.cells #[.int .i64 x.ti, .string x.ca, .string x.ke] 37))
      have hww : IntKind.i64.wrap ((F kk : Int) + 1) = (F kk : Int) + 1 := IntWalk.i64_in _ (by omega)
      clear hc hx
      cases h1 : (x.ca.toList == n.toList)
      · have hv : Hid (F (kk + 1) = F kk) := Lib.hid (by rw [HNX.out, h1]; rfl)
        go_wp2_with fail
        go_roundg (L.length - (kk + 1))
        case measure => omega
        case rel => exact ⟨kk + 1, _, by omega, by omega, by go_num, by rw [hv.out], rfl, HB.out⟩
      · have hv : Hid (F (kk + 1) = F kk + 1) := Lib.hid (by rw [HNX.out, h1]; rfl)
        go_wp2_with fail
        go_roundg (L.length - (kk + 1))
        case measure => omega
        case rel => exact ⟨kk + 1, _, by omega, by omega, by go_num, by rw [hv.out]; rfl, rfl, HB.out⟩
    · obtain rfl : kk = L.length := by omega
      have hltz : ¬ (L.length : Int) < (L.length : Int) := by omega
      go_wp2_with fail
      go_ret
      exact ⟨rfl, BW.out⟩
end Go.Proofs.YtgohddfnhofjhaaGreatDoor

/- The law that loads add up: the walk. -/
namespace Go.Proofs.YtgohddfnhofjhaaGreatDoor
open Go.RowKit

set_option maxRecDepth 100000 in
set_option maxHeartbeats 8000000 in
theorem loadsAdd_any (w : World) (C : List Cch) (R : List Crl) (E : List Rel) (P : List Pur) (L : List Gt) (vc vr ve vp vl : Value) (h : InS w C R E P L vc vr ve vp vl) (hw : WfS C R E P L) (m : Int) (hm : w.cell? ⟨0, 0, none⟩ = some (.int .i64 m)) :
    Calls Tryz.prog 5 #[.agg #[vc, vr, ve, vp], vl] w fun e' w' => e' = .returned (.bool true) ∧ Below w.heap.size w w' := by
  have h0 := World.block_lt_of_cell? w _ hm
  obtain ⟨w2, hw2⟩ : ∃ w2, w2 = w.alloc (.cells #[vc, vr, ve, vp] 27) := ⟨_, rfl⟩
  have hb2 : Below w.heap.size w w2 := by rw [hw2]; exact (Below.refl _ w).alloc (Nat.le_refl _) _
  have hnb : w2.heap[w.heap.size]? = some (.cells #[vc, vr, ve, vp] 27 (0, 0)) := by rw [hw2]; exact block_new w _
  have hlt : w.heap.size < w2.heap.size := (Array.getElem?_eq_some_iff.1 hnb).1
  have h2 := h.below hb2
  have H1 := Lib.hid (Loads_any w2 C R E P L vc vr ve vp vl h2 hw)
  have H5 := Lib.hid (fun (W : World) (hW : Below w.heap.size w W) => awakeE_any W m ((hW.cell (p := ⟨0, 0, none⟩) h0).trans hm))
  have HGt := Lib.hid (fun (W : World) (hW : Below w2.heap.size w2 W) (hl : L.length ≤ 1000) (n : ByteArray) => getsOf_any W L vl n (h2.below hW).l hl)
  have HV : Hid (checkS C R E P L = 0 → checkS C R E P L = 0) := Lib.hid id
  obtain ⟨co, cc, rfl, hcc, hcm, -, hcel⟩ := h2.c
  obtain ⟨lo, lc, rfl, hlc, hlm, -, -⟩ := h2.l
  unfold maxLen at hlm hcm
  have HCL := Lib.hid hcel
  have HQ := Lib.hid (fun (W : World) (hW : Below w2.heap.size w2 W) => cellF ((hW.block _ hlt).trans hnb) 0 (v := .slice co C.length cc) rfl)
  have q0 : w2.cell? ⟨w.heap.size, 0, none⟩ = some (.slice co C.length cc) := cellF hnb 0 rfl
  have q1 : w2.cell? ⟨w.heap.size, 1, none⟩ = some vr := cellF hnb 1 rfl
  have q2 : w2.cell? ⟨w.heap.size, 2, none⟩ = some ve := cellF hnb 2 rfl
  have q3 : w2.cell? ⟨w.heap.size, 3, none⟩ = some vp := cellF hnb 3 rfl
  have HW2 := Lib.hid hw2
  have HB2 := Lib.hid hb2
  clear h h2 hw hm hw2 hb2 hnb hcel
  obtain ⟨D0, hD0⟩ : ∃ D0, D0 = w.heap.size := ⟨_, rfl⟩
  have HD := Lib.hid hD0
  rw [← hD0] at HQ q0 q1 q2 q3
  clear hD0
  obtain ⟨S, hS0⟩ : ∃ S, S = checkS C R E P L := ⟨_, rfl⟩
  rw [← hS0] at H1 HV
  go_enter Tryz.func5, Tryz.ntmps5
  go_upto_region 1 with (fail)
  rw [← HW2.out, ← HD.out]
  have HS0 := Lib.hid hS0
  clear hS0
  go_upto_region 2 with (go_at_call 17; (with_reducible refine H1.out.mono ?_); rintro e w3 ⟨⟨v, rfl, l, hs, hl1, hl2⟩, hb3⟩; have HS := Lib.hid hs; have HB3 := Lib.hid hb3; have HL1 := Lib.hid hl1; have HL2 := Lib.hid hl2; clear hs hb3 hl1 hl2 q0 q1 q2 q3)
  have HB3' := Lib.hid (HB2.out.thru HB3.out)
  by_cases hS : S = 0
  case neg =>
    obtain rfl := HL1.out hS
    obtain ⟨a1, c1, rfl, -⟩ := HS.out
    have hne : (S != 0) = true := by simpa using hS
    clear hS
    go_wp2_with (go_at_call 11; (with_reducible refine (H5.out w3 HB3'.out).mono ?_); rintro e w6 ⟨rfl, hb6⟩; have HB6 := Lib.hid (HB3'.out.thru hb6); clear hb6)
    go_ret
    exact ⟨rfl, HB6.out⟩
  subst hS
  have hcs := HS0.out.symm
  have hv := val_of hcs
  obtain ⟨X, hE, rfl⟩ := HL2.out rfl
  have hgl : X.ld.length = C.length := hE.inv.le.2.1
  have hl1000 := hv.l
  have hc30 := hv.c
  have HLaw : Hid (∀ (i : Nat) (c : Cch), C[i]? = some c → LawL C L X.ld i c (X.Ld i)) := Lib.hid fun i c hc => hE.loads hcs hc
  have HNum : Hid (∀ (i j : Nat) (c x : Cch), C[i]? = some c → C[j]? = some x → (x.pa.toList == c.na.toList) = decide (parO C j = (i : Int))) := Lib.hid fun i j c x hc hx => by
    have hC : checkC C = 0 := by
      have hs := hcs
      unfold checkS at hs
      by_cases hd : checkD C R E P = 0
      · exact (checkD_zero hd).1
      · rw [if_pos hd] at hs; exact absurd hs hd
    rw [nm_num hC hc]
    unfold parO
    rw [getD_at hx]
  obtain ⟨ao, cap, hvv, hcap, hmax, -, hel⟩ := HS.out
  unfold maxLen at hmax
  rw [hgl] at hvv hcap
  subst hvv
  have HEL := Lib.hid hel
  have HGt' := Lib.hid (fun (W : World) (hW : Below w2.heap.size w2 W) (n : ByteArray) => HGt.out W hW hl1000 n)
  have HQ3 := HQ.out w3 HB3.out
  clear hel hv hE HL1 HL2 HV HS H1 hcs HS0 HGt
  go_wp2_with (go_at_call 11; (with_reducible refine (H5.out w3 HB3'.out).mono ?_); rintro e w6 ⟨rfl, hb6⟩; have HB6 := Lib.hid (HB3.out.thru hb6); have HB7 := Lib.hid hb6; have HQ6 := HQ.out w6 (HB3.out.thru hb6); clear hb6 HQ3)
  go_loopg [7, 8, 9, 10, 11, 12, 40, 52] C.length (fun gg s7 s8 s9 s10 s11 s12 s40 s52 wr => ∃ (kk : Nat), kk ≤ C.length ∧ C.length - kk ≤ gg ∧ s40 = .int .i64 kk ∧ Aside (Below w3.heap.size w3 wr))
  case atStart => exact ⟨0, Nat.zero_le _, by omega, rfl, HB7.out⟩
  case round =>
    obtain ⟨wq, rfl⟩ : ∃ wq : World, wq = wr := ⟨_, rfl⟩
    obtain ⟨kk, hkk, hg, rfl, BW⟩ := hrel
    have HBr : Hid (Below w2.heap.size w2 wq) := Lib.hid (HB3.out.thru BW.out)
    by_cases hlt2 : kk < C.length
    · have hltz : (kk : Int) < (C.length : Int) := by omega
      obtain ⟨c, hce⟩ : ∃ c, C[kk]? = some c := ⟨_, List.getElem?_eq_getElem hlt2⟩
      obtain ⟨x, hxk⟩ : ∃ x, x = X.Ld kk := ⟨_, rfl⟩
      have hxe : X.ld[kk]? = some x := by rw [hxk]; unfold Xd.Ld; rw [getD_at (List.getElem?_eq_getElem (by omega : kk < X.ld.length))]; exact List.getElem?_eq_getElem _
      have hlaw := HLaw.out kk c hce
      rw [← hxk] at hlaw
      obtain ⟨⟨b1, b2, b3, b4, b5, b6⟩, b7, b8, b9, b10⟩ := hlaw
      obtain ⟨cb, coff, rfl, hc⟩ := HCL.out kk c hce
      obtain ⟨b, off, rfl, hx6⟩ := HEL.out kk x hxe
      have hlc2 := World.block_lt_of_cell? w2 _ (hc 0 _ rfl)
      have hlb3 := World.block_lt_of_cell? w3 _ (hx6 0 _ rfl)
      have k0 : wq.cell? ⟨cb, coff + kk * 4, none⟩ = some (.string c.na) := by have h := (HBr.out.cell (p := ⟨cb, coff + kk * 4 + 0, none⟩) hlc2).trans (hc 0 _ rfl); simpa using h
      have k1 : wq.cell? ⟨cb, coff + kk * 4 + 1, none⟩ = some (.string c.pa) := (HBr.out.cell (p := ⟨cb, coff + kk * 4 + 1, none⟩) hlc2).trans (hc 1 _ rfl)
      have k2 : wq.cell? ⟨cb, coff + kk * 4 + 2, none⟩ = some (.int .i64 c.de) := (HBr.out.cell (p := ⟨cb, coff + kk * 4 + 2, none⟩) hlc2).trans (hc 2 _ rfl)
      have k3 : wq.cell? ⟨cb, coff + kk * 4 + 3, none⟩ = some (.int .i64 c.ro) := (HBr.out.cell (p := ⟨cb, coff + kk * 4 + 3, none⟩) hlc2).trans (hc 3 _ rfl)
      obtain ⟨N, hN⟩ : ∃ N, N = wq.heap.size := ⟨_, rfl⟩
      obtain ⟨w4, hw4⟩ : ∃ w4, w4 = wq.alloc (.cells #[.string c.na, .string c.pa, .int .i64 c.de, .int .i64 c.ro] 47) := ⟨_, rfl⟩
      have hb4 : Below wq.heap.size wq w4 := by rw [hw4]; exact (Below.refl _ wq).alloc (Nat.le_refl _) _
      have hn4 : w4.heap[N]? = some (.cells #[.string c.na, .string c.pa, .int .i64 c.de, .int .i64 c.ro] 47 (0, 0)) := by rw [hN, hw4]; exact block_new wq _
      have hlt4 : N < w4.heap.size := (Array.getElem?_eq_some_iff.1 hn4).1
      have HB4 : Hid (Below w2.heap.size w2 w4) := Lib.hid (HBr.out.thru hb4)
      have HG4 := Lib.hid (HGt'.out w4 HB4.out c.na)
      have HN4 : Hid (∀ W, Below w4.heap.size w4 W → W.cell? ⟨N, 0, none⟩ = some (.string c.na)) := Lib.hid fun W hW => cellF ((hW.block _ hlt4).trans hn4) 0 rfl
      have n0 := HN4.out w4 (Below.refl _ _)
      have HBW4 : Hid (Below w3.heap.size w3 w4) := Lib.hid (BW.out.trans (hb4.mono BW.out.size))
      have HSM : Hid (∀ n, n < C.length → smA C X.ld kk (n + 1) = smA C X.ld kk n + if parO C n = (kk : Int) then (X.ld.getD n default).ak else 0) := Lib.hid fun n _ => rfl
      have hG0 : 0 ≤ (((L.map fun g => g.ca.toList == c.na.toList).count true : Nat) : Int) := Int.natCast_nonneg _
      generalize (((L.map fun g => g.ca.toList == c.na.toList).count true : Nat) : Int) = G at b7 HG4 hG0
      obtain ⟨F, hF⟩ : ∃ F : Nat → Int, F = fun n => G + smA C X.ld kk n := ⟨_, rfl⟩
      have hF0 : F 0 = G := by rw [hF]; show G + 0 = G; omega
      have hFe : x.ca = F C.length := by rw [hF]; exact b7
      have HFS : Hid (∀ n, n < C.length → F (n + 1) = F n + if parO C n = (kk : Int) then (X.ld.getD n default).ak else 0) := Lib.hid fun n hn => by rw [hF]; dsimp only; rw [HSM.out n hn]; omega
      have HFB : Hid (∀ n, n ≤ C.length → 0 ≤ F n ∧ F n ≤ 100000) := Lib.hid fun n hn => by
        have := b10 n hn
        rw [hF]; dsimp only; omega
      have HF0 := Lib.hid hF0
      have HFe := Lib.hid hFe
      have HX6 := Lib.hid hx6
      have HCC := Lib.hid hc
      have HCE := Lib.hid hce
      have HW4 := Lib.hid hw4
      have HN := Lib.hid hN
      clear hw4 hN hF hF0 hFe hx6 hc hce hb4 hn4 b7 b10 HSM hxe hxk
      go_upto_region 9 with (fail)
      rw [← HW4.out, ← HN.out]
      go_upto_region 10 with (go_at_call 18; (with_reducible refine HG4.out.mono ?_); rintro e w5 ⟨rfl, hb5⟩; have HB5 := Lib.hid hb5; have n1 := HN4.out w5 hb5; have r0 := HQ.out w5 (HB4.out.thru hb5); clear hb5 n0 HG4 k0 k1 k2 k3)
      have HB35 : Hid (Below w3.heap.size w3 w5) := Lib.hid (HBW4.out.trans (HB5.out.mono HBW4.out.size))
      have HN5 : Hid (∀ W, Below w5.heap.size w5 W → W.cell? ⟨N, 0, none⟩ = some (.string c.na)) := Lib.hid fun W hW => HN4.out W (HB5.out.thru hW)
      rw [← HF0.out]
      go_wp2_with fail
      go_loopg [9, 10, 11, 52] C.length (fun gg s9 s10 s11 s52 wr => ∃ (jj : Nat), jj ≤ C.length ∧ C.length - jj ≤ gg ∧ s52 = .int .i64 jj ∧ s9 = .int .i64 (F jj) ∧ Aside (Below w5.heap.size w5 wr))
      case atStart => exact ⟨0, Nat.zero_le _, by omega, rfl, rfl, Below.refl _ _⟩
      case round =>
        obtain ⟨wi, rfl⟩ : ∃ wi : World, wi = wr := ⟨_, rfl⟩
        obtain ⟨jj, hjj, hgj, rfl, rfl, BI⟩ := hrel
        obtain ⟨f1, f2⟩ := HFB.out jj hjj
        have HB3i : Hid (Below w3.heap.size w3 wi) := Lib.hid (HB35.out.trans (BI.out.mono HB35.out.size))
        have HB2i : Hid (Below w2.heap.size w2 wi) := Lib.hid (HB3.out.thru HB3i.out)
        by_cases hlj : jj < C.length
        · have hltj : (jj : Int) < (C.length : Int) := by omega
          obtain ⟨y, hye⟩ : ∃ y, C[jj]? = some y := ⟨_, List.getElem?_eq_getElem hlj⟩
          obtain ⟨z, hze⟩ : ∃ z, X.ld[jj]? = some z := ⟨_, List.getElem?_eq_getElem (by omega)⟩
          obtain ⟨cb', coff', e1, hc⟩ := HCL.out jj y hye
          simp only [Option.some.injEq, Addr.mk.injEq, and_true] at e1
          obtain ⟨rfl, rfl⟩ := e1
          obtain ⟨b', off', e2, hz⟩ := HEL.out jj z hze
          simp only [Option.some.injEq, Addr.mk.injEq, and_true] at e2
          obtain ⟨rfl, rfl⟩ := e2
          have j0 : wi.cell? ⟨cb, coff + jj * 4, none⟩ = some (.string y.na) := by have h := (HB2i.out.cell (p := ⟨cb, coff + jj * 4 + 0, none⟩) hlc2).trans (hc 0 _ rfl); simpa using h
          have j1 : wi.cell? ⟨cb, coff + jj * 4 + 1, none⟩ = some (.string y.pa) := (HB2i.out.cell (p := ⟨cb, coff + jj * 4 + 1, none⟩) hlc2).trans (hc 1 _ rfl)
          have j2 : wi.cell? ⟨cb, coff + jj * 4 + 2, none⟩ = some (.int .i64 y.de) := (HB2i.out.cell (p := ⟨cb, coff + jj * 4 + 2, none⟩) hlc2).trans (hc 2 _ rfl)
          have j3 : wi.cell? ⟨cb, coff + jj * 4 + 3, none⟩ = some (.int .i64 y.ro) := (HB2i.out.cell (p := ⟨cb, coff + jj * 4 + 3, none⟩) hlc2).trans (hc 3 _ rfl)
          have n2 := HN5.out wi BI.out
          have hNi : N < wi.heap.size := World.block_lt_of_cell? wi _ n2
          have hbi : b < wi.heap.size := Nat.lt_of_lt_of_le hlb3 HB3i.out.size
          have a4 : wi.cell? ⟨b, off + jj * 6 + 4, none⟩ = some (.int .i64 z.ak) := (HB3i.out.cell (p := ⟨b, off + jj * 6 + 4, none⟩) hlb3).trans (hz 4 _ rfl)
          have hnum := HNum.out kk jj c y HCE.out hye
          have HNX := Lib.hid (HFS.out jj hlj)
          have hzd : X.ld.getD jj default = z := getD_at hze
          obtain ⟨f3, f4⟩ := HFB.out (jj + 1) (by omega)
          have hsz := BI.out.size
          have HBx := Lib.hid (BI.out.alloc hsz (.cells #[.string y.na, .string y.pa, .int .i64 y.de, .int .i64 y.ro] 47))
          rw [hzd] at HNX
          clear hc hz hye hze hzd
          cases h1 : (y.pa.toList == c.na.toList)
          · have hv : Hid (F (jj + 1) = F jj) := Lib.hid (by rw [HNX.out, if_neg (of_decide_eq_false (hnum.symm.trans h1))]; omega)
            clear hnum
            go_wp2_with fail
            go_roundg (C.length - (jj + 1))
            case measure => omega
            case rel => exact ⟨jj + 1, by omega, by omega, by go_num, by rw [hv.out], HBx.out⟩
          · have hv : Hid (F (jj + 1) = F jj + z.ak) := Lib.hid (by rw [HNX.out, if_pos (of_decide_eq_true (hnum.symm.trans h1))])
            have hww : IntKind.i64.wrap (F jj + z.ak) = F jj + z.ak := IntWalk.i64_in _ (by rw [← hv.out]; omega)
            clear hnum
            go_wp2_with fail
            go_roundg (C.length - (jj + 1))
            case measure => omega
            case rel => exact ⟨jj + 1, by omega, by omega, by go_num, by rw [hv.out], HBx.out⟩
        · obtain rfl : jj = C.length := by omega
          have hltj : ¬ (C.length : Int) < (C.length : Int) := by omega
          rw [← HFe.out]
          have a0 : wi.cell? ⟨b, off + kk * 6, none⟩ = some (.int .i64 x.ca) := by have h := (HB3i.out.cell (p := ⟨b, off + kk * 6 + 0, none⟩) hlb3).trans (HX6.out 0 _ rfl); simpa using h
          have a1 : wi.cell? ⟨b, off + kk * 6 + 1, none⟩ = some (.int .i64 x.fr) := (HB3i.out.cell (p := ⟨b, off + kk * 6 + 1, none⟩) hlb3).trans (HX6.out 1 _ rfl)
          have a2 : wi.cell? ⟨b, off + kk * 6 + 2, none⟩ = some (.int .i64 x.sl) := (HB3i.out.cell (p := ⟨b, off + kk * 6 + 2, none⟩) hlb3).trans (HX6.out 2 _ rfl)
          have a3 : wi.cell? ⟨b, off + kk * 6 + 3, none⟩ = some (.int .i64 x.wt) := (HB3i.out.cell (p := ⟨b, off + kk * 6 + 3, none⟩) hlb3).trans (HX6.out 3 _ rfl)
          have a4 : wi.cell? ⟨b, off + kk * 6 + 4, none⟩ = some (.int .i64 x.ak) := (HB3i.out.cell (p := ⟨b, off + kk * 6 + 4, none⟩) hlb3).trans (HX6.out 4 _ rfl)
          have a5 : wi.cell? ⟨b, off + kk * 6 + 5, none⟩ = some (.int .i64 x.bs) := (HB3i.out.cell (p := ⟨b, off + kk * 6 + 5, none⟩) hlb3).trans (HX6.out 5 _ rfl)
          have w1 : IntKind.i64.wrap (x.fr + x.sl) = x.fr + x.sl := IntWalk.i64_in _ (by omega)
          have w2 : IntKind.i64.wrap (x.fr + x.sl + x.wt) = x.fr + x.sl + x.wt := IntWalk.i64_in _ (by omega)
          have w3' : IntKind.i64.wrap (x.fr + x.wt) = x.fr + x.wt := IntWalk.i64_in _ (by omega)
          have w4' : IntKind.i64.wrap (x.fr + x.wt + x.ak) = x.fr + x.wt + x.ak := IntWalk.i64_in _ (by omega)
          have w5' : IntKind.i64.wrap (x.ca - x.sl) = x.ca - x.sl := IntWalk.i64_in _ (by omega)
          have n1' : (x.ca != x.ca) = false := by simp
          have n2' : ¬ x.ca < x.fr + x.sl + x.wt := by omega
          have n3' : ¬ x.ca < x.ak := by omega
          have n4' : ¬ x.fr + x.wt + x.ak < x.ca - x.sl := by omega
          have hsz := HB3i.out.size
          have HBx := Lib.hid (HB3i.out.alloc hsz (.cells #[.int .i64 x.ca, .int .i64 x.fr, .int .i64 x.sl, .int .i64 x.wt, .int .i64 x.ak, .int .i64 x.bs] 50))
          go_wp2_with fail
          go_roundg (C.length - (kk + 1))
          case measure => omega
          case rel => exact ⟨kk + 1, by omega, by omega, by go_num, HBx.out⟩
    · obtain rfl : kk = C.length := by omega
      have hltz : ¬ (C.length : Int) < (C.length : Int) := by omega
      go_wp2_with fail
      go_ret
      exact ⟨rfl, HB2.out.thru HBr.out⟩
end Go.Proofs.YtgohddfnhofjhaaGreatDoor

/- The day as the document tells it: it goes one way; what was answered stays; gets that come later change nothing before. -/
import Derived.Test.YtgohddfnhofjhaaGreatDoorB25
import Derived.Shelf.SlSortCmp.NoneTotal
import Derived.Shelf.SlGeneric
import Derived.Test.YtgohddfnhofjhaaGreatDoorProg
import Derived.Test.YtgohddfnhofjhaaGreatDoorB02
namespace Go.Proofs.YtgohddfnhofjhaaGreatDoor
open Go.RowKit

/-- A get is not answered yet. -/
def Wai (pd : List Xw) (X : Xd) (g : Nat) : Prop := X.nx ≤ g ∨ ∃ w, w ∈ pd ++ waitsX X ∧ w.ak = none ∧ w.ge = g
/-- Which gets are answered from the start of the look, and how; all others are answered at a time T or later. -/
structure SInv (T : Int) (v : Nat → Option Gtn) (pd : List Xw) (X : Xd) : Prop where
  t : ∀ g x, v g = some x → ¬ Wai pd X g ∧ X.G g = x
  u : ∀ g, v g = none → g < X.go.length → Wai pd X g ∨ T ≤ (X.G g).ti
section
variable {C : List Cch} {R : List Crl} {E : List Rel} {P : List Pur} {L : List Gt} {X X' : Xd} {pd pd' : List Xw} {T lim : Int} {v : Nat → Option Gtn}
theorem Wai.perm (hn : X'.nx = X.nx) (hp : (pd' ++ waitsX X').Perm (pd ++ waitsX X)) (g : Nat) : Wai pd' X' g ↔ Wai pd X g := by
  unfold Wai
  rw [hn]
  refine or_congr Iff.rfl ⟨fun ⟨w, h1, h2⟩ => ⟨w, hp.subset h1, h2⟩, fun ⟨w, h1, h2⟩ => ⟨w, hp.symm.subset h1, h2⟩⟩
theorem Wai.cons {w : Xw} (g : Nat) : Wai (w :: pd) X g ↔ (w.ak = none ∧ w.ge = g) ∨ Wai pd X g := by
  unfold Wai
  constructor
  · rintro (h | ⟨u, h1, h2, h3⟩)
    · exact .inr (.inl h)
    · rcases List.mem_cons.1 h1 with rfl | h1
      · exact .inl ⟨h2, h3⟩
      · exact .inr (.inr ⟨u, h1, h2, h3⟩)
  · rintro (⟨h1, h2⟩ | h | ⟨u, h1, h2⟩)
    · exact .inr ⟨w, List.mem_cons_self .., h1, h2⟩
    · exact .inl h
    · exact .inr ⟨u, List.mem_cons_of_mem _ h1, h2⟩
theorem SInv.of (h : SInv T v pd X) (h1 : X'.go = X.go) (hw : ∀ g, Wai pd' X' g ↔ Wai pd X g) : SInv T v pd' X' :=
  ⟨fun g x hx => by
    have e : X'.G g = X.G g := by unfold Xd.G; rw [h1]
    rw [hw, e]; exact h.t g x hx, fun g hx hg => by
    have e : X'.G g = X.G g := by unfold Xd.G; rw [h1]
    rw [hw, e]; exact h.u g hx (by rw [← h1]; exact hg)⟩
theorem SInv.ho {w : Xw} (h : SInv T v (w :: pd) X) (ho : Int) : SInv T v (⟨w.ge, w.ak, ho⟩ :: pd) X := h.of rfl fun g => by rw [Wai.cons, Wai.cons]
theorem SInv.give {w : Xw} {a : Ans} (h : SInv T v (w :: pd) X) (hj : ∀ j, w.ak = some j → j < X.ak.length) (hT : T ≤ X.no) : SInv T v pd (X.giveX C w a) := by
  unfold Xd.giveX
  cases hw : w.ak with
  | some j =>
    have hpm := waits_same (k' := { X.K j with kn := true, go := a, bk := X.no + deO C (X.K j).ca }) (Xd.at_ (hj j hw)) rfl
    refine h.of rfl fun g => ?_
    rw [Wai.cons, hw]
    have e := Wai.perm (X := X) (X' := X.setA j { X.K j with kn := true, go := a, bk := X.no + deO C (X.K j).ca }) (pd := pd) (pd' := pd) rfl (hpm.append_left pd) g
    simp only [reduceCtorEq, false_and, false_or]
    exact e
  | none =>
    dsimp only
    have hwai : ∀ g, Wai pd ({ X with go := X.go.set w.ge ⟨X.no, a.ve, a.bo, a.fr, w.ho⟩ } : Xd) g ↔ Wai pd X g := fun g => Iff.rfl
    have hG : ∀ g, g ≠ w.ge → (X.go.set w.ge ⟨X.no, a.ve, a.bo, a.fr, w.ho⟩).getD g default = X.G g := fun g hg => by
      unfold Xd.G
      rw [List.getD_eq_getElem?_getD, List.getElem?_set_ne (Ne.symm hg), ← List.getD_eq_getElem?_getD]
    refine ⟨fun g x hx => ?_, fun g hx hg => ?_⟩
    · obtain ⟨h1, h2⟩ := h.t g x hx
      rw [Wai.cons] at h1
      have hne : g ≠ w.ge := fun e => h1 (.inl ⟨hw, e.symm⟩)
      rw [hwai]
      exact ⟨fun h => h1 (.inr h), (hG g hne).trans h2⟩
    · have hg' : g < X.go.length := by
        have hg : g < (X.go.set w.ge _).length := hg
        rw [List.length_set] at hg; exact hg
      by_cases e : g = w.ge
      · right
        show T ≤ ((X.go.set w.ge ⟨X.no, a.ve, a.bo, a.fr, w.ho⟩).getD g default).ti
        rw [e, List.getD_eq_getElem?_getD, List.getElem?_set_self (by rw [← e]; exact hg')]
        exact hT
      · rw [hwai]
        show _ ∨ T ≤ ((X.go.set w.ge ⟨X.no, a.ve, a.bo, a.fr, w.ho⟩).getD g default).ti
        rw [hG g e]
        rcases h.u g hx hg' with h1 | h1
        · rw [Wai.cons] at h1
          rcases h1 with h1 | h1
          · exact absurd h1.2.symm e
          · exact .inl h1
        · exact .inr h1
theorem SInv.start {i : Nat} {key : ByteArray} {al : Bool} {ws : List Xw} (h : SInv T v (ws ++ pd) X) : SInv T v pd (X.startX C i key al ws) := by
  have hpm : (pd ++ waitsX (X.startX C i key al ws)).Perm ((ws ++ pd) ++ waitsX X) := by
    rw [waits_start]
    refine (List.perm_append_comm_assoc pd (waitsX X) ws).trans ?_
    refine List.perm_append_comm.trans ?_
    exact (List.Perm.append_right _ List.perm_append_comm)
  exact h.of rfl (Wai.perm rfl hpm)
theorem SInv.join {j : Nat} {w : Xw} (h : SInv T v (w :: pd) X) (hj : j < X.ak.length) (hd : (X.K j).dn = false) : SInv T v pd (X.joinX j w) := by
  have hk := Xd.at_ hj
  have hpm : (pd ++ waitsX (X.joinX j w)).Perm ((w :: pd) ++ waitsX X) := by
    have h1 := waits_set (k' := { X.K j with ws := (X.K j).ws ++ [w] }) hk
    have e1 : wsOf (X.K j) = (X.K j).ws := if_neg (by simp [hd])
    have e2 : wsOf { X.K j with ws := (X.K j).ws ++ [w] } = (X.K j).ws ++ [w] := if_neg (by simp [hd])
    rw [e1, e2, List.append_assoc] at h1
    have h2 := (List.perm_append_left_iff _).1 h1
    exact (List.Perm.append_left pd h2).trans List.perm_middle
  exact h.of rfl (Wai.perm rfl hpm)
theorem SInv.done {j : Nat} (h : SInv T v pd X) (hj : j < X.ak.length) (hd : (X.K j).dn = false) : SInv T v ((X.K j).ws ++ pd) (X.doneX j) := by
  have hk := Xd.at_ hj
  have hpm : (((X.K j).ws ++ pd) ++ waitsX (X.setA j { X.K j with dn := true })).Perm (pd ++ waitsX X) := by
    have h1 := waits_set (k' := { X.K j with dn := true }) hk
    have e1 : wsOf (X.K j) = (X.K j).ws := if_neg (by simp [hd])
    have e2 : wsOf { X.K j with dn := true } = [] := if_pos rfl
    rw [e1, e2, List.nil_append] at h1
    refine (List.Perm.append_right _ List.perm_append_comm).trans ?_
    rw [List.append_assoc]
    exact List.Perm.append_left pd h1
  exact h.of rfl (Wai.perm rfl hpm)
theorem SInv.gives {a : Ans} : ∀ (ws : List Xw) (X : Xd), SInv T v (ws ++ pd) X → (∀ w, w ∈ ws → ∀ j, w.ak = some j → j < X.ak.length) → T ≤ X.no → SInv T v pd (X.givesX C ws a)
  | [], X, h, _, _ => h
  | w :: ws, X, h, hw, hT => by
    have h1 := SInv.give (C := C) (w := w) (a := a) h (hw w (List.mem_cons_self ..)) hT
    refine SInv.gives ws _ h1 (fun u hu j hj => ?_) (by rw [giveX_no]; exact hT)
    have hju := hw u (List.mem_cons_of_mem _ hu) j hj
    show j < (X.giveX C w a).ak.length
    unfold Xd.giveX
    cases w.ak with
    | none => exact hju
    | some b => dsimp only; rw [setA_len]; exact hju
theorem SInv.keep {i : Nat} {key : ByteArray} {a : Ans} (h : SInv T v pd X) : SInv T v pd (X.keepX C R P i key a) := by
  unfold Xd.keepX
  split
  · exact h
  · split <;> exact h.of rfl fun _ => Iff.rfl
theorem SInv.come {i : Nat} {key : ByteArray} {ge : Nat} {ak : Option Nat} {ho : Int} (h : SInv T v (⟨ge, ak, ho⟩ :: pd) X) (hj : ∀ j, ak = some j → j < X.ak.length) (hT : T ≤ X.no) : SInv T v pd (X.comeX C R P i key ge ak) := by
  have hL : ∀ o f, SInv T v (⟨ge, ak, o⟩ :: pd) (X.setL i f) := fun o f => (h.ho (w := ⟨ge, ak, ho⟩) o).of rfl fun _ => Iff.rfl
  have hU : ∀ o f l, SInv T v (⟨ge, ak, o⟩ :: pd) (((X.setL i ldCa).setL i f).setH i l) := fun o f l => (h.ho (w := ⟨ge, ak, ho⟩) o).of rfl fun _ => Iff.rfl
  unfold Xd.comeX
  split
  · exact SInv.start (ws := [⟨ge, ak, 3⟩]) (hL 3 ldCa)
  · split
    · split
      · exact SInv.give (w := ⟨ge, ak, 1⟩) (hU 1 ldFr _) hj hT
      · split
        · exact SInv.give (w := ⟨ge, ak, 2⟩) (hU 2 ldSl _) hj hT
        · have hs := SInv.start (C := C) (ws := []) (i := i) (key := key) (al := false) (pd := ⟨ge, ak, 2⟩ :: pd) (hU 2 ldSl (useH (X.H i) key X.no))
          refine SInv.give (w := ⟨ge, ak, 2⟩) hs (fun j hj2 => ?_) hT
          have := hj j hj2
          show j < (X.ak ++ [_]).length
          simp; omega
    · split
      · rename_i j hw
        obtain ⟨g1, g2, g3, _⟩ := wayX_some hw
        exact SInv.join (X := (X.setL i ldCa).setL i ldWt) (w := ⟨ge, ak, 4⟩) ((h.ho (w := ⟨ge, ak, ho⟩) 4).of rfl fun _ => Iff.rfl) g1 g3
      · exact SInv.start (ws := [⟨ge, ak, 3⟩]) (hL 3 ldCa)
theorem SInv.back {j : Nat} (h : SInv T v [] X) (hx : XInv C P L [] X) (hj : j < X.ak.length) (hd : (X.K j).dn = false) (hT : T ≤ X.no) : SInv T v [] (X.backX C R P j) := by
  have hk := Xd.at_ hj
  have h2 := SInv.gives (C := C) (pd := []) (a := (X.K j).go) (X.K j).ws (X.doneX j) (h.done hj hd) (fun w hw a ha => by
    show a < (X.setA j _).ak.length
    rw [setA_len]
    refine (hx.wk w ?_ a ha).1
    rw [List.nil_append]
    exact List.mem_flatMap.2 ⟨_, List.mem_of_getElem? hk, by unfold wsOf; rw [if_neg (by simp [hd])]; exact hw⟩) hT
  unfold Xd.backX
  split
  · exact h2.keep
  · exact h2
theorem SInv.arr {j : Nat} (h : SInv T v [] X) (hj : j < X.ak.length) (hT : T ≤ X.no) : SInv T v [] (X.arrX C R E P j) := by
  have hk := Xd.at_ hj
  have hpp := waits_same (k' := { X.K j with cm := true }) hk rfl
  have h1 : SInv T v [⟨0, some j, 0⟩] (X.cameX j) := h.of rfl fun g => by
    rw [Wai.cons]
    simp only [reduceCtorEq, false_and, false_or]
    exact Wai.perm (X := X) (X' := X.setA j { X.K j with cm := true }) (pd := []) (pd' := []) rfl (hpp.append_left []) g
  have hcj : ∀ a, some j = some a → a < (X.cameX j).ak.length := fun a ha => by cases ha; show j < (X.setA j _).ak.length; rw [setA_len]; exact hj
  unfold Xd.arrX
  split
  · exact SInv.come (ho := 0) h1 hcj hT
  · exact SInv.give (w := ⟨0, some j, 0⟩) h1 hcj hT
/-- What is still to come is at T or later. -/
def LateX (L : List Gt) (P : List Pur) (T : Int) (m : Mod) (X : Xd) : Prop := T ≤ X.no ∨ (m = .out ∧ ∀ t, t ∈ X.times P L → T ≤ t)
theorem SInv.next {m m' : Mod} (h : SInv T v [] X) (hx : XInv C P L [] X) (hl : LateX L P T m X) (hn : X.next C R E P L lim m = some (m', X')) : SInv T v [] X' ∧ T ≤ X'.no := by
  have hT : m ≠ .out → T ≤ X.no := fun hm => by
    rcases hl with h | h
    · exact h
    · exact absurd h.1 hm
  unfold Xd.next at hn
  cases m with
  | out =>
    dsimp only at hn
    split at hn
    · cases hn
    · rename_i t ht
      split at hn
      · cases hn
      · cases hn
        refine ⟨h.of rfl fun _ => Iff.rfl, ?_⟩
        rcases hl with h1 | h1
        · exact Int.le_trans h1 (hx.now_le ht)
        · exact h1.2 t (minT_spec ht).1
  | pur =>
    dsimp only at hn
    split at hn
    · cases hn
      exact ⟨h.of rfl fun _ => Iff.rfl, hT (by simp)⟩
    · cases hn; exact ⟨h, hT (by simp)⟩
  | bak =>
    dsimp only at hn
    have hT := hT (by simp)
    split at hn
    · rename_i j hj
      cases hn
      obtain ⟨⟨g1, g2, g3, g4⟩, _⟩ := nextB_some hj
      refine ⟨h.back hx g1 g3 hT, ?_⟩
      have hg : ∀ (ws : List Xw) (Y : Xd), (Y.givesX C ws (X.K j).go).no = Y.no := by
        intro ws
        induction ws with
        | nil => intro Y; rfl
        | cons w ws ih => intro Y; exact (ih _).trans giveX_no
      have e : (X.backX C R P j).no = X.no := by
        unfold Xd.backX
        split
        · rw [keepX_no.1, hg]; rfl
        · rw [hg]; rfl
      rw [e]; exact hT
    · cases hn; exact ⟨h, hT⟩
  | get =>
    dsimp only at hn
    have hT := hT (by simp)
    split at hn
    · rename_i hd
      cases hn
      have h1 : SInv T v [⟨X.nx, none, 0⟩] { X with nx := X.nx + 1 } := h.of rfl fun g => by
        unfold Wai
        constructor
        · rintro (h1 | ⟨w, h1, h2, h3⟩)
          · have h1 : X.nx + 1 ≤ g := h1
            exact .inl (by omega)
          · rcases List.mem_cons.1 h1 with rfl | h1
            · have h3 : X.nx = g := h3
              exact .inl (by omega)
            · exact .inr ⟨w, h1, h2, h3⟩
        · rintro (h1 | ⟨w, h1, h2, h3⟩)
          · by_cases e : X.nx = g
            · exact .inr ⟨⟨X.nx, none, 0⟩, List.mem_cons_self .., rfl, e⟩
            · left; show X.nx + 1 ≤ g; omega
          · exact .inr ⟨w, List.mem_cons_of_mem _ h1, h2, h3⟩
      refine ⟨SInv.come (X := { X with nx := X.nx + 1 }) (ho := 0) h1 (fun j h => by cases h) hT, ?_⟩
      have e : ∀ (Y : Xd) (i : Nat) (key : ByteArray) (ge : Nat), (Y.comeX C R P i key ge none).no = Y.no := fun Y i key ge => by
        unfold Xd.comeX
        split
        · rfl
        · split
          · split
            · exact giveX_no
            · split
              · exact giveX_no
              · exact giveX_no
          · split <;> rfl
      rw [e]; exact hT
    · cases hn; exact ⟨h, hT⟩
  | arr =>
    dsimp only at hn
    have hT := hT (by simp)
    split at hn
    · rename_i j hj
      cases hn
      obtain ⟨⟨g1, g2, g3⟩, _⟩ := nextA_some hj
      refine ⟨h.arr g1 hT, ?_⟩
      have e : ∀ (Y : Xd) (i : Nat) (key : ByteArray) (ge : Nat) (a : Option Nat), (Y.comeX C R P i key ge a).no = Y.no := fun Y i key ge a => by
        unfold Xd.comeX
        split
        · rfl
        · split
          · split
            · exact giveX_no
            · split
              · exact giveX_no
              · exact giveX_no
          · split <;> rfl
      have e2 : (X.arrX C R E P j).no = X.no := by
        unfold Xd.arrX
        split
        · rw [e]; rfl
        · rw [giveX_no]; rfl
      rw [e2]; exact hT
    · cases hn; exact ⟨h, hT⟩
theorem XReach.sinv {m m' : Mod} (h : XReach C R E P L lim m X m' X') (hv : Val C R E P L) (hx : XInv C P L [] X) (hs : SInv T v [] X) (hl : LateX L P T m X) : XInv C P L [] X' ∧ SInv T v [] X' ∧ LateX L P T m' X' := by
  induction h with
  | refl => exact ⟨hx, hs, hl⟩
  | step _ hn ih =>
    obtain ⟨h1, h2, h3⟩ := ih hx hs hl
    obtain ⟨h4, h5⟩ := h2.next h1 h3 hn
    exact ⟨h1.next hv hn, h4, .inl h5⟩
theorem XReach.trans {m m' m'' : Mod} {X'' : Xd} (h : XReach C R E P L lim m X m' X') (k : XReach C R E P L lim m' X' m'' X'') : XReach C R E P L lim m X m'' X'' := by
  induction k with
  | refl => exact h
  | step _ hn ih => exact .step (ih h) hn
theorem XReach.inv {m m' : Mod} (h : XReach C R E P L lim m X m' X') : (m' = m ∧ X' = X) ∨ ∃ m1 X1, X.next C R E P L lim m = some (m1, X1) ∧ XReach C R E P L lim m1 X1 m' X' := by
  induction h with
  | refl => exact .inl ⟨rfl, rfl⟩
  | step _ hn ih =>
    right
    rcases ih with ⟨rfl, rfl⟩ | ⟨m1, X1, h1, h2⟩
    · exact ⟨_, _, hn, .refl _ _⟩
    · exact ⟨m1, X1, h1, .step h2 hn⟩
theorem XReach.dir {m m1 m2 : Mod} {X1 X2 : Xd} (h : XReach C R E P L lim m X m1 X1) (k : XReach C R E P L lim m X m2 X2) : XReach C R E P L lim m1 X1 m2 X2 ∨ XReach C R E P L lim m2 X2 m1 X1 := by
  induction k with
  | refl => exact .inr h
  | step _ hn ih =>
    rcases ih h with h1 | h1
    · exact .inl (.step h1 hn)
    · rcases h1.inv with ⟨rfl, rfl⟩ | ⟨m3, X3, h2, h3⟩
      · exact .inl (.step (.refl _ _) hn)
      · rw [hn] at h2
        cases h2
        exact .inr h3
theorem XReach.last {m m1 m2 : Mod} {X1 X2 : Xd} (h : XReach C R E P L lim m X m1 X1) (k : XReach C R E P L lim m X m2 X2) (h1 : X1.next C R E P L lim m1 = none) : XReach C R E P L lim m2 X2 m1 X1 := by
  rcases h.dir k with g | g
  · rcases g.inv with ⟨rfl, rfl⟩ | ⟨m3, X3, h2, h3⟩
    · exact .refl _ _
    · rw [h1] at h2; cases h2
  · exact g
theorem EndX.uniq (h : EndX C R E P L lim X) (k : EndX C R E P L lim X') : X = X' := by
  rcases (h.rch.last k.rch h.nxt).inv with ⟨_, e⟩ | ⟨m3, X3, h2, _⟩
  · exact e
  · rw [k.nxt] at h2; cases h2
/-- The first k gets alone. -/
def tk (k : Nat) (X : Xd) : Xd := { X with go := X.go.take k }
theorem tk_give {k : Nat} {w : Xw} {a : Ans} : (tk k X).giveX C w a = tk k (X.giveX C w a) := by
  unfold Xd.giveX
  cases w.ak with
  | none =>
    unfold tk
    dsimp only
    rw [List.take_set]
  | some j => rfl
theorem tk_gives {k : Nat} {a : Ans} : ∀ (ws : List Xw) (X : Xd), (tk k X).givesX C ws a = tk k (X.givesX C ws a)
  | [], _ => rfl
  | w :: ws, X => by
    show ((tk k X).giveX C w a).givesX C ws a = _
    rw [tk_give, tk_gives ws]
    rfl
theorem tk_keep {k i : Nat} {key : ByteArray} {a : Ans} : (tk k X).keepX C R P i key a = tk k (X.keepX C R P i key a) := by
  unfold Xd.keepX
  have e1 : (tk k X).noKX R P i key a = X.noKX R P i key a := rfl
  have e2 : (tk k X).H i = X.H i := rfl
  have e3 : (tk k X).no = X.no := rfl
  rw [e1, e2, e3]
  split
  · rfl
  · split <;> rfl
theorem tk_back {k j : Nat} : (tk k X).backX C R P j = tk k (X.backX C R P j) := by
  unfold Xd.backX
  have e1 : (tk k X).K j = X.K j := rfl
  have e2 : (tk k X).doneX j = tk k (X.doneX j) := rfl
  rw [e1, e2, tk_gives, tk_keep]
  split <;> rfl
theorem tk_come {k i : Nat} {key : ByteArray} {ge : Nat} {ak : Option Nat} : (tk k X).comeX C R P i key ge ak = tk k (X.comeX C R P i key ge ak) := by
  unfold Xd.comeX
  have e1 : (tk k X).H i = X.H i := rfl
  have e2 : (tk k X).no = X.no := rfl
  have e3 : ∀ l, (tk k X).wayX i key l = X.wayX i key l := fun _ => rfl
  have e4 : ∀ f l, (((tk k X).setL i ldCa).setL i f).setH i l = tk k (((X.setL i ldCa).setL i f).setH i l) := fun _ _ => rfl
  have e5 : ∀ Y : Xd, (tk k Y).startX C i key false [] = tk k (Y.startX C i key false []) := fun _ => rfl
  rw [e1, e2, e3, e4, e4, e5, tk_give, tk_give, tk_give]
  split
  · rfl
  · split
    · split
      · rfl
      · split <;> rfl
    · split <;> rfl
theorem tk_arr {k j : Nat} : (tk k X).arrX C R E P j = tk k (X.arrX C R E P j) := by
  unfold Xd.arrX
  have e1 : (tk k X).K j = X.K j := rfl
  have e2 : (tk k X).cameX j = tk k (X.cameX j) := rfl
  have e3 : (tk k X).no = X.no := rfl
  rw [e1, e2, e3, tk_come, tk_give]
  split <;> rfl
theorem minT_of {l : List Int} {t : Int} (h1 : t ∈ l) (h2 : ∀ y, y ∈ l → t ≤ y) : minT l = some t := by
  cases hm : minT l with
  | none => rw [minT_none hm] at h1; cases h1
  | some s =>
    obtain ⟨g1, g2⟩ := minT_spec hm
    have := h2 s g1
    have := g2 t h1
    rw [show s = t by omega]
theorem take_at {k g : Nat} (h : g < k) : (L.take k)[g]? = L[g]? := by rw [List.getElem?_take, if_pos h]
theorem take_gD {k g : Nat} (h : g < k) : (L.take k).getD g default = L.getD g default := by rw [List.getD_eq_getElem?_getD, List.getD_eq_getElem?_getD, take_at h]
theorem tk_times {k : Nat} (hk : k < L.length) (hn : X.nx ≤ k) (t : Int) : t ∈ X.times P L ↔ t ∈ (tk k X).times P (L.take k) ∨ (X.nx = k ∧ t = (L.getD k default).ti) := by
  rw [times_mem, times_mem]
  have e : ∀ x, (L.take k)[(tk k X).nx]? = some x ↔ (X.nx ≠ k ∧ L[X.nx]? = some x) := fun x => by
    show (L.take k)[X.nx]? = some x ↔ _
    rw [List.getElem?_take]
    by_cases h : X.nx < k
    · rw [if_pos h]; exact ⟨fun g => ⟨by omega, g⟩, fun g => g.2⟩
    · rw [if_neg h]
      constructor
      · intro g; cases g
      · rintro ⟨g1, g2⟩; omega
  constructor
  · rintro (⟨x, hx, rfl⟩ | h | h)
    · by_cases e2 : X.nx = k
      · right
        rw [e2] at hx
        exact ⟨e2, by rw [getD_at hx]⟩
      · exact .inl (.inl ⟨x, (e x).2 ⟨e2, hx⟩, rfl⟩)
    · exact .inl (.inr (.inl h))
    · exact .inl (.inr (.inr h))
  · rintro ((⟨x, hx, rfl⟩ | h | h) | ⟨h1, rfl⟩)
    · exact .inl ⟨x, ((e x).1 hx).2, rfl⟩
    · exact .inr (.inl h)
    · exact .inr (.inr h)
    · exact .inl ⟨_, by rw [h1, List.getElem?_eq_getElem hk]; rw [getD_at (List.getElem?_eq_getElem hk)], rfl⟩
theorem giveX_nn {w : Xw} {a : Ans} : (X.giveX C w a).nx = X.nx ∧ (X.giveX C w a).no = X.no := by
  unfold Xd.giveX
  cases w.ak <;> exact ⟨rfl, rfl⟩
theorem givesX_nn {a : Ans} : ∀ (ws : List Xw) (X : Xd), (X.givesX C ws a).nx = X.nx ∧ (X.givesX C ws a).no = X.no
  | [], _ => ⟨rfl, rfl⟩
  | w :: ws, X => by
    have h := givesX_nn (a := a) ws (X.giveX C w a)
    exact ⟨h.1.trans giveX_nn.1, h.2.trans giveX_nn.2⟩
theorem keepX_nn {i : Nat} {key : ByteArray} {a : Ans} : (X.keepX C R P i key a).nx = X.nx ∧ (X.keepX C R P i key a).no = X.no := by
  unfold Xd.keepX
  split
  · exact ⟨rfl, rfl⟩
  · split <;> exact ⟨rfl, rfl⟩
theorem backX_nn {j : Nat} : (X.backX C R P j).nx = X.nx ∧ (X.backX C R P j).no = X.no := by
  have h := givesX_nn (C := C) (a := (X.K j).go) (X.K j).ws (X.doneX j)
  unfold Xd.backX
  split
  · have k := keepX_nn (C := C) (R := R) (P := P) (X := (X.doneX j).givesX C (X.K j).ws (X.K j).go) (i := (X.K j).ca) (key := (X.K j).ke) (a := (X.K j).go)
    exact ⟨k.1.trans h.1, k.2.trans h.2⟩
  · exact h
theorem comeX_nn {i : Nat} {key : ByteArray} {ge : Nat} {ak : Option Nat} : (X.comeX C R P i key ge ak).nx = X.nx ∧ (X.comeX C R P i key ge ak).no = X.no := by
  unfold Xd.comeX
  split
  · exact ⟨rfl, rfl⟩
  · split
    · split
      · exact giveX_nn
      · split
        · exact giveX_nn
        · exact giveX_nn
    · split <;> exact ⟨rfl, rfl⟩
theorem arrX_nn {j : Nat} : (X.arrX C R E P j).nx = X.nx ∧ (X.arrX C R E P j).no = X.no := by
  unfold Xd.arrX
  split
  · have h := comeX_nn (C := C) (R := R) (P := P) (X := X.cameX j) (i := (parO C (X.K j).ca).toNat) (key := (X.K j).ke) (ge := 0) (ak := some j)
    exact h
  · have h := giveX_nn (C := C) (X := X.cameX j) (w := ⟨0, some j, 0⟩) (a := oriM E (X.K j).ke X.no)
    exact h
/-- Ahead of T, both go the same way. -/
theorem tk_next {k : Nat} {m m' : Mod} {Y' : Xd} (hk : k < L.length) (hn : X.nx ≤ k) (hT : (L.getD k default).ti = T) (hno : m = .out ∨ X.no < T) (h : (tk k X).next C R E P (L.take k) lim m = some (m', Y')) :
    (m = .out ∧ ∀ t, t ∈ (tk k X).times P (L.take k) → T ≤ t) ∨ ∃ X', Y' = tk k X' ∧ X.next C R E P L lim m = some (m', X') ∧ (m' = .out ∨ X'.no < T) ∧ X'.nx ≤ k := by
  cases m with
  | out =>
    unfold Xd.next at h ⊢
    dsimp only at h ⊢
    cases hm : minT ((tk k X).times P (L.take k)) with
    | none => rw [hm] at h; cases h
    | some t =>
      rw [hm] at h
      dsimp only at h
      split at h
      · cases h
      · rename_i hlim
        cases h
        obtain ⟨g1, g2⟩ := minT_spec hm
        by_cases ht : t < T
        · right
          have e : minT (X.times P L) = some t := minT_of ((tk_times hk hn t).2 (.inl g1)) fun y hy => by
            rcases (tk_times hk hn y).1 hy with hy | ⟨_, rfl⟩
            · exact g2 y hy
            · omega
          rw [e]
          dsimp only
          rw [if_neg hlim]
          exact ⟨{ X with no := t }, rfl, rfl, .inr ht, hn⟩
        · exact .inl ⟨rfl, fun y hy => by have := g2 y hy; omega⟩
  | pur =>
    right
    have hno := hno.resolve_left (by simp)
    unfold Xd.next at h ⊢
    dsimp only at h ⊢
    by_cases c : X.pg < P.length ∧ (P.getD X.pg default).ti = X.no
    · have c' : (tk k X).pg < P.length ∧ (P.getD (tk k X).pg default).ti = (tk k X).no := c
      rw [if_pos c'] at h
      rw [if_pos c]
      cases h
      exact ⟨X.purX (P.getD X.pg default).ke, rfl, rfl, .inr hno, hn⟩
    · have c' : ¬ ((tk k X).pg < P.length ∧ (P.getD (tk k X).pg default).ti = (tk k X).no) := c
      rw [if_neg c'] at h
      rw [if_neg c]
      cases h
      exact ⟨X, rfl, rfl, .inr hno, hn⟩
  | bak =>
    right
    have hno := hno.resolve_left (by simp)
    unfold Xd.next at h ⊢
    dsimp only at h ⊢
    have e : (tk k X).nextB = X.nextB := rfl
    rw [e] at h
    cases hb : X.nextB with
    | none =>
      rw [hb] at h
      cases h
      exact ⟨X, rfl, rfl, .inr hno, hn⟩
    | some j =>
      rw [hb] at h
      dsimp only at h
      rw [tk_back] at h
      cases h
      exact ⟨_, rfl, rfl, .inr (by rw [backX_nn.2]; exact hno), by rw [backX_nn.1]; exact hn⟩
  | get =>
    right
    have hno := hno.resolve_left (by simp)
    unfold Xd.next at h ⊢
    dsimp only at h ⊢
    have hkl : (L.take k).length = k := by rw [List.length_take]; omega
    by_cases c : X.nx < k
    · have ed : (L.take k).getD X.nx default = L.getD X.nx default := take_gD c
      have ed : (L.take k).getD (tk k X).nx default = L.getD X.nx default := ed
      rw [ed] at h
      by_cases c2 : (L.getD X.nx default).ti = X.no
      · rw [if_pos ⟨by rw [hkl]; exact c, c2⟩] at h
        rw [if_pos ⟨by omega, c2⟩]
        have e2 : ({ tk k X with nx := (tk k X).nx + 1 } : Xd) = tk k { X with nx := X.nx + 1 } := rfl
        rw [e2, tk_come] at h
        cases h
        exact ⟨_, rfl, rfl, .inr (by rw [comeX_nn.2]; exact hno), by rw [comeX_nn.1]; exact c⟩
      · rw [if_neg fun g => c2 g.2] at h
        rw [if_neg fun g => c2 g.2]
        cases h
        exact ⟨X, rfl, rfl, .inr hno, hn⟩
    · obtain e : X.nx = k := by omega
      rw [if_neg fun g => by rw [hkl] at g; exact c g.1] at h
      rw [if_neg fun g => by have := g.2; rw [e, hT] at this; omega]
      cases h
      exact ⟨X, rfl, rfl, .inr hno, hn⟩
  | arr =>
    right
    have hno := hno.resolve_left (by simp)
    unfold Xd.next at h ⊢
    dsimp only at h ⊢
    have e : (tk k X).nextA = X.nextA := rfl
    rw [e] at h
    cases hb : X.nextA with
    | none =>
      rw [hb] at h
      cases h
      exact ⟨X, rfl, rfl, .inl rfl, hn⟩
    | some j =>
      rw [hb] at h
      dsimp only at h
      rw [tk_arr] at h
      cases h
      exact ⟨_, rfl, rfl, .inr (by rw [arrX_nn.2]; exact hno), by rw [arrX_nn.1]; exact hn⟩
theorem tk_cut {k : Nat} {m0 m : Mod} {Y0 Y X0 : Xd} (hk : k < L.length) (h0 : X0.nx ≤ k) (hT : (L.getD k default).ti = T) (h : XReach C R E P (L.take k) lim m0 Y0 m Y) (hm : m0 = .out) (hY : Y0 = tk k X0) :
    (∃ X', Y = tk k X' ∧ XReach C R E P L lim .out X0 m X' ∧ (m = .out ∨ X'.no < T) ∧ X'.nx ≤ k) ∨ ∃ Z, XReach C R E P L lim .out X0 .out Z ∧ XReach C R E P (L.take k) lim m0 Y0 .out (tk k Z) ∧ XReach C R E P (L.take k) lim .out (tk k Z) m Y ∧ Z.nx ≤ k ∧ ∀ t, t ∈ (tk k Z).times P (L.take k) → T ≤ t := by
  induction h with
  | refl => subst hm; exact .inl ⟨X0, hY, .refl _ _, .inl rfl, h0⟩
  | step hr hn ih =>
    rcases ih hY with ⟨X', rfl, h1, h2, h3⟩ | ⟨Z, h1, h1', h2, h3, h4⟩
    · rcases tk_next hk h3 hT h2 hn with ⟨rfl, h4⟩ | ⟨X'', rfl, h4, h5, h6⟩
      · exact .inr ⟨X', h1, hr, .step (.refl _ _) hn, h3, h4⟩
      · exact .inl ⟨X'', rfl, .step h1 h4, h5, h6⟩
    · exact .inr ⟨Z, h1, h1', .step h2 hn, h3, h4⟩
theorem Val.take (h : Val C R E P L) (k : Nat) : Val C R E P (L.take k) :=
  { h with
    l := by rw [List.length_take]; have := h.l; omega
    ls := fun i j x y hij hx hy => by
      rw [List.getElem?_take] at hx hy
      split at hx
      · split at hy
        · exact h.ls i j x y hij hx hy
        · cases hy
      · cases hx
    lt := fun x hx => h.lt x (List.mem_of_mem_take hx) }
/-- What gets come later does not change what was answered before. -/
theorem later_same {k : Nat} {Y : Xd} (hv : Val C R E P L) (hk : k < L.length) (h : EndX C R E P L 1152921504606846976 X) (h' : EndX C R E P (L.take k) 1152921504606846976 Y) {g : Nat} (hg : g < k) (hgt : (Y.G g).ti < (L.getD k default).ti) : X.G g = Y.G g := by
  obtain ⟨T, hT⟩ : ∃ T, (L.getD k default).ti = T := ⟨_, rfl⟩
  have hv' := hv.take k
  have hTb : T ≤ 1000000000000 := by
    have := (hv.lt (L.getD k default) (by rw [getD_at (List.getElem?_eq_getElem hk)]; exact List.getElem_mem hk)).1.2
    omega
  have e0 : xd0 C (L.take k).length = tk k (xd0 C L.length) := by
    unfold xd0 tk
    dsimp only
    rw [List.take_replicate, List.length_take]
  have hcut : ∃ Z, XReach C R E P L 1152921504606846976 .out (xd0 C L.length) .out Z ∧ XReach C R E P (L.take k) 1152921504606846976 .out (xd0 C (L.take k).length) .out (tk k Z) ∧ XReach C R E P (L.take k) 1152921504606846976 .out (tk k Z) .out Y ∧ Z.nx ≤ k ∧ ∀ t, t ∈ (tk k Z).times P (L.take k) → T ≤ t := by
    rcases tk_cut (X0 := xd0 C L.length) hk (Nat.zero_le _) hT h'.rch rfl e0 with ⟨X', e, h1, _, h3⟩ | h1
    · refine ⟨X', h1, by rw [← e]; exact h'.rch, by rw [← e]; exact .refl _ _, h3, fun t ht => ?_⟩
      rw [← e] at ht
      have := h'.times t ht
      omega
    · exact h1
  obtain ⟨Z, z1, z1', z2, z3, z4⟩ := hcut
  have hxZ : XInv C P L [] Z := (z1.ginv hv (xd0_inv hv) (xd0_ginv hv) trivial).1
  have hyZ : XInv C P (L.take k) [] (tk k Z) := (z1'.ginv hv' (xd0_inv hv') (xd0_ginv hv') trivial).1
  have hkl : (L.take k).length = k := by rw [List.length_take]; omega
  have hlX := hxZ.le.2.2.1
  classical
  obtain ⟨v, hvd⟩ : ∃ v : Nat → Option Gtn, v = fun g => if Wai [] Z g then none else some (Z.G g) := ⟨_, rfl⟩
  have hvs : ∀ g x, v g = some x → ¬ Wai [] Z g ∧ Z.G g = x := fun g x hx => by
    rw [hvd] at hx
    dsimp only at hx
    split at hx
    · cases hx
    · rename_i hw; cases hx; exact ⟨hw, rfl⟩
  have hvn : ∀ g, v g = none → Wai [] Z g := fun g hx => by
    rw [hvd] at hx
    dsimp only at hx
    split at hx
    · assumption
    · cases hx
  have sZ : SInv T v [] Z := ⟨hvs, fun g hx _ => .inl (hvn g hx)⟩
  have sY : SInv T v [] (tk k Z) := ⟨fun g x hx => by
    obtain ⟨h1, h2⟩ := hvs g x hx
    refine ⟨h1, ?_⟩
    have hgk : g < k := by
      by_cases e : g < Z.nx
      · omega
      · exact absurd (.inl (by omega)) h1
    show (Z.go.take k).getD g default = x
    rw [List.getD_eq_getElem?_getD, List.getElem?_take, if_pos hgk, ← List.getD_eq_getElem?_getD]
    exact h2, fun g hx _ => .inl (hvn g hx)⟩
  have lX : LateX L P T .out Z := .inr ⟨rfl, fun t ht => by
    rcases (tk_times hk z3 t).1 ht with ht | ⟨_, rfl⟩
    · exact z4 t ht
    · omega⟩
  have lY : LateX (L.take k) P T .out (tk k Z) := .inr ⟨rfl, z4⟩
  obtain ⟨_, eX, _⟩ := (h.rch.last z1 h.nxt).sinv hv hxZ sZ lX
  obtain ⟨_, eY, _⟩ := z2.sinv hv' hyZ sY lY
  cases hg2 : v g with
  | some x => exact (eX.t g x hg2).2.trans (eY.t g x hg2).2.symm
  | none =>
    have hd := h'.done hv'
    have hgl : g < Y.go.length := by rw [h'.inv.le.2.2.1, hkl]; exact hg
    rcases eY.u g hg2 hgl with h1 | h1
    · exfalso
      rcases h1 with h1 | ⟨w, h1, _⟩
      · rw [hd.nx, hkl] at h1; omega
      · rw [List.nil_append, hd.wt] at h1; cases h1
    · omega
end
end Go.Proofs.YtgohddfnhofjhaaGreatDoor

/- Contracts of the library, laid by the shelf at this seat. -/
namespace Go.Proofs
open Go.Shelf
def Tryz.sortK_ren : Go.Shelf.Ren := ⟨fun | 6 => 40 | 15 => 75 | 14 => 74 | 28 => 125 | 29 => 126 | 20 => 117 | 21 => 118 | 22 => 119 | 23 => 120 | 24 => 121 | 25 => 122 | 26 => 123 | 27 => 124 | 46 => 156 | 47 => 157 | 48 => 158 | 49 => 159 | 50 => 160 | 57 => 175 | n => n, fun | 22 => 55 | 24 => 59 | 25 => 100 | 3 => 3 | 39 => 147 | 0 => 0 | 53 => 209 | 55 => 211 | 4 => 4 | 46 => 202 | 45 => 201 | 50 => 206 | 5 => 5 | 9 => 9 | 66 => 232 | 70 => 236 | 76 => 247 | 77 => 78 | n => n, fun | n => n⟩
theorem Tryz.sortK : Go.Proofs.SlLaysF0.n6 Tryz.prog Tryz.sortK_ren := {
  mixed := by kernel_rfl
  f6 := ⟨Tryz.f40.name, by decide, Tryz.func40.trans (congrArg some (by kernel_rfl))⟩
  f14 := ⟨Tryz.f74.name, by decide, Tryz.func74.trans (congrArg some (by kernel_rfl))⟩
  f15 := Tryz.func75.trans (congrArg some (by kernel_rfl))
  f20 := ⟨Tryz.f117.name, by decide, Tryz.func117.trans (congrArg some (by kernel_rfl))⟩
  f21 := ⟨Tryz.f118.name, by decide, Tryz.func118.trans (congrArg some (by kernel_rfl))⟩
  f22 := ⟨Tryz.f119.name, by decide, Tryz.func119.trans (congrArg some (by kernel_rfl))⟩
  f23 := ⟨Tryz.f120.name, by decide, Tryz.func120.trans (congrArg some (by kernel_rfl))⟩
  f24 := ⟨Tryz.f121.name, by decide, Tryz.func121.trans (congrArg some (by kernel_rfl))⟩
  f25 := ⟨Tryz.f122.name, by decide, Tryz.func122.trans (congrArg some (by kernel_rfl))⟩
  f26 := ⟨Tryz.f123.name, by decide, Tryz.func123.trans (congrArg some (by kernel_rfl))⟩
  f27 := ⟨Tryz.f124.name, by decide, Tryz.func124.trans (congrArg some (by kernel_rfl))⟩
  f28 := Tryz.func125.trans (congrArg some (by kernel_rfl))
  f29 := Tryz.func126.trans (congrArg some (by kernel_rfl))
  f46 := ⟨Tryz.f156.name, by decide, Tryz.func156.trans (congrArg some (by kernel_rfl))⟩
  f47 := Tryz.func157.trans (congrArg some (by kernel_rfl))
  f48 := Tryz.func158.trans (congrArg some (by kernel_rfl))
  f49 := ⟨Tryz.f159.name, by decide, Tryz.func159.trans (congrArg some (by kernel_rfl))⟩
  f50 := ⟨Tryz.f160.name, by decide, Tryz.func160.trans (congrArg some (by kernel_rfl))⟩
  f57 := ⟨Tryz.f175.name, by decide, Tryz.func175.trans (congrArg some (by kernel_rfl))⟩
  t0 := Tryz.underlying0
  a0 := Tryz.isAgg0
  z0 := Tryz.sizeOf0
  v0 := Tryz.zeroValue0
  t3 := Tryz.underlying3
  a3 := Tryz.isAgg3
  z3 := Tryz.sizeOf3
  v3 := Tryz.zeroValue3
  t4 := Tryz.underlying4
  a4 := Tryz.isAgg4
  z4 := Tryz.sizeOf4
  v4 := Tryz.zeroValue4
  t5 := Tryz.underlying5
  a5 := Tryz.isAgg5
  z5 := Tryz.sizeOf5
  v5 := Tryz.zeroValue5
  t9 := Tryz.underlying9
  a9 := Tryz.isAgg9
  z9 := Tryz.sizeOf9
  v9 := Tryz.zeroValue9
  t22 := Tryz.underlying55
  a22 := Tryz.isAgg55
  z22 := Tryz.sizeOf55
  v22 := Tryz.zeroValue55
  t25 := Tryz.underlying100
  a25 := Tryz.isAgg100
  z25 := Tryz.sizeOf100
  v25 := Tryz.zeroValue100
  t39 := Tryz.underlying147
  a39 := Tryz.isAgg147
  z39 := Tryz.sizeOf147
  v39 := Tryz.zeroValue147
  t45 := Tryz.underlying201
  a45 := Tryz.isAgg201
  z45 := Tryz.sizeOf201
  v45 := Tryz.zeroValue201
  t46 := Tryz.underlying202
  a46 := Tryz.isAgg202
  z46 := Tryz.sizeOf202
  v46 := Tryz.zeroValue202
  t50 := Tryz.underlying206
  a50 := Tryz.isAgg206
  z50 := Tryz.sizeOf206
  v50 := Tryz.zeroValue206
  t53 := Tryz.underlying209
  a53 := Tryz.isAgg209
  z53 := Tryz.sizeOf209
  v53 := Tryz.zeroValue209
  t55 := Tryz.underlying211
  a55 := Tryz.isAgg211
  z55 := Tryz.sizeOf211
  v55 := Tryz.zeroValue211
  t66 := Tryz.underlying232
  a66 := Tryz.isAgg232
  z66 := Tryz.sizeOf232
  v66 := Tryz.zeroValue232
  t70 := Tryz.underlying236
  a70 := Tryz.isAgg236
  z70 := Tryz.sizeOf236
  v70 := Tryz.zeroValue236
  t76 := Tryz.underlying247
  a76 := Tryz.isAgg247
  z76 := Tryz.sizeOf247
  v76 := Tryz.zeroValue247
  t77 := Tryz.underlying78
  a77 := Tryz.isAgg78
  z77 := Tryz.sizeOf78
  v77 := Tryz.zeroValue78 }
end Go.Proofs

/- A slice that the call has built: its form, its block. -/
namespace Go.Proofs.YtgohddfnhofjhaaGreatDoor
open Go.RowKit

theorem Own.rebase {α : Type} {w : World} {base b2 : Nat} {E : TypeId} {k : Nat} {enc : α → List Value} {v : Value} {l : List α} (h : Own w base E k enc v l) (hb : b2 ≤ base) : Own w b2 E k enc v l := by
  obtain ⟨q1, q2⟩ := h
  refine ⟨q1, ?_⟩
  rcases q2 with q2 | ⟨g, cap, cur, e1, e2, r⟩
  · exact Or.inl q2
  · exact Or.inr ⟨g, cap, cur, e1, Nat.le_trans hb e2, r⟩
theorem Own.slw {α : Type} {w : World} {base : Nat} {E : TypeId} {k : Nat} {enc : α → List Value} {v : Value} {l : List α} (h : Own w base E k enc v l) : (v = .slice none 0 0 ∧ l = []) ∨ ∃ g cap, v = .slice (some ⟨g, 0, none⟩) l.length cap := by
  obtain ⟨q1, q2⟩ := h
  rcases q2 with ⟨q2, q3⟩ | ⟨g, cap, cur, e1, r⟩
  · exact Or.inl ⟨q2, List.length_eq_zero_iff.1 q3⟩
  · exact Or.inr ⟨g, cap, e1⟩
/-- The elements of a slice that the call has built, in one block. -/
theorem own_parts {α : Type} {w : World} {base : Nat} {E : TypeId} {k : Nat} {enc : α → List Value} {v : Value} {l : List α} (hk : ∀ x, (enc x).length = k) (h : Own w base E k enc v l) :
    ∃ ao cap P, v = .slice ao l.length cap ∧ l.length ≤ cap ∧ cap ≤ maxLen ∧ base ≤ P ∧ ∀ i x, l[i]? = some x → ao = some ⟨P, 0, none⟩ ∧ P < w.heap.size ∧ ∀ j u, (enc x)[j]? = some u → w.cell? ⟨P, i * k + j, none⟩ = some u := by
  by_cases hne : l = []
  · subst hne
    rcases Own.slw h with ⟨rfl, _⟩ | ⟨g, cap, rfl⟩
    · exact ⟨none, 0, base, rfl, by simp, by simp [maxLen], Nat.le_refl _, fun i x hx => by simp at hx⟩
    · obtain ⟨h1, h2⟩ := h
      rcases h2 with ⟨h2, _⟩ | ⟨g', cap', cur, hv, hg, hh, hn, hm, _⟩
      · cases h2
      · simp only [Value.slice.injEq, Option.some.injEq, Addr.mk.injEq, and_true, true_and] at hv
        obtain ⟨rfl, rfl⟩ := hv
        exact ⟨_, cap, g, rfl, hn, hm, hg, fun i x hx => by simp at hx⟩
  · obtain ⟨g, cap, rfl, h1, h2, h3, h4, h5, _⟩ := Own.getk hk h hne
    exact ⟨_, cap, g, rfl, h3, h4, h1, fun i x hx => ⟨rfl, h2, fun j u hu => h5 i x j u hx hu⟩⟩
end Go.Proofs.YtgohddfnhofjhaaGreatDoor

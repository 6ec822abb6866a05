/- The day as the document tells it: the times of answers stay in bounds. -/
import Derived.Test.YtehbmnkbmgnkfaaGreatDoorB20
import Derived.Test.YtehbmnkbmgnkfaaGreatDoorB22
import Derived.Test.YtehbmnkbmgnkfaaGreatDoorB25
namespace Go.Proofs.YtehbmnkbmgnkfaaGreatDoor
open Go.RowKit

def GoB (X : Xd) : Prop := ∀ g, g ∈ X.go → (0 ≤ g.ti ∧ g.ti ≤ 10000000000000) ∧ (0 ≤ g.bo ∧ g.bo ≤ 10000000000000)
section
variable {C : List Cch} {R : List Crl} {E : List Rel} {P : List Pur} {L : List Gt} {X X' : Xd} {pd : List Xw} {lim : Int}
theorem gob_give {w : Xw} {a : Ans} (h : GoB X) (ha : AnsOk a) (hno : 0 ≤ X.no ∧ X.no ≤ 1000006100000) : GoB (X.giveX C w a) := by
  unfold Xd.giveX
  cases w.ak with
  | some j => exact h
  | none =>
    intro g hg
    rcases List.mem_or_eq_of_mem_set hg with hg | rfl
    · exact h g hg
    · exact ⟨⟨hno.1, by show X.no ≤ _; omega⟩, ha.bo⟩
theorem gob_gives {a : Ans} (ha : AnsOk a) : ∀ (ws : List Xw) (X : Xd), GoB X → (0 ≤ X.no ∧ X.no ≤ 1000006100000) → GoB (X.givesX C ws a)
  | [], _, h, _ => h
  | w :: ws, X, h, hno => gob_gives ha ws (X.giveX C w a) (gob_give h ha hno) (by rw [giveX_no]; exact hno)
theorem gob_keep {i : Nat} {key : ByteArray} {a : Ans} (h : GoB X) : GoB (X.keepX C R P i key a) := by
  unfold Xd.keepX
  split
  · exact h
  · split <;> exact h
theorem gob_come {i : Nat} {key : ByteArray} {ge : Nat} {ak : Option Nat} (h : GoB X) (hx : XInv C P L pd X) : GoB (X.comeX C R P i key ge ak) := by
  unfold Xd.comeX
  split
  · exact h
  · split
    · rename_i hu
      have hA := (hx.hmOf hu.1).from (C.getD i default).na
      split
      · exact gob_give (X := ((X.setL i ldCa).setL i ldFr).setH i (useH (X.H i) key X.no)) h hA hx.no
      · split
        · exact gob_give (X := ((X.setL i ldCa).setL i ldSl).setH i (useH (X.H i) key X.no)) h hA hx.no
        · exact gob_give (X := (((X.setL i ldCa).setL i ldSl).setH i (useH (X.H i) key X.no)).startX C i key false []) h hA hx.no
    · split <;> exact h
theorem gob_next {m m' : Mod} (h : GoB X) (hx : XInv C P L [] X) (hv : Val C R E P L) (hn : X.next C R E P L lim m = some (m', X')) : GoB X' := by
  cases m with
  | out =>
    unfold Xd.next at hn
    dsimp only at hn
    split at hn
    · cases hn
    · split at hn
      · cases hn
      · cases hn; exact h
  | pur =>
    unfold Xd.next at hn
    dsimp only at hn
    split at hn
    · cases hn; exact h
    · cases hn; exact h
  | bak =>
    unfold Xd.next at hn
    dsimp only at hn
    split at hn
    · rename_i j hb
      cases hn
      obtain ⟨⟨g1, g2, g3, g4⟩, _⟩ := nextB_some hb
      have h2 := gob_gives (C := C) (hx.an j _ (Xd.at_ g1) g2) (X.K j).ws (X.doneX j) h hx.no
      unfold Xd.backX
      split
      · exact gob_keep h2
      · exact h2
    · cases hn; exact h
  | get =>
    unfold Xd.next at hn
    dsimp only at hn
    split at hn
    · rename_i hd
      cases hn
      have hxg : L[X.nx]? = some (L.getD X.nx default) := by rw [List.getD_eq_getElem?_getD, List.getElem?_eq_getElem hd.1]; rfl
      exact gob_come (X := { X with nx := X.nx + 1 }) h (hx.get hd.1 (fun x hx2 => by rw [← hd.2]; exact hv.ls X.nx (X.nx + 1) _ x (Nat.le_succ _) hxg hx2) 0)
    · cases hn; exact h
  | arr =>
    unfold Xd.next at hn
    dsimp only at hn
    split at hn
    · rename_i j hb
      cases hn
      obtain ⟨⟨g1, g2, g3⟩, _⟩ := nextA_some hb
      have hc := hx.came g1 g2 0
      unfold Xd.arrX
      split
      · exact gob_come (X := X.cameX j) h hc
      · exact gob_give (X := X.cameX j) h (oriM_ok hv.e _ ⟨hx.no.1, by have := hx.no.2; omega⟩) hx.no
    · cases hn; exact h
theorem gob_reach {m m' : Mod} (h : XReach C R E P L lim m X m' X') (hv : Val C R E P L) (hx : XInv C P L [] X) (hg : GoB X) : XInv C P L [] X' ∧ GoB X' := by
  induction h with
  | refl => exact ⟨hx, hg⟩
  | step _ hn ih =>
    obtain ⟨i1, i2⟩ := ih hx hg
    exact ⟨i1.next hv hn, gob_next i2 i1 hv hn⟩
theorem EndX.gob (h : EndX C R E P L lim X) (hv : Val C R E P L) : ∀ g, g ∈ X.go → (0 ≤ g.ti ∧ g.ti ≤ 10000000000000) ∧ (0 ≤ g.bo ∧ g.bo ≤ 10000000000000) :=
  (gob_reach h.rch hv (xd0_inv hv) fun g hg => by
    have hg' : g ∈ List.replicate L.length (default : Gtn) := hg
    rw [List.eq_of_mem_replicate hg']
    exact ⟨⟨Int.le_refl _, by decide⟩, ⟨Int.le_refl _, by decide⟩⟩).2
end
end Go.Proofs.YtehbmnkbmgnkfaaGreatDoor

/- Serve, Loads, Oldest: the walks. -/
namespace Go.Proofs.YtehbmnkbmgnkfaaGreatDoor
open Go.RowKit

def encD (x : Ldd) : List Value := [.int .i64 x.ca, .int .i64 x.fr, .int .i64 x.sl, .int .i64 x.wt, .int .i64 x.ak, .int .i64 x.bs]
theorem encD_len (x : Ldd) : (encD x).length = 6 := rfl
theorem infoLd : (Tryz.prog.info? 136).map (fun i => (i.zero, i.size, i.bytes)) = some (some (.agg #[.int .i64 0, .int .i64 0, .int .i64 0, .int .i64 0, .int .i64 0, .int .i64 0]), 6, 48) := by kernel_rfl
/-- The inputs are well formed. -/
structure WfS (C : List Cch) (R : List Crl) (E : List Rel) (P : List Pur) (L : List Gt) : Prop where
  c : ∀ x, x ∈ C → WfC x
  r : ∀ x, x ∈ R → WfU x
  e : ∀ x, x ∈ E → WfL x
  p : ∀ x, x ∈ P → WfG x
  l : ∀ x, x ∈ L → WfT x
/-- A box with the delivery, the fault, then what is played. -/
structure BoxS (w w2 : World) (C : List Cch) (R : List Crl) (E : List Rel) (P : List Pur) (L : List Gt) (vc vr ve vp vl : Value) : Prop where
  al : w2 = w.alloc (.cells #[vc, vr, ve, vp] 41)
  bel : Below w.heap.size w w2
  q : ∀ W, Below w2.heap.size w2 W → W.cell? ⟨w.heap.size, 0, none⟩ = some vc ∧ W.cell? ⟨w.heap.size, 1, none⟩ = some vr ∧ W.cell? ⟨w.heap.size, 2, none⟩ = some ve ∧ W.cell? ⟨w.heap.size, 3, none⟩ = some vp
  flt : ∀ W, Below w2.heap.size w2 W → Calls Tryz.prog 16 #[.agg #[vc, vr, ve, vp], vl] W fun e w' => e = .returned (.int .i64 (checkS C R E P L)) ∧ Below W.heap.size W w'
  ply : checkS C R E P L = 0 → ∀ W, Below w2.heap.size w2 W → Calls Tryz.prog 17 #[.agg #[vc, vr, ve, vp], vl] W fun e w' => ∃ B A D X, e = .returned (.pointer (some ⟨A.q, 0, none⟩)) ∧ PD w' B A D ∧ W.heap.size ≤ B ∧ EndX C R E P L 1152921504606846976 X ∧ Sim C [] D X ∧ Below W.heap.size W w'
theorem boxS (w : World) {C : List Cch} {R : List Crl} {E : List Rel} {P : List Pur} {L : List Gt} {vc vr ve vp vl : Value} (h : InS w C R E P L vc vr ve vp vl) (hw : WfS C R E P L) : ∃ w2, BoxS w w2 C R E P L vc vr ve vp vl := by
  obtain ⟨w2, hw2⟩ : ∃ w2, w2 = w.alloc (.cells #[vc, vr, ve, vp] 41) := ⟨_, rfl⟩
  have hb2 : Below w.heap.size w w2 := by rw [hw2]; exact (Below.refl _ w).alloc (Nat.le_refl _) _
  have hnb : w2.heap[w.heap.size]? = some (.cells #[vc, vr, ve, vp] 41 (0, 0)) := by rw [hw2]; exact block_new w _
  have hlt : w.heap.size < w2.heap.size := (Array.getElem?_eq_some_iff.1 hnb).1
  refine ⟨w2, hw2, hb2, fun W hW => ?_, fun W hW => ?_, fun h0 W hW => ?_⟩
  · have h1 := (hW.block _ hlt).trans hnb
    exact ⟨cellF h1 0 rfl, cellF h1 1 rfl, cellF h1 2 rfl, cellF h1 3 rfl⟩
  · have h' := h.below (hb2.trans (hW.mono (Nat.le_of_lt hlt)))
    exact getsFault_any W C R E P L vc vr ve vp vl h'.c h'.r h'.e h'.p h'.l hw.c hw.r hw.e hw.p hw.l
  · exact played_any W C R E P L vc vr ve vp vl (h.below (hb2.trans (hW.mono (Nat.le_of_lt hlt)))) (val_of h0)
set_option maxRecDepth 100000 in
set_option maxHeartbeats 4000000 in
theorem Serve_any (w : World) (C : List Cch) (R : List Crl) (E : List Rel) (P : List Pur) (L : List Gt) (vc vr ve vp vl : Value) (h : InS w C R E P L vc vr ve vp vl) (hw : WfS C R E P L) :
    Calls Tryz.prog 7 #[.agg #[vc, vr, ve, vp], vl] w fun e w' => (∃ v, e = .returned (.tuple #[v, .int .i64 (checkS C R E P L)]) ∧ ∃ l, Sl w' 5 encN v l ∧ (checkS C R E P L ≠ 0 → l = []) ∧ (checkS C R E P L = 0 → ∃ X, EndX C R E P L 1152921504606846976 X ∧ l = X.go)) ∧ Below w.heap.size w w' := by
  obtain ⟨w2, hbx⟩ := boxS w h hw
  have HW2 := Lib.hid hbx.al
  have HB2 := Lib.hid hbx.bel
  have HF := Lib.hid (hbx.flt w2 (Below.refl _ _))
  have HPL := Lib.hid hbx.ply
  have HQ := Lib.hid hbx.q
  obtain ⟨q0, q1, q2, q3⟩ := hbx.q w2 (Below.refl _ _)
  have HV := Lib.hid (val_of (C := C) (R := R) (E := E) (P := P) (L := L))
  clear hbx h hw
  generalize checkS C R E P L = S at HF HPL HV ⊢
  go_enter Tryz.func7, Tryz.ntmps7
  go_upto_region 1 with (fail)
  rw [← HW2.out]
  go_wp2_with (go_at_call 16; (with_reducible refine HF.out.mono ?_); rintro e w3 ⟨rfl, hb3⟩; have HB3 := Lib.hid hb3; obtain ⟨r0, r1, r2, r3⟩ := HQ.out w3 hb3; clear hb3 q0 q1 q2 q3; by_cases hS : S = 0)
  · subst hS
    have HPW := Lib.hid (HPL.out rfl w3 HB3.out)
    go_wp2_with (go_at_call 17; (with_reducible refine HPW.out.mono ?_); rintro e w4 ⟨B, A, D, X, rfl, hp, hBl, hE, hS, hb4⟩; have hc : w4.cell? ⟨A.q, 7, none⟩ = some A.gv := cellF hp.qb.2 7 rfl; have HO := Lib.hid (hp.gots.sl encN_len); have HE := Lib.hid (And.intro hE hS); have HB4 := Lib.hid (HB2.out.thru (HB3.out.thru hb4)); clear hb4 hE hS hp hBl r0 r1 r2 r3)
    go_wp2_with fail
    go_ret2
    exact ⟨⟨A.gv, by rfl, D.go, HO.out, X, HE.out.1, HE.out.2.go_eq (HE.out.1.done (HV.out (by trivial)))⟩, HB4.out⟩
  · go_wp2_with fail
    go_ret2
    exact ⟨⟨_, by rfl, [], Sl.nil, fun _ => rfl, fun h => absurd h hS⟩, HB2.out.thru HB3.out⟩
/-- How old an answer was at most. -/
def oldM : List Gtn → Int
  | [] => 0
  | g :: l => max (oldM l) (g.ti - g.bo)
def oldB (C : List Cch) (R : List Crl) (E : List Rel) (P : List Pur) (L : List Gt) : Bool := decide (checkS C R E P L = 0 ∧ 0 < L.length)
theorem oldM_app (l : List Gtn) (g : Gtn) : oldM (l ++ [g]) = max (oldM l) (g.ti - g.bo) := by
  induction l with
  | nil => rfl
  | cons a l ih => show max (oldM (l ++ [g])) _ = max (max (oldM l) _) _; rw [ih]; omega
end Go.Proofs.YtehbmnkbmgnkfaaGreatDoor

/- One cache at the origin, one key, no purges: who asks again and again never gets an older answer (plain). -/
namespace Go.Proofs.YtehbmnkbmgnkfaaGreatDoor
open Go.RowKit

structure One (C : List Cch) (R : List Crl) (E : List Rel) (L : List Gt) (K : ByteArray) : Prop where
  pa : parO C 0 < 0
  lk : ∀ g, g ∈ L → cNum C g.ca = 0 ∧ g.ke = K
  rl : (ruI R K R.length).isSome = true
  nn : ∀ t, 0 ≤ t → (oriM E K t).no = false
/-- Is what is held usable? -/
def UsbN (R : List Crl) (K : ByteArray) (X : Xd) : Prop := onH (X.H 0) K = true ∧ X.no < untM (rulO R K) (hmOf (X.H 0) K).an true
/-- A get that waits no more. -/
def AnsN (X : Xd) (g : Nat) : Prop := g < X.nx ∧ ∀ w, w ∈ waitsX X → w.ge ≠ g
structure Ngb (R : List Crl) (K : ByteArray) (X : Xd) : Prop where
  ak : ∀ (j : Nat) (k : Xk), X.ak[j]? = some k → k.ca = 0 ∧ k.ke = K ∧ k.al = false ∧ (j + 1 < X.ak.length → k.dn = true) ∧ ∀ w, w ∈ k.ws → w.ak = none
  sf : ∀ w, w ∈ waitsX X → ∀ g, w.ge ≤ g → g < X.nx → ∃ v, v ∈ waitsX X ∧ v.ge = g
  mo : ∀ g g', g ≤ g' → AnsN X g → AnsN X g' → (X.G g).bo ≤ (X.G g').bo
  kn : ∀ (j : Nat) (k : Xk), X.ak[j]? = some k → k.kn = true → k.dn = false → (∀ g, AnsN X g → (X.G g).bo ≤ k.go.bo) ∧ (onH (X.H 0) K = true → (hmOf (X.H 0) K).an.bo ≤ k.go.bo)
  un : waitsX X ≠ [] → ¬ UsbN R K X
  us : UsbN R K X → ∀ g, AnsN X g → (X.G g).bo ≤ (hmOf (X.H 0) K).an.bo
section
variable {C : List Cch} {R : List Crl} {E : List Rel} {L : List Gt} {K : ByteArray} {X Y : Xd}
theorem waits_mem {w : Xw} : w ∈ waitsX X ↔ ∃ (j : Nat) (k : Xk), X.ak[j]? = some k ∧ k.dn = false ∧ w ∈ k.ws := by
  unfold waitsX wsOf
  rw [List.mem_flatMap]
  constructor
  · rintro ⟨k, hk, hw⟩
    obtain ⟨j, hj⟩ := List.mem_iff_getElem?.1 hk
    cases hd : k.dn
    · rw [hd, if_neg (by simp)] at hw
      exact ⟨j, k, hj, hd, hw⟩
    · rw [hd, if_pos rfl] at hw
      cases hw
  · rintro ⟨j, k, hj, hd, hw⟩
    exact ⟨k, List.mem_of_getElem? hj, by rw [hd, if_neg (by simp)]; exact hw⟩
theorem Ngb.now (h : Ngb R K X) {t : Int} (ht : X.no ≤ t) : Ngb R K { X with no := t } := by
  have hu : UsbN R K { X with no := t } → UsbN R K X := fun hu => ⟨hu.1, Int.lt_of_le_of_lt ht hu.2⟩
  exact ⟨h.ak, h.sf, h.mo, h.kn, fun e hh => h.un e (hu hh), fun hh => h.us (hu hh)⟩
/-- A get is answered out of what is held. -/
theorem Ngb.ans {x : Gtn} (h : Ngb R K X) (hu : UsbN R K X)
    (hak : Y.ak = X.ak ∨ ∃ k : Xk, Y.ak = X.ak ++ [k] ∧ k.ca = 0 ∧ k.ke = K ∧ k.al = false ∧ k.ws = [] ∧ k.kn = false ∧ ∀ (j : Nat) (k : Xk), X.ak[j]? = some k → k.dn = true)
    (hnx : Y.nx = X.nx + 1) (_hon : onH (Y.H 0) K = onH (X.H 0) K) (han : (hmOf (Y.H 0) K).an = (hmOf (X.H 0) K).an)
    (hG : ∀ g, Y.G g = if g = X.nx then x else X.G g) (hb : x.bo = (hmOf (X.H 0) K).an.bo) : Ngb R K Y := by
  have hw0 : waitsX X = [] := Classical.byContradiction fun e => h.un e hu
  have hwY : waitsX Y = [] := by
    rcases hak with e | ⟨k, e, _, _, _, h5, _⟩
    · unfold waitsX at hw0 ⊢; rw [e]; exact hw0
    · unfold waitsX at hw0 ⊢
      rw [e, List.flatMap_append, hw0, List.nil_append, List.flatMap_cons, List.flatMap_nil, List.append_nil]
      unfold wsOf
      rw [h5]; split <;> rfl
  have hX : ∀ g, g < X.nx → AnsN X g := fun g hg => ⟨hg, fun w hw => by rw [hw0] at hw; cases hw⟩
  have hle : ∀ g, AnsN Y g → (Y.G g).bo ≤ (hmOf (X.H 0) K).an.bo := fun g hg => by
    have hl := hg.1
    rw [hnx] at hl
    rw [hG]
    split
    · rw [hb]; exact Int.le_refl _
    · exact h.us hu g (hX g (by omega))
  refine ⟨?_, fun w hw => (by rw [hwY] at hw; cases hw), ?_, ?_, fun e => absurd hwY e, ?_⟩
  · intro j k hk
    rcases hak with e | ⟨k0, e, h1, h2, h3, h4, _, h6⟩
    · rw [e] at hk ⊢; exact h.ak j k hk
    · rw [e] at hk ⊢
      by_cases hj : j < X.ak.length
      · rw [List.getElem?_append_left hj] at hk
        obtain ⟨a1, a2, a3, _, a5⟩ := h.ak j k hk
        exact ⟨a1, a2, a3, fun _ => h6 j k hk, a5⟩
      · rw [List.getElem?_append_right (by omega)] at hk
        obtain ⟨hj0, hk0⟩ : j - X.ak.length = 0 ∧ k = k0 := by
          cases hz : j - X.ak.length with
          | zero => rw [hz] at hk; exact ⟨rfl, by simpa using hk.symm⟩
          | succ n => rw [hz] at hk; simp at hk
        subst hk0
        refine ⟨h1, h2, h3, fun hlt => ?_, fun w hw => ?_⟩
        · rw [List.length_append] at hlt; simp at hlt; omega
        · rw [h4] at hw; cases hw
  · intro g g' hgg hg hg'
    have hl := hg'.1
    rw [hnx] at hl
    rw [hG g', hG g]
    by_cases e1 : g' = X.nx
    · rw [if_pos e1]
      split
      · exact Int.le_refl _
      · rw [hb]; exact h.us hu g (hX g (by omega))
    · rw [if_neg e1, if_neg (by omega)]
      exact h.mo g g' hgg (hX g (by omega)) (hX g' (by omega))
  · intro j k hk hkn hkd
    have hx : X.ak[j]? = some k := by
      rcases hak with e | ⟨k0, e, _, _, _, _, h5, _⟩
      · rw [e] at hk; exact hk
      · rw [e] at hk
        by_cases hj : j < X.ak.length
        · rw [List.getElem?_append_left hj] at hk; exact hk
        · rw [List.getElem?_append_right (by omega)] at hk
          cases hz : j - X.ak.length with
          | zero => rw [hz] at hk; have e : k0 = k := by simpa using hk
                    rw [← e, h5] at hkn; cases hkn
          | succ n => rw [hz] at hk; simp at hk
    have h2 := (h.kn j k hx hkn hkd).2
    refine ⟨fun g hg => Int.le_trans (hle g hg) (h2 hu.1), fun _ => ?_⟩
    rw [han]; exact h2 hu.1
  · intro _ g hg
    rw [han]; exact hle g hg
/-- A get waits. -/
theorem Ngb.wait (h : Ngb R K X) (hu : ¬ UsbN R K X) {ho : Int}
    (hw : ∀ w, w ∈ waitsX Y ↔ w ∈ waitsX X ∨ w = ⟨X.nx, none, ho⟩)
    (hak : ∀ (j : Nat) (k : Xk), Y.ak[j]? = some k → k.ca = 0 ∧ k.ke = K ∧ k.al = false ∧ (j + 1 < Y.ak.length → k.dn = true) ∧ ∀ w, w ∈ k.ws → w.ak = none)
    (hkn : ∀ (j : Nat) (k : Xk), Y.ak[j]? = some k → k.kn = true → k.dn = false → ∃ k0 : Xk, X.ak[j]? = some k0 ∧ k0.kn = true ∧ k0.dn = false ∧ k0.go = k.go)
    (hnx : Y.nx = X.nx + 1) (hno : Y.no = X.no) (hH : Y.H 0 = X.H 0) (hG : ∀ g, Y.G g = X.G g) : Ngb R K Y := by
  have hA : ∀ g, AnsN Y g → AnsN X g := fun g hg => by
    have h1 := hg.1
    have h2 := hg.2 _ ((hw _).2 (.inr rfl))
    rw [hnx] at h1
    have h2' : X.nx ≠ g := h2
    exact ⟨by omega, fun w hh => hg.2 w ((hw w).2 (.inl hh))⟩
  have hU : ¬ UsbN R K Y := fun e => hu (by unfold UsbN at e ⊢; rw [hH, hno] at e; exact e)
  refine ⟨hak, ?_, fun g g' hgg hg hg' => by rw [hG, hG]; exact h.mo g g' hgg (hA g hg) (hA g' hg'), ?_, fun _ => hU, fun e => absurd e hU⟩
  · intro w hww g h1 h2
    rw [hnx] at h2
    by_cases e : g = X.nx
    · exact ⟨_, (hw _).2 (.inr rfl), e.symm⟩
    · rcases (hw w).1 hww with hx | rfl
      · obtain ⟨v, hv, e2⟩ := h.sf w hx g h1 (by omega)
        exact ⟨v, (hw v).2 (.inl hv), e2⟩
      · have h1' : X.nx ≤ g := h1
        omega
  · intro j k hk h1 h2
    obtain ⟨k0, e1, e2, e3, e4⟩ := hkn j k hk h1 h2
    obtain ⟨a1, a2⟩ := h.kn j k0 e1 e2 e3
    rw [e4] at a1 a2
    exact ⟨fun g hg => by rw [hG]; exact a1 g (hA g hg), fun e => by rw [hH] at e ⊢; exact a2 e⟩
theorem onH_use (l : List Xh) (no : Int) : onH (useH l K no) K = onH l K ∧ (onH l K = true → (hmOf (useH l K no) K).an = (hmOf l K).an) := by
  unfold onH hmOf useH
  induction l with
  | nil => exact ⟨rfl, fun h => by cases h⟩
  | cons a l ih =>
    by_cases e : a.ke = K
    · refine ⟨by simp [e], fun _ => ?_⟩
      simp [e]
    · refine ⟨by simp only [List.map_cons, if_neg e, List.any_cons, ih.1], fun h => ?_⟩
      simp only [List.any_cons, decide_eq_false e, Bool.false_or] at h
      simp only [List.map_cons, if_neg e, List.find?_cons, decide_eq_false e]
      exact ih.2 h
theorem setH_H (h : 0 < X.he.length) (l : List Xh) : (X.setH 0 l).H 0 = l := by
  unfold Xd.H Xd.setH
  rw [List.getD_eq_getElem?_getD, List.getElem?_set_self h]; rfl
theorem way_none {i : Nat} {key : ByteArray} {last : Int} (h : X.wayX i key last = none) : ∀ (j : Nat) (k : Xk), X.ak[j]? = some k → k.ca = i → k.ke = key → k.al = false → last ≤ k.ma → k.dn = true := fun j k hk h1 h2 h3 h4 => by
  unfold Xd.wayX at h
  rw [List.find?_eq_none] at h
  have h5 := h j (List.mem_range.2 (List.getElem?_eq_some_iff.1 hk).1)
  rw [Xd.K_eq hk, h1, h2, h3] at h5
  cases hd : k.dn
  · exact absurd (by simp [hd, h4]) h5
  · rfl
/-- A get comes. -/
theorem Ngb.come (h : Ngb R K X) (o : One C R E L K) (hx : XInv C [] L [] X) (hc : 0 < C.length) (hl : X.nx < L.length) : Ngb R K (({ X with nx := X.nx + 1 } : Xd).comeX C R [] 0 K X.nx none) := by
  have hhe : 0 < X.he.length := by rw [hx.le.1]; exact hc
  have hgo : X.nx < X.go.length := by rw [hx.le.2.2.1]; exact hl
  have hG : ∀ (x : Gtn) (g : Nat), (X.go.set X.nx x).getD g default = if g = X.nx then x else X.G g := fun x g => by
    unfold Xd.G
    rw [List.getD_eq_getElem?_getD, List.getD_eq_getElem?_getD]
    by_cases e : g = X.nx
    · rw [if_pos e, e, List.getElem?_set_self hgo]; rfl
    · rw [if_neg e, List.getElem?_set_ne (fun c => e c.symm)]
  have hma : ∀ (j : Nat) (k : Xk), X.ak[j]? = some k → purM [] K X.no ≤ k.ma := fun j k hk => by
    have := (hx.tm j k hk).1.1
    have e : purM [] K X.no = -1 := rfl
    rw [e]; omega
  unfold Xd.comeX
  rw [if_neg (by rw [o.rl]; simp)]
  have eH : ({ X with nx := X.nx + 1 } : Xd).H 0 = X.H 0 := rfl
  split
  · rename_i hu
    have hu : UsbN R K X := hu
    obtain ⟨u1, u2⟩ := onH_use (K := K) (X.H 0) X.no
    have u2 := u2 hu.1
    split
    · refine h.ans (x := ⟨X.no, (hmOf (X.H 0) K).an.ve, (hmOf (X.H 0) K).an.bo, (C.getD 0 default).na, 1⟩) hu (.inl rfl) rfl ?_ ?_ (fun g => hG _ g) rfl
      · exact (congrArg (onH · K) (setH_H (X := ({ X with nx := X.nx + 1 } : Xd)) hhe _)).trans u1
      · exact (congrArg (fun l => (hmOf l K).an) (setH_H (X := ({ X with nx := X.nx + 1 } : Xd)) hhe _)).trans u2
    · split
      · refine h.ans (x := ⟨X.no, (hmOf (X.H 0) K).an.ve, (hmOf (X.H 0) K).an.bo, (C.getD 0 default).na, 2⟩) hu (.inl rfl) rfl ?_ ?_ (fun g => hG _ g) rfl
        · exact (congrArg (onH · K) (setH_H (X := ({ X with nx := X.nx + 1 } : Xd)) hhe _)).trans u1
        · exact (congrArg (fun l => (hmOf l K).an) (setH_H (X := ({ X with nx := X.nx + 1 } : Xd)) hhe _)).trans u2
      · rename_i hw
        have hw : X.wayX 0 K (purM [] K X.no) = none := hw
        refine h.ans (x := ⟨X.no, (hmOf (X.H 0) K).an.ve, (hmOf (X.H 0) K).an.bo, (C.getD 0 default).na, 2⟩) hu (.inr ⟨_, rfl, rfl, rfl, rfl, rfl, rfl, fun j k hk => ?_⟩) rfl ?_ ?_ (fun g => hG _ g) rfl
        · obtain ⟨a1, a2, a3, _⟩ := h.ak j k hk
          exact way_none hw j k hk a1 a2 a3 (hma j k hk)
        · exact (congrArg (onH · K) (setH_H (X := ({ X with nx := X.nx + 1 } : Xd)) hhe _)).trans u1
        · exact (congrArg (fun l => (hmOf l K).an) (setH_H (X := ({ X with nx := X.nx + 1 } : Xd)) hhe _)).trans u2
  · rename_i hu
    have hu : ¬ UsbN R K X := hu
    split
    · rename_i j hw
      have hw : X.wayX 0 K (purM [] K X.no) = some j := hw
      obtain ⟨w1, w2, w3, w4, w5, _⟩ := wayX_some hw
      have hk := Xd.at_ w1
      have hpm := waits_set (k' := { X.K j with ws := (X.K j).ws ++ [⟨X.nx, none, 4⟩] }) hk
      have e1 : wsOf (X.K j) = (X.K j).ws := by unfold wsOf; rw [w3, if_neg (by simp)]
      have e2 : wsOf { X.K j with ws := (X.K j).ws ++ [⟨X.nx, none, 4⟩] } = (X.K j).ws ++ [⟨X.nx, none, 4⟩] := by unfold wsOf; dsimp only; rw [w3, if_neg (by simp)]
      rw [e1, e2, List.append_assoc] at hpm
      have hpm := (List.perm_append_left_iff _).1 hpm
      refine h.wait (ho := 4) hu ?_ ?_ ?_ rfl rfl rfl (fun _ => rfl)
      · intro w
        refine (List.Perm.mem_iff hpm (a := w)).trans ?_
        rw [List.singleton_append, List.mem_cons]
        exact Or.comm
      · intro a k hka
        obtain ⟨a1, a2, a3, a4, a5⟩ := h.ak j _ hk
        rcases setA_at (X := X) hka with ⟨rfl, rfl⟩ | ⟨_, hka⟩
        · refine ⟨a1, a2, a3, fun hlt => a4 ?_, fun w hw => ?_⟩
          · have e : (X.setA a { X.K a with ws := (X.K a).ws ++ [⟨X.nx, none, 4⟩] }).ak.length = X.ak.length := setA_len
            rw [← e]; exact hlt
          · rcases List.mem_append.1 hw with hw | hw
            · exact a5 w hw
            · rw [List.mem_singleton] at hw; rw [hw]
        · obtain ⟨b1, b2, b3, b4, b5⟩ := h.ak a k hka
          refine ⟨b1, b2, b3, fun hlt => b4 ?_, b5⟩
          have e : (X.setA j { X.K j with ws := (X.K j).ws ++ [⟨X.nx, none, 4⟩] }).ak.length = X.ak.length := setA_len
          rw [← e]; exact hlt
      · intro a k hka hk1 hk2
        rcases setA_at (X := X) hka with ⟨rfl, rfl⟩ | ⟨_, hka⟩
        · exact ⟨_, hk, hk1, hk2, rfl⟩
        · exact ⟨_, hka, hk1, hk2, rfl⟩
    · rename_i hw
      have hw : X.wayX 0 K (purM [] K X.no) = none := hw
      refine h.wait (ho := 3) hu ?_ ?_ ?_ rfl rfl rfl (fun _ => rfl)
      · intro w
        rw [waits_start, List.mem_append, List.mem_singleton]
        exact Iff.rfl
      · intro a k hka
        have hka : (X.ak ++ [⟨0, K, X.no, X.no + deO C 0, false, false, 0, default, false, false, [⟨X.nx, none, 3⟩]⟩])[a]? = some k := hka
        by_cases ha : a < X.ak.length
        · rw [List.getElem?_append_left ha] at hka
          obtain ⟨b1, b2, b3, b4, b5⟩ := h.ak a k hka
          exact ⟨b1, b2, b3, fun _ => way_none hw a k hka b1 b2 b3 (hma a k hka), b5⟩
        · rw [List.getElem?_append_right (by omega)] at hka
          cases hz : a - X.ak.length with
          | zero =>
            rw [hz] at hka
            simp only [List.getElem?_cons_zero, Option.some.injEq] at hka
            subst hka
            refine ⟨rfl, rfl, rfl, fun hlt => ?_, fun w hw => ?_⟩
            · have hlt : a + 1 < (X.ak ++ [_]).length := hlt
              rw [List.length_append] at hlt
              simp at hlt; omega
            · rw [List.mem_singleton] at hw; rw [hw]
          | succ n => rw [hz] at hka; simp at hka
      · intro a k hka hk1 hk2
        have hka : (X.ak ++ [⟨0, K, X.no, X.no + deO C 0, false, false, 0, default, false, false, [⟨X.nx, none, 3⟩]⟩])[a]? = some k := hka
        by_cases ha : a < X.ak.length
        · rw [List.getElem?_append_left ha] at hka
          exact ⟨_, hka, hk1, hk2, rfl⟩
        · rw [List.getElem?_append_right (by omega)] at hka
          cases hz : a - X.ak.length with
          | zero =>
            rw [hz] at hka
            simp only [List.getElem?_cons_zero, Option.some.injEq] at hka
            subst hka
            cases hk1
          | succ n => rw [hz] at hka; simp at hka
/-- Answers for some gets at once. -/
theorem gives_none (a : Ans) : ∀ (ws : List Xw) (X : Xd), (∀ w, w ∈ ws → w.ak = none) → (∀ w, w ∈ ws → w.ge < X.go.length) →
    ∃ go, X.givesX C ws a = { X with go := go } ∧ go.length = X.go.length ∧ ∀ g, (go.getD g default).bo = if ∃ w, w ∈ ws ∧ w.ge = g then a.bo else (X.G g).bo
  | [], X, _, _ => ⟨X.go, rfl, rfl, fun g => by rw [if_neg (by rintro ⟨w, hw, _⟩; cases hw)]; rfl⟩
  | v :: ws, X, h1, h2 => by
    have hv := h1 v (List.mem_cons_self ..)
    have hg := h2 v (List.mem_cons_self ..)
    have e : X.giveX C v a = { X with go := X.go.set v.ge ⟨X.no, a.ve, a.bo, a.fr, v.ho⟩ } := by unfold Xd.giveX; rw [hv]
    obtain ⟨go, g1, g2, g3⟩ := gives_none a ws (X.giveX C v a) (fun w hw => h1 w (List.mem_cons_of_mem _ hw)) (fun w hw => by rw [e]; show w.ge < (X.go.set _ _).length; rw [List.length_set]; exact h2 w (List.mem_cons_of_mem _ hw))
    refine ⟨go, ?_, ?_, fun g => ?_⟩
    · show (X.giveX C v a).givesX C ws a = _
      rw [g1, e]
    · rw [g2, e]; exact List.length_set
    · rw [g3 g]
      by_cases hw : ∃ w, w ∈ ws ∧ w.ge = g
      · obtain ⟨w, hw1, hw2⟩ := hw
        rw [if_pos ⟨w, hw1, hw2⟩, if_pos ⟨w, List.mem_cons_of_mem _ hw1, hw2⟩]
      · rw [if_neg hw, e]
        show ((X.go.set v.ge ⟨X.no, a.ve, a.bo, a.fr, v.ho⟩).getD g default).bo = _
        rw [List.getD_eq_getElem?_getD]
        by_cases eg : v.ge = g
        · rw [if_pos ⟨v, List.mem_cons_self .., eg⟩, ← eg, List.getElem?_set_self hg]; rfl
        · rw [List.getElem?_set_ne eg, ← List.getD_eq_getElem?_getD, if_neg]
          · rfl
          · rintro ⟨w, hw1, hw2⟩
            rcases List.mem_cons.1 hw1 with rfl | hw1
            · exact eg hw2
            · exact hw ⟨w, hw1, hw2⟩
theorem hm_last {l : List Xh} {a : Ans} {no : Int} (h : ∀ x, x ∈ l → x.ke ≠ K) : hmOf (l ++ [⟨K, a, no⟩]) K = ⟨a, no⟩ := by
  unfold hmOf
  rw [List.find?_append, List.find?_eq_none.2 (fun x hx => by simpa using h x hx)]
  simp
theorem untM_mo {r : Crl} {a b : Ans} (ha : a.no = false) (hb : b.no = false) (h : a.bo ≤ b.bo) : untM r a true ≤ untM r b true := by
  unfold untM
  rw [ha, hb]
  simp only [if_neg (show ¬ false = true by decide), if_true]
  omega
/-- An answer comes back. -/
theorem Ngb.back {j : Nat} (h : Ngb R K X) (o : One C R E L K) (hx : XInv C [] L [] X) (hg : GInv R E [] L C [] X) (hc : 0 < C.length) (hj : j < X.ak.length) (hkn : (X.K j).kn = true) (hdn : (X.K j).dn = false) : Ngb R K (X.backX C R [] j) := by
  have hk := Xd.at_ hj
  obtain ⟨a1, a2, a3, a4, a5⟩ := h.ak j _ hk
  obtain ⟨k1, k2⟩ := h.kn j _ hk hkn hdn
  have hhe : 0 < X.he.length := by rw [hx.le.1]; exact hc
  have hlast : j + 1 = X.ak.length := by
    by_cases e : j + 1 < X.ak.length
    · have := a4 e; rw [hdn] at this; cases this
    · omega
  have hW : ∀ w, w ∈ waitsX X ↔ w ∈ (X.K j).ws := fun w => by
    rw [waits_mem]
    constructor
    · rintro ⟨i, k, hi, hd, hw⟩
      have hil := (List.getElem?_eq_some_iff.1 hi).1
      by_cases e : i = j
      · subst e; rw [Xd.K_eq hi]; exact hw
      · have := (h.ak i k hi).2.2.2.1 (by omega)
        rw [hd] at this; cases this
    · intro hw; exact ⟨j, _, hk, hdn, hw⟩
  have hwg : ∀ w, w ∈ (X.K j).ws → w.ge < X.nx := fun w hw => hx.wg w ((hW w).2 hw) (a5 w hw)
  have hgl : ∀ w, w ∈ (X.K j).ws → w.ge < X.go.length := fun w hw => by
    have := hwg w hw
    have h2 := hx.le.2.2.2.1
    rw [hx.le.2.2.1]; omega
  obtain ⟨go, g1, g2, g3⟩ := gives_none (C := C) (X.K j).go (X.K j).ws (X.doneX j) a5 hgl
  have hU : ∃ he, X.backX C R [] j = { (X.doneX j) with go := go, he := he } ∧ ((X.H 0 = he.getD 0 [] ∧ untM (rulO R K) (X.K j).go true ≤ X.no) ∨ onH (he.getD 0 []) K = false ∨ hmOf (he.getD 0 []) K = ⟨(X.K j).go, X.no⟩) := by
    unfold Xd.backX
    rw [if_pos a3, g1, a1, a2]
    unfold Xd.keepX
    have hbo : 0 ≤ (X.K j).go.bo := (hx.an j _ hk hkn).bo.1
    split
    · rename_i hn
      refine ⟨X.he, rfl, .inl ⟨rfl, ?_⟩⟩
      unfold Xd.noKX at hn
      rcases Bool.or_eq_true _ _ ▸ hn with hn | hn
      · have hn2 : onH (X.H 0) K = true ∧ (X.K j).go.bo < (hmOf (X.H 0) K).an.bo := by
          have := Bool.and_eq_true _ _ ▸ hn
          exact ⟨this.1, of_decide_eq_true this.2⟩
        have := k2 hn2.1
        omega
      · rcases Bool.or_eq_true _ _ ▸ hn with hn | hn
        · have hn2 : (X.K j).go.bo < -1 := of_decide_eq_true hn
          omega
        · exact of_decide_eq_true hn
    · have eX : ({ X.doneX j with go := go } : Xd).H 0 = X.H 0 := rfl
      have hs : ∀ l : List Xh, (X.he.set 0 l).getD 0 [] = l := fun l => by rw [List.getD_eq_getElem?_getD, List.getElem?_set_self hhe]; rfl
      split
      · refine ⟨X.he.set 0 (delH (X.H 0) K), rfl, .inr (.inl ?_)⟩
        rw [hs]
        cases ho : onH (delH (X.H 0) K) K
        · rfl
        · obtain ⟨x, hx1, hx2⟩ := onH_iff.1 ho
          have := (List.mem_filter.1 hx1).2
          simp [hx2] at this
      · refine ⟨X.he.set 0 (evX (delH (X.H 0) K) (C.getD 0 default).ro (needA (X.K j).go) ++ [⟨K, (X.K j).go, X.no⟩]), rfl, .inr (.inr ?_)⟩
        rw [hs]
        refine hm_last fun x hx1 e => ?_
        have := (List.mem_filter.1 (evX_sub hx1)).2
        simp [e] at this
  obtain ⟨he, e, hU⟩ := hU
  rw [e]
  have hak : ∀ (i : Nat) (k : Xk), (X.doneX j).ak[i]? = some k → k.ca = 0 ∧ k.ke = K ∧ k.al = false ∧ k.dn = true ∧ ∀ w, w ∈ k.ws → w.ak = none := fun i k hi => by
    rcases setA_at (X := X) hi with ⟨rfl, rfl⟩ | ⟨hne, hi⟩
    · exact ⟨a1, a2, a3, rfl, a5⟩
    · obtain ⟨b1, b2, b3, b4, b5⟩ := h.ak i k hi
      have hil := (List.getElem?_eq_some_iff.1 hi).1
      exact ⟨b1, b2, b3, b4 (by omega), b5⟩
  have hw0 : waitsX ({ (X.doneX j) with go := go, he := he } : Xd) = [] := by
    rw [List.eq_nil_iff_forall_not_mem]
    intro w hw
    obtain ⟨i, k, hi, hd, _⟩ := waits_mem.1 hw
    have := (hak i k hi).2.2.2.1
    rw [hd] at this; cases this
  have hA : ∀ g, g < X.nx → (∃ w, w ∈ (X.K j).ws ∧ w.ge = g) ∨ AnsN X g := fun g hgx => by
    by_cases hw : ∃ w, w ∈ (X.K j).ws ∧ w.ge = g
    · exact .inl hw
    · exact .inr ⟨hgx, fun w hw2 e2 => hw ⟨w, (hW w).1 hw2, e2⟩⟩
  have eG : ∀ g, ({ (X.doneX j) with go := go, he := he } : Xd).G g = go.getD g default := fun _ => rfl
  have eX : ∀ g, ((X.doneX j).G g) = X.G g := fun _ => rfl
  have hle : ∀ g, g < X.nx → (go.getD g default).bo ≤ (X.K j).go.bo := fun g hgx => by
    rw [g3]
    split
    · exact Int.le_refl _
    · rename_i hn
      rcases hA g hgx with hw | hw
      · exact absurd hw hn
      · exact k1 g hw
  refine ⟨fun i k hi => ?_, fun w hw => (by rw [hw0] at hw; cases hw), ?_, ?_, fun c => absurd hw0 c, ?_⟩
  · obtain ⟨b1, b2, b3, b4, b5⟩ := hak i k hi
    exact ⟨b1, b2, b3, fun _ => b4, b5⟩
  · intro g g' hgg hg1 hg2
    have h1 : g < X.nx := hg1.1
    have h2 : g' < X.nx := hg2.1
    rw [eG, eG]
    by_cases hw : ∃ w, w ∈ (X.K j).ws ∧ w.ge = g'
    · rw [g3 g', if_pos hw]; exact hle g h1
    · have hw2 : ¬ ∃ w, w ∈ (X.K j).ws ∧ w.ge = g := by
        rintro ⟨w, hw1, hwe⟩
        obtain ⟨v, hv1, hv2⟩ := h.sf w ((hW w).2 hw1) g' (by omega) h2
        exact hw ⟨v, (hW v).1 hv1, hv2⟩
      rw [g3 g', g3 g, if_neg hw, if_neg hw2, eX, eX]
      refine h.mo g g' hgg ?_ ?_
      · rcases hA g h1 with c | c
        · exact absurd c hw2
        · exact c
      · rcases hA g' h2 with c | c
        · exact absurd c hw
        · exact c
  · intro i k hi _ hd
    have := (hak i k hi).2.2.2.1
    rw [hd] at this; cases this
  · intro hu g hgY
    have hgx : g < X.nx := hgY.1
    have hu1 : onH (he.getD 0 []) K = true := hu.1
    have hu2 : X.no < untM (rulO R K) (hmOf (he.getD 0 []) K).an true := hu.2
    show (go.getD g default).bo ≤ (hmOf (he.getD 0 []) K).an.bo
    rcases hU with ⟨e1, e2⟩ | e1 | e1
    · exfalso
      rw [← e1] at hu1 hu2
      have hle2 := k2 hu1
      obtain ⟨x, hx1, hx2, hx3⟩ := hmOf_mem (hx.held 0).1 hu1
      have hso := (hg.hh 0 _ (Xd.H_at hhe) x hx1).so
      have hb := (hx.hmOf hu1).bo.1
      have hn1 : (hmOf (X.H 0) K).an.no = false := by
        rw [hx3] at hb ⊢
        dsimp only at hb ⊢
        rw [hso.2.2, hx2]
        exact o.nn _ hb
      have hn2 : (X.K j).go.no = false := by
        rw [(hg.kw j _ hk hkn).so.2.2, a2]
        exact o.nn _ (hx.an j _ hk hkn).bo.1
      have := untM_mo (r := rulO R K) hn1 hn2 hle2
      omega
    · rw [hu1] at e1; cases e1
    · rw [e1]; exact hle g hgx
/-- An ask arrives. -/
theorem Ngb.arr {j : Nat} (h : Ngb R K X) (o : One C R E L K) (hx : XInv C [] L [] X) (hg : GInv R E [] L C [] X) (hj : j < X.ak.length) (hcm : (X.K j).cm = false) : Ngb R K (X.arrX C R E [] j) := by
  have hk := Xd.at_ hj
  obtain ⟨a1, a2, a3, a4, a5⟩ := h.ak j _ hk
  unfold Xd.arrX
  rw [a1, if_neg (by have := o.pa; omega), a2]
  have e : (X.cameX j).giveX C ⟨0, some j, 0⟩ (oriM E K X.no) = X.setA j { X.K j with cm := true, kn := true, go := oriM E K X.no, bk := X.no + deO C (X.K j).ca } := by
    unfold Xd.giveX Xd.cameX
    dsimp only
    rw [Xd.setA_K hj, if_pos rfl]
    unfold Xd.setA
    dsimp only
    rw [List.set_set]
  rw [e]
  obtain ⟨k', hk'⟩ : ∃ k', k' = ({ X.K j with cm := true, kn := true, go := oriM E K X.no, bk := X.no + deO C (X.K j).ca } : Xk) := ⟨_, rfl⟩
  rw [← hk']
  have hpm := waits_same (k' := k') hk (by rw [hk']; rfl)
  have hA : ∀ g, AnsN (X.setA j k') g → AnsN X g := fun g hh => ⟨hh.1, fun w hw => hh.2 w (hpm.symm.subset hw)⟩
  have hlen : (X.setA j k').ak.length = X.ak.length := setA_len
  refine ⟨?_, ?_, fun g g' hgg h1 h2 => h.mo g g' hgg (hA g h1) (hA g' h2), ?_, ?_, fun hu g hh => h.us hu g (hA g hh)⟩
  · intro i k hi
    rw [hlen]
    rcases setA_at hi with ⟨rfl, rfl⟩ | ⟨_, hi⟩
    · rw [hk']; exact ⟨a1, a2, a3, a4, a5⟩
    · exact h.ak i k hi
  · intro w hw g h1 h2
    obtain ⟨v, hv1, hv2⟩ := h.sf w (hpm.subset hw) g h1 h2
    exact ⟨v, hpm.symm.subset hv1, hv2⟩
  · intro i k hi h1 h2
    rcases setA_at hi with ⟨rfl, rfl⟩ | ⟨_, hi⟩
    · have e3 : k.go.bo = X.no := by rw [hk']; exact oriM_bo _ _ _
      rw [e3]
      refine ⟨fun g hh => ?_, fun ho => ?_⟩
      · show (X.G g).bo ≤ X.no
        have hgn := (hA g hh).1
        have hgl : g < X.go.length := by have := hx.le.2.2.2.1; rw [hx.le.2.2.1]; omega
        have hgb := hg.gb g _ (List.getElem?_eq_getElem hgl)
        unfold Xd.G
        rw [List.getD_eq_getElem?_getD, List.getElem?_eq_getElem hgl, Option.getD_some]
        omega
      · have ho : onH (X.H 0) K = true := ho
        show (hmOf (X.H 0) K).an.bo ≤ X.no
        obtain ⟨x, hx1, hx2, hx3⟩ := hmOf_mem (hx.held 0).1 ho
        have hil : 0 < X.he.length := by
          by_cases hc : 0 < X.he.length
          · exact hc
          · unfold Xd.H at hx1
            rw [List.getD_eq_getElem?_getD, List.getElem?_eq_none (by omega)] at hx1
            cases hx1
        have hus := (hg.hh 0 _ (Xd.H_at hil) x hx1).us
        rw [hx3]
        dsimp only
        omega
    · obtain ⟨b1, b2⟩ := h.kn i k hi h1 h2
      exact ⟨fun g hh => b1 g (hA g hh), b2⟩
  · intro hn
    refine h.un fun e2 => hn ?_
    rw [e2] at hpm
    exact hpm.eq_nil
theorem Ngb.next {lim : Int} {m m' : Mod} (h : Ngb R K X) (o : One C R E L K) (hx : XInv C [] L [] X) (hg : GInv R E [] L C [] X) (hc : 0 < C.length) (hn : X.next C R E [] L lim m = some (m', Y)) : Ngb R K Y := by
  unfold Xd.next at hn
  cases m with
  | out =>
    dsimp only at hn
    split at hn
    · cases hn
    · rename_i t ht
      split at hn
      · cases hn
      · cases hn; exact h.now (hx.now_le ht)
  | pur =>
    dsimp only at hn
    split at hn
    · rename_i hd
      exact absurd hd.1 (by simp)
    · cases hn; exact h
  | bak =>
    dsimp only at hn
    split at hn
    · rename_i j hj
      cases hn
      obtain ⟨⟨g1, g2, g3, _⟩, _⟩ := nextB_some hj
      exact h.back o hx hg hc g1 g2 g3
    · cases hn; exact h
  | get =>
    dsimp only at hn
    split at hn
    · rename_i hd
      cases hn
      have hxg : L[X.nx]? = some (L.getD X.nx default) := by rw [List.getD_eq_getElem?_getD, List.getElem?_eq_getElem hd.1]; rfl
      obtain ⟨e1, e2⟩ := o.lk _ (List.mem_of_getElem? hxg)
      rw [e1, e2]
      exact h.come o hx hc hd.1
    · cases hn; exact h
  | arr =>
    dsimp only at hn
    split at hn
    · rename_i j hj
      cases hn
      obtain ⟨⟨g1, g2, _⟩, _⟩ := nextA_some hj
      exact h.arr o hx hg g1 g2
    · cases hn; exact h
theorem ngb_reach {lim : Int} {m m' : Mod} (h : XReach C R E [] L lim m X m' Y) (o : One C R E L K) (hv : Val C R E [] L) (hc : 0 < C.length) (hx : XInv C [] L [] X) (hg : GInv R E [] L C [] X) (hp : ModP [] m X) (hi : Ngb R K X) : Ngb R K Y := by
  induction h with
  | refl => exact hi
  | step h1 hn ih =>
    obtain ⟨x1, x2, _⟩ := h1.ginv hv hx hg hp
    exact (ih hx hg hp hi).next o x1 x2 hc hn
theorem EndX.ngb {lim : Int} (h : EndX C R E [] L lim X) (o : One C R E L K) (hv : Val C R E [] L) (hc : 0 < C.length) : Ngb R K X := by
  refine ngb_reach h.rch o hv hc (xd0_inv hv) (xd0_ginv hv) trivial ⟨fun j k hk => (by cases hk), fun w hw => (by cases hw), fun g g' _ h1 => absurd h1.1 (Nat.not_lt_zero _), fun j k hk => (by cases hk), fun e => absurd rfl e, fun _ g h1 => absurd h1.1 (Nat.not_lt_zero _)⟩
/-- No get is answered with what is older than what an earlier one got. -/
theorem EndX.mono (h : EndX C R E [] L 1152921504606846976 X) (o : One C R E L K) (hv : Val C R E [] L) (hc : 0 < C.length) {i j : Nat} (hij : i ≤ j) (hj : j < L.length) : (X.G i).bo ≤ (X.G j).bo := by
  have hd := h.done hv
  have hA : ∀ g, g < L.length → AnsN X g := fun g hg => ⟨by rw [hd.nx]; exact hg, fun w hw => by rw [hd.wt] at hw; cases hw⟩
  exact (h.ngb o hv hc).mo i j hij (hA i (by omega)) (hA j hj)
end
end Go.Proofs.YtehbmnkbmgnkfaaGreatDoor

/- The reference's day in memory; what one step of each kind changes. -/
import Derived.Test.YtgohddfnhofjhaaGreatDoorC16
import Derived.Test.YtgohddfnhofjhaaGreatDoorC18
import Derived.Test.YtgohddfnhofjhaaGreatDoorC20
import Derived.Test.YtgohddfnhofjhaaGreatDoorC02
namespace Go.Proofs.YtgohddfnhofjhaaGreatDoor
open Go.RowKit
def GoB (X : Xd) : Prop := ∀ g, g ∈ X.go → (0 ≤ g.ti ∧ g.ti ≤ 10000000000000) ∧ (0 ≤ g.bo ∧ g.bo ≤ 10000000000000)
section
variable {C : List Cch} {R : List Crl} {E : List Rel} {P : List Pur} {L : List Gt} {X X' : Xd} {pd : List Xw} {lim : Int}
theorem gob_give {w : Xw} {a : Ans} (h : GoB X) (ha : AnsOk a) (hno : 0 ≤ X.no ∧ X.no ≤ 1000006100000) : GoB (X.giveX C w a) := by
 unfold Xd.giveX
 cases w.ak with
 | some j => exact h
 | none =>
  intro g hg
  rcases List.mem_or_eq_of_mem_set hg with hg | rfl
  ·exact h g hg
  ·exact ⟨⟨hno.1, by show X.no ≤ _; omega⟩, ha.bo⟩
theorem gob_gives {a : Ans} (ha : AnsOk a) : ∀ (ws : List Xw) (X : Xd), GoB X → (0 ≤ X.no ∧ X.no ≤ 1000006100000) → GoB (X.givesX C ws a)
 | [], _, h, _ => h
 | w :: ws, X, h, hno => gob_gives ha ws (X.giveX C w a) (gob_give h ha hno) (by rw [giveX_no]; exact hno)
theorem gob_keep {i : Nat} {key : ByteArray} {a : Ans} (h : GoB X) : GoB (X.keepX C R P i key a) := by
 unfold Xd.keepX
 split
 ·exact h
 ·split <;> exact h
theorem gob_come {i : Nat} {key : ByteArray} {ge : Nat} {ak : Option Nat} (h : GoB X) (hx : XInv C P L pd X) : GoB (X.comeX C R P i key ge ak) := by
 unfold Xd.comeX
 split
 ·exact h
 ·split
  ·rename_i hu
   have hA := (hx.hmOf hu.1).from (C.getD i default).na
   split
   ·exact gob_give (X := ((X.setL i ldCa).setL i ldFr).setH i (useH (X.H i) key X.no)) h hA hx.no
   ·split
    ·exact gob_give (X := ((X.setL i ldCa).setL i ldSl).setH i (useH (X.H i) key X.no)) h hA hx.no
    ·exact gob_give (X := (((X.setL i ldCa).setL i ldSl).setH i (useH (X.H i) key X.no)).startX C i key false []) h hA hx.no
  ·split <;> exact h
theorem gob_next {m m' : Mod} (h : GoB X) (hx : XInv C P L [] X) (hv : Val C R E P L) (hn : X.next C R E P L lim m = some (m', X')) : GoB X' := by
 cases m with
 | out =>
  unfold Xd.next at hn
  dsimp only at hn
  split at hn
  ·cases hn
  ·split at hn
   ·cases hn
   ·cases hn; exact h
 | pur =>
  unfold Xd.next at hn
  dsimp only at hn
  split at hn
  ·cases hn; exact h
  ·cases hn; exact h
 | bak =>
  unfold Xd.next at hn
  dsimp only at hn
  split at hn
  ·rename_i j hb
   cases hn
   obtain ⟨⟨g1, g2, g3, g4⟩, _⟩ := nextB_some hb
   have h2 := gob_gives (C := C) (hx.an j _ (Xd.at_ g1) g2) (X.K j).ws (X.doneX j) h hx.no
   unfold Xd.backX
   split
   ·exact gob_keep h2
   ·exact h2
  ·cases hn; exact h
 | get =>
  unfold Xd.next at hn
  dsimp only at hn
  split at hn
  ·rename_i hd
   cases hn
   have hxg : L[X.nx]? = some (L.getD X.nx default) := by rw [List.getD_eq_getElem?_getD, List.getElem?_eq_getElem hd.1]; rfl
   exact gob_come (X := { X with nx := X.nx + 1 }) h (hx.get hd.1 (fun x hx2 => by rw [← hd.2]; exact hv.ls X.nx (X.nx + 1) _ x (Nat.le_succ _) hxg hx2) 0)
  ·cases hn; exact h
 | arr =>
  unfold Xd.next at hn
  dsimp only at hn
  split at hn
  ·rename_i j hb
   cases hn
   obtain ⟨⟨g1, g2, g3⟩, _⟩ := nextA_some hb
   have hc := hx.came g1 g2 0
   unfold Xd.arrX
   split
   ·exact gob_come (X := X.cameX j) h hc
   ·exact gob_give (X := X.cameX j) h (oriM_ok hv.e _ ⟨hx.no.1, by have := hx.no.2; omega⟩) hx.no
  ·cases hn; exact h
theorem gob_reach {m m' : Mod} (h : XReach C R E P L lim m X m' X') (hv : Val C R E P L) (hx : XInv C P L [] X) (hg : GoB X) : XInv C P L [] X' ∧ GoB X' := by
 induction h with
 | refl => exact ⟨hx, hg⟩
 | step _ hn ih =>
  obtain ⟨i1, i2⟩ := ih hx hg
  exact ⟨i1.next hv hn, gob_next i2 i1 hv hn⟩
theorem EndX.gob (h : EndX C R E P L lim X) (hv : Val C R E P L) : ∀ g, g ∈ X.go → (0 ≤ g.ti ∧ g.ti ≤ 10000000000000) ∧ (0 ≤ g.bo ∧ g.bo ≤ 10000000000000) :=
 (gob_reach h.rch hv (xd0_inv hv) fun g hg => by
   have hg' : g ∈ List.replicate L.length (default : Gtn) := hg
   rw [List.eq_of_mem_replicate hg']
   exact ⟨⟨Int.le_refl _, by decide⟩, ⟨Int.le_refl _, by decide⟩⟩).2
end
def encD (x : Ldd) : List Value := [.int .i64 x.ca, .int .i64 x.fr, .int .i64 x.sl, .int .i64 x.wt, .int .i64 x.ak, .int .i64 x.bs]
theorem encD_len (x : Ldd) : (encD x).length = 6 := rfl
theorem infoLd : (Tryz.prog.info? 50).map (fun i => (i.zero, i.size, i.bytes)) = some (some (.agg #[.int .i64 0, .int .i64 0, .int .i64 0, .int .i64 0, .int .i64 0, .int .i64 0]), 6, 48) := by kernel_rfl
theorem slLd : SlT Tryz.prog 43 50 6 48 := by
 obtain ⟨i0, hi, hz0, hz1, hz2⟩ := info_parts infoLd
 exact ⟨i0, _, Tryz.underlying43, hi, hz0, hz1, hz2, rfl, by decide, by decide⟩
structure WfS (C : List Cch) (R : List Crl) (E : List Rel) (P : List Pur) (L : List Gt) : Prop where
 c : ∀ x, x ∈ C → WfC x
 r : ∀ x, x ∈ R → WfU x
 e : ∀ x, x ∈ E → WfL x
 p : ∀ x, x ∈ P → WfG x
 l : ∀ x, x ∈ L → WfT x
structure BoxS (w w2 : World) (C : List Cch) (R : List Crl) (E : List Rel) (P : List Pur) (L : List Gt) (vc vr ve vp vl : Value) : Prop where
 al : w2 = w.alloc (.cells #[vc, vr, ve, vp] 27)
 bel : Below w.heap.size w w2
 q : ∀ W, Below w2.heap.size w2 W → W.cell? ⟨w.heap.size, 0, none⟩ = some vc ∧ W.cell? ⟨w.heap.size, 1, none⟩ = some vr ∧ W.cell? ⟨w.heap.size, 2, none⟩ = some ve ∧ W.cell? ⟨w.heap.size, 3, none⟩ = some vp
 flt : ∀ W, Below w2.heap.size w2 W → Calls Tryz.prog 30 #[.agg #[vc, vr, ve, vp], vl] W fun e w' => e = .returned (.int .i64 (checkS C R E P L)) ∧ Below W.heap.size W w'
 ply : checkS C R E P L = 0 → ∀ W, Below w2.heap.size w2 W → Calls Tryz.prog 31 #[.agg #[vc, vr, ve, vp], vl] W fun e w' => ∃ B A D X, e = .returned (.pointer (some ⟨A.q, 0, none⟩)) ∧ PD w' B A D ∧ W.heap.size ≤ B ∧ EndX C R E P L 1152921504606846976 X ∧ Sim C [] D X ∧ Below W.heap.size W w'
theorem boxS (w : World) {C : List Cch} {R : List Crl} {E : List Rel} {P : List Pur} {L : List Gt} {vc vr ve vp vl : Value} (h : InS w C R E P L vc vr ve vp vl) (hw : WfS C R E P L) : ∃ w2, BoxS w w2 C R E P L vc vr ve vp vl := by
 obtain ⟨w2, hw2⟩ : ∃ w2, w2 = w.alloc (.cells #[vc, vr, ve, vp] 27) := ⟨_, rfl⟩
 have hb2 : Below w.heap.size w w2 := by rw [hw2]; exact (Below.refl _ w).alloc (Nat.le_refl _) _
 have hnb : w2.heap[w.heap.size]? = some (.cells #[vc, vr, ve, vp] 27 (0, 0)) := by rw [hw2]; exact block_new w _
 have hlt : w.heap.size < w2.heap.size := (Array.getElem?_eq_some_iff.1 hnb).1
 refine ⟨w2, hw2, hb2, fun W hW => ?_, fun W hW => ?_, fun h0 W hW => ?_⟩
 ·have h1 := (hW.block _ hlt).trans hnb
  exact ⟨cellF h1 0 rfl, cellF h1 1 rfl, cellF h1 2 rfl, cellF h1 3 rfl⟩
 ·have h' := h.below (hb2.trans (hW.mono (Nat.le_of_lt hlt)))
  exact getsFault_any W C R E P L vc vr ve vp vl h'.c h'.r h'.e h'.p h'.l hw.c hw.r hw.e hw.p hw.l
 ·exact played_any W C R E P L vc vr ve vp vl (h.below (hb2.trans (hW.mono (Nat.le_of_lt hlt)))) (val_of h0)
set_option maxRecDepth 100000 in
set_option maxHeartbeats 4000000 in
theorem Serve_any (w : World) (C : List Cch) (R : List Crl) (E : List Rel) (P : List Pur) (L : List Gt) (vc vr ve vp vl : Value) (h : InS w C R E P L vc vr ve vp vl) (hw : WfS C R E P L) :
 Calls Tryz.prog 10 #[.agg #[vc, vr, ve, vp], vl] w fun e w' => (∃ v, e = .returned (.tuple #[v, .int .i64 (checkS C R E P L)]) ∧ ∃ l, Sl w' 5 encN v l ∧ (checkS C R E P L ≠ 0 → l = []) ∧ (checkS C R E P L = 0 → ∃ X, EndX C R E P L 1152921504606846976 X ∧ l = X.go)) ∧ Below w.heap.size w w' := by
 obtain ⟨w2, hbx⟩ := boxS w h hw
 have HW2 := Lib.hid hbx.al
 have HB2 := Lib.hid hbx.bel
 have HF := Lib.hid (hbx.flt w2 (Below.refl _ _))
 have HPL := Lib.hid hbx.ply
 have HQ := Lib.hid hbx.q
 obtain ⟨q0, q1, q2, q3⟩ := hbx.q w2 (Below.refl _ _)
 have HV := Lib.hid (val_of (C := C) (R := R) (E := E) (P := P) (L := L))
 clear hbx h hw
 generalize checkS C R E P L = S at HF HPL HV ⊢
 go_enter Tryz.func10, Tryz.ntmps10
 go_upto_region 1 with (fail)
 rw [← HW2.out]
 go_wp2_with (go_at_call 30; (with_reducible refine HF.out.mono ?_); rintro e w3 ⟨rfl, hb3⟩; have HB3 := Lib.hid hb3; obtain ⟨r0, r1, r2, r3⟩ := HQ.out w3 hb3; clear hb3 q0 q1 q2 q3; by_cases hS : S = 0)
 ·subst hS
  have HPW := Lib.hid (HPL.out rfl w3 HB3.out)
  go_wp2_with (go_at_call 31; (with_reducible refine HPW.out.mono ?_); rintro e w4 ⟨B, A, D, X, rfl, hp, hBl, hE, hS, hb4⟩; have hc : w4.cell? ⟨A.q, 7, none⟩ = some A.gv := cellF hp.qb.2 7 rfl; have HO := Lib.hid (hp.gots.sl encN_len); have HE := Lib.hid (And.intro hE hS); have HB4 := Lib.hid (HB2.out.thru (HB3.out.thru hb4)); clear hb4 hE hS hp hBl r0 r1 r2 r3)
  go_wp2_with fail
  go_ret2
  exact ⟨⟨A.gv, by rfl, D.go, HO.out, X, HE.out.1, HE.out.2.go_eq (HE.out.1.done (HV.out (by trivial)))⟩, HB4.out⟩
 ·go_wp2_with fail
  go_ret2
  exact ⟨⟨_, by rfl, [], Sl.nil, fun _ => rfl, fun h => absurd h hS⟩, HB2.out.thru HB3.out⟩
set_option maxRecDepth 100000 in
set_option maxHeartbeats 4000000 in
theorem Loads_any (w : World) (C : List Cch) (R : List Crl) (E : List Rel) (P : List Pur) (L : List Gt) (vc vr ve vp vl : Value) (h : InS w C R E P L vc vr ve vp vl) (hw : WfS C R E P L) :
 Calls Tryz.prog 17 #[.agg #[vc, vr, ve, vp], vl] w fun e w' => (∃ v, e = .returned (.tuple #[v, .int .i64 (checkS C R E P L)]) ∧ ∃ l, Sl w' 6 encD v l ∧ (checkS C R E P L ≠ 0 → l = []) ∧ (checkS C R E P L = 0 → ∃ X, EndX C R E P L 1152921504606846976 X ∧ l = X.ld)) ∧ Below w.heap.size w w' := by
 obtain ⟨w2, hbx⟩ := boxS w h hw
 have HW2 := Lib.hid hbx.al
 have HB2 := Lib.hid hbx.bel
 have HF := Lib.hid (hbx.flt w2 (Below.refl _ _))
 have HPL := Lib.hid hbx.ply
 have HQ := Lib.hid hbx.q
 obtain ⟨q0, q1, q2, q3⟩ := hbx.q w2 (Below.refl _ _)
 have HV := Lib.hid (val_of (C := C) (R := R) (E := E) (P := P) (L := L))
 clear hbx h hw
 generalize checkS C R E P L = S at HF HPL HV ⊢
 go_enter Tryz.func17, Tryz.ntmps17
 go_upto_region 1 with (fail)
 rw [← HW2.out]
 go_wp2_with (go_at_call 30; (with_reducible refine HF.out.mono ?_); rintro e w3 ⟨rfl, hb3⟩; have HB3 := Lib.hid hb3; obtain ⟨r0, r1, r2, r3⟩ := HQ.out w3 hb3; clear hb3 q0 q1 q2 q3; by_cases hS : S = 0)
 ·subst hS
  have HPW := Lib.hid (HPL.out rfl w3 HB3.out)
  go_wp2_with (go_at_call 31; (with_reducible refine HPW.out.mono ?_); rintro e w4 ⟨B, A, D, X, rfl, hp, hBl, hE, hS, hb4⟩; have hc : w4.cell? ⟨A.q, 4, none⟩ = some A.sv := cellF hp.qb.2 4 rfl; have HP := Lib.hid hp; have HE := Lib.hid (And.intro hE hS); have HB4 := Lib.hid (HB2.out.thru (HB3.out.thru hb4)); obtain ⟨so, sc, hsv, -, -, -, hel⟩ := hp.stores.sl (encP_len _); clear hb4 hE hS hp hBl r0 r1 r2 r3; rw [List.length_range] at hsv; rw [hsv] at hc; have HEL := Lib.hid hel; clear hel hsv)
  have HN : Hid (D.st.length ≤ 30) := Lib.hid (by rw [HE.out.2.len]; exact (HV.out (by trivial)).c)
  go_wp2_with fail
  go_loopg [7, 9, 23] D.st.length (fun gg s7 s9 s23 wr => ∃ (kk : Nat) (v7 : Value), kk ≤ D.st.length ∧ D.st.length - kk ≤ gg ∧ s23 = .int .i64 kk ∧ s7 = v7 ∧ Aside (Below w4.heap.size w4 wr) ∧ Aside (Own wr w4.heap.size 50 6 encD v7 ((D.st.take kk).map Sto.ld)))
  case atStart => exact ⟨0, _, Nat.zero_le _, by omega, rfl, rfl, Below.refl _ _, Own.nil⟩
  case round =>
   obtain ⟨kk, v7, hkk, hg, rfl, rfl, BW, OW⟩ := hrel
   obtain ⟨ya, yL, yc, rfl⟩ := Own.slv encD_len OW.out
   by_cases hlt : kk < D.st.length
   ·have hltz : (kk : Int) < (D.st.length : Int) := by omega
    have hs := Day.at_ hlt
    obtain ⟨s, hse⟩ : ∃ s, s = D.S kk := ⟨_, rfl⟩
    rw [← hse] at hs
    obtain ⟨b, off, rfl, hc2⟩ := HEL.out kk kk (by simp [hlt])
    have hl4 := World.block_lt_of_cell? w4 _ (hc2 0 _ rfl)
    have c0 : wr.cell? ⟨b, off + kk, none⟩ = some (.pointer (some ⟨A.sb kk, 0, none⟩)) := by have h := (BW.out.cell (p := ⟨b, off + kk * 1 + 0, none⟩) hl4).trans (hc2 0 _ rfl); simpa using h
    have hsb := (HP.out.sb hs).2
    have hsl : A.sb kk < w4.heap.size := (Array.getElem?_eq_some_iff.1 hsb).1
    have hsb' := (BW.out.block _ hsl).trans hsb
    have d7 := cellF hsb' 7 rfl
    have d8 := cellF hsb' 8 rfl
    have d9 := cellF hsb' 9 rfl
    have d10 := cellF hsb' 10 rfl
    have d11 := cellF hsb' 11 rfl
    have d12 := cellF hsb' 12 rfl
    have hsz := BW.out.size
    have HNX : Hid ((D.st.take kk).map Sto.ld ++ [s.ld] = (D.st.take (kk + 1)).map Sto.ld) := Lib.hid (by rw [List.take_add_one, hs, List.map_append]; rfl)
    have hkn : D.st.length ≤ 30 := HN.out
    have hln : (((D.st.take kk).map Sto.ld).length + 1) * 48 ≤ 140737488355328 := by have := HN.out; simp; omega
    clear hc2 hsb hsb' hs hsl hse
    go_wp2_with (at_builtin; refine wpList_push rfl _ _ 43 rfl slLd rfl rfl (enc := encD) s.ld rfl rfl rfl OW.out rfl hln hsz ?_; intro v8 w8 ho8 hb8; rw [HNX.out] at ho8; have HO8 := Lib.hid ho8; have HB8 := Lib.hid (BW.out.trans hb8); clear ho8 hb8 c0 d7 d8 d9 d10 d11 d12)
    go_roundg (D.st.length - (kk + 1))
    case measure => omega
    case rel => have hn := HN.out; exact ⟨kk + 1, _, by omega, by omega, by go_num, rfl, HB8.out, HO8.out⟩
   ·obtain rfl : kk = D.st.length := by omega
    have hltz : ¬ (D.st.length : Int) < (D.st.length : Int) := by omega
    have HOL : Hid (Sl wr 6 encD (.slice ya yL yc) (D.st.map Sto.ld)) := Lib.hid (by have h := OW.out.sl encD_len; rw [List.take_length] at h; exact h)
    go_wp2_with fail
    go_ret2
    exact ⟨⟨_, by rfl, _, HOL.out, X, HE.out.1, HE.out.2.lds HE.out.1.inv⟩, HB4.out.trans (BW.out.mono HB4.out.size)⟩
 ·go_wp2_with fail
  go_ret2
  exact ⟨⟨_, by rfl, [], Sl.nil, fun _ => rfl, fun h => absurd h hS⟩, HB2.out.thru HB3.out⟩
def oldM : List Gtn → Int
 | [] => 0
 | g :: l => max (oldM l) (g.ti - g.bo)
def oldB (C : List Cch) (R : List Crl) (E : List Rel) (P : List Pur) (L : List Gt) : Bool := decide (checkS C R E P L = 0 ∧ 0 < L.length)
theorem oldM_app (l : List Gtn) (g : Gtn) : oldM (l ++ [g]) = max (oldM l) (g.ti - g.bo) := by
 induction l with
 | nil => rfl
 | cons a l ih => show max (oldM (l ++ [g])) _ = max (max (oldM l) _) _; rw [ih]; omega
set_option maxRecDepth 100000 in
set_option maxHeartbeats 4000000 in
theorem Oldest_any (w : World) (C : List Cch) (R : List Crl) (E : List Rel) (P : List Pur) (L : List Gt) (vc vr ve vp vl : Value) (h : InS w C R E P L vc vr ve vp vl) (hw : WfS C R E P L) :
 Calls Tryz.prog 23 #[.agg #[vc, vr, ve, vp], vl] w fun e w' => (∃ n, e = .returned (.tuple #[.int .i64 n, .bool (oldB C R E P L), .int .i64 (checkS C R E P L)]) ∧ (checkS C R E P L ≠ 0 → n = 0) ∧ (checkS C R E P L = 0 → ∃ X, EndX C R E P L 1152921504606846976 X ∧ n = oldM X.go)) ∧ Below w.heap.size w w' := by
 obtain ⟨w2, hbx⟩ := boxS w h hw
 have HW2 := Lib.hid hbx.al
 have HB2 := Lib.hid hbx.bel
 have HF := Lib.hid (hbx.flt w2 (Below.refl _ _))
 have HPL := Lib.hid hbx.ply
 have HQ := Lib.hid hbx.q
 obtain ⟨q0, q1, q2, q3⟩ := hbx.q w2 (Below.refl _ _)
 have HV := Lib.hid (val_of (C := C) (R := R) (E := E) (P := P) (L := L))
 obtain ⟨lo, lc, rfl, hlc, hlm, -, -⟩ := h.l
 clear hbx h hw
 have HOB : Hid (oldB C R E P L = decide (checkS C R E P L = 0 ∧ 0 < L.length)) := Lib.hid rfl
 generalize oldB C R E P L = ob at HOB ⊢
 generalize checkS C R E P L = S at HF HPL HV HOB ⊢
 go_enter Tryz.func23, Tryz.ntmps23
 go_upto_region 1 with (fail)
 rw [← HW2.out]
 go_wp2_with (go_at_call 30; (with_reducible refine HF.out.mono ?_); rintro e w3 ⟨rfl, hb3⟩; have HB3 := Lib.hid hb3; obtain ⟨r0, r1, r2, r3⟩ := HQ.out w3 hb3; clear hb3 q0 q1 q2 q3; by_cases hS : S = 0)
 ·subst hS
  have HPW := Lib.hid (HPL.out rfl w3 HB3.out)
  go_wp2_with (go_at_call 31; (with_reducible refine HPW.out.mono ?_); rintro e w4 ⟨B, A, D, X, rfl, hp, hBl, hE, hS, hb4⟩; have hc : w4.cell? ⟨A.q, 7, none⟩ = some A.gv := cellF hp.qb.2 7 rfl; have HE := Lib.hid (And.intro hE hS); have HB4 := Lib.hid (HB2.out.thru (HB3.out.thru hb4)); obtain ⟨so, sc, hsv, -, -, -, hel⟩ := hp.gots.sl encN_len; clear hb4 hE hS hp hBl r0 r1 r2 r3; rw [hsv] at hc; have HEL := Lib.hid hel; clear hel hsv)
  have HG : Hid (D.go = X.go) := Lib.hid (HE.out.2.go_eq (HE.out.1.done (HV.out (by trivial))))
  have hvl : D.go.length ≤ 1000 ∧ L.length ≤ 1000 := by rw [HG.out, HE.out.1.inv.le.2.2.1]; exact ⟨(HV.out (by trivial)).l, (HV.out (by trivial)).l⟩
  obtain ⟨hn, hlk⟩ := hvl
  have HX : Hid (∀ g, g ∈ D.go → (0 ≤ g.ti ∧ g.ti ≤ 10000000000000) ∧ (0 ≤ g.bo ∧ g.bo ≤ 10000000000000)) := Lib.hid (by rw [HG.out]; exact HE.out.1.gob (HV.out (by trivial)))
  go_wp2_with fail
  go_loopg [8, 10, 24] D.go.length (fun gg s8 s10 s24 wr => ∃ (kk : Nat), kk ≤ D.go.length ∧ D.go.length - kk ≤ gg ∧ s24 = .int .i64 kk ∧ s8 = .int .i64 (oldM (D.go.take kk)) ∧ Aside (Below w4.heap.size w4 wr))
  case atStart => exact ⟨0, Nat.zero_le _, by omega, rfl, rfl, Below.refl _ _⟩
  case round =>
   obtain ⟨kk, hkk, hg, rfl, rfl, BW⟩ := hrel
   by_cases hlt : kk < D.go.length
   ·have hltz : (kk : Int) < (D.go.length : Int) := by omega
    obtain ⟨g, hgk⟩ : ∃ g, D.go[kk]? = some g := ⟨_, List.getElem?_eq_getElem hlt⟩
    obtain ⟨b, off, rfl, hc2⟩ := HEL.out kk g hgk
    have hl4 := World.block_lt_of_cell? w4 _ (hc2 0 _ rfl)
    have c0 : wr.cell? ⟨b, off + kk * 5, none⟩ = some (.int .i64 g.ti) := by have h := (BW.out.cell (p := ⟨b, off + kk * 5 + 0, none⟩) hl4).trans (hc2 0 _ rfl); simpa using h
    have c1 : wr.cell? ⟨b, off + kk * 5 + 1, none⟩ = some (.int .i64 g.ve) := (BW.out.cell (p := ⟨b, off + kk * 5 + 1, none⟩) hl4).trans (hc2 1 _ rfl)
    have c2 : wr.cell? ⟨b, off + kk * 5 + 2, none⟩ = some (.int .i64 g.bo) := (BW.out.cell (p := ⟨b, off + kk * 5 + 2, none⟩) hl4).trans (hc2 2 _ rfl)
    have c3 : wr.cell? ⟨b, off + kk * 5 + 3, none⟩ = some (.string g.fr) := (BW.out.cell (p := ⟨b, off + kk * 5 + 3, none⟩) hl4).trans (hc2 3 _ rfl)
    have c4 : wr.cell? ⟨b, off + kk * 5 + 4, none⟩ = some (.int .i64 g.ho) := (BW.out.cell (p := ⟨b, off + kk * 5 + 4, none⟩) hl4).trans (hc2 4 _ rfl)
    obtain ⟨⟨b1, b2⟩, b3, b4⟩ := HX.out g (List.mem_of_getElem? hgk)
    have HNX : Hid (max (oldM (D.go.take kk)) (g.ti - g.bo) = oldM (D.go.take (kk + 1))) := Lib.hid (by rw [List.take_add_one, hgk]; exact (oldM_app _ _).symm)
    have hsz := BW.out.size
    generalize oldM (D.go.take kk) = m at HNX ⊢
    have HB := Lib.hid (BW.out.alloc hsz (.cells #[.int .i64 g.ti, .int .i64 g.ve, .int .i64 g.bo, .string g.fr, .int .i64 g.ho] 35))
    clear hc2 hgk
    go_wp2_with fail
    go_roundg (D.go.length - (kk + 1))
    case measure => omega
    case rel => exact ⟨kk + 1, by omega, by omega, by go_num, by rw [← HNX.out], HB.out⟩
   ·obtain rfl : kk = D.go.length := by omega
    have hltz : ¬ (D.go.length : Int) < (D.go.length : Int) := by omega
    have HB1 : Hid (ob = decide (0 < L.length)) := Lib.hid (by rw [HOB.out]; simp)
    have HOL : Hid (oldM D.go = oldM X.go) := Lib.hid (by rw [HG.out])
    go_wp2_with fail
    go_ret3
    exact ⟨⟨_, by rw [HB1.out]; rfl, X, HE.out.1, HOL.out⟩, HB4.out.trans (BW.out.mono HB4.out.size)⟩
 ·have HB1 : Hid (ob = false) := Lib.hid (by rw [HOB.out]; simp [hS])
  go_wp2_with fail
  go_ret3
  exact ⟨⟨_, by rw [HB1.out]; rfl, fun _ => rfl, fun h => absurd h hS⟩, HB2.out.thru HB3.out⟩
theorem Own.rebase {α : Type} {w : World} {base b2 : Nat} {E : TypeId} {k : Nat} {enc : α → List Value} {v : Value} {l : List α} (h : Own w base E k enc v l) (hb : b2 ≤ base) : Own w b2 E k enc v l := by
 obtain ⟨q1, q2⟩ := h
 refine ⟨q1, ?_⟩
 rcases q2 with q2 | ⟨g, cap, cur, e1, e2, r⟩
 ·exact Or.inl q2
 ·exact Or.inr ⟨g, cap, cur, e1, Nat.le_trans hb e2, r⟩
theorem Own.slw {α : Type} {w : World} {base : Nat} {E : TypeId} {k : Nat} {enc : α → List Value} {v : Value} {l : List α} (h : Own w base E k enc v l) : (v = .slice none 0 0 ∧ l = []) ∨ ∃ g cap, v = .slice (some ⟨g, 0, none⟩) l.length cap := by
 obtain ⟨q1, q2⟩ := h
 rcases q2 with ⟨q2, q3⟩ | ⟨g, cap, cur, e1, r⟩
 ·exact Or.inl ⟨q2, List.length_eq_zero_iff.1 q3⟩
 ·exact Or.inr ⟨g, cap, e1⟩
theorem own_parts {α : Type} {w : World} {base : Nat} {E : TypeId} {k : Nat} {enc : α → List Value} {v : Value} {l : List α} (hk : ∀ x, (enc x).length = k) (h : Own w base E k enc v l) :
 ∃ ao cap P, v = .slice ao l.length cap ∧ l.length ≤ cap ∧ cap ≤ maxLen ∧ base ≤ P ∧ ∀ i x, l[i]? = some x → ao = some ⟨P, 0, none⟩ ∧ P < w.heap.size ∧ ∀ j u, (enc x)[j]? = some u → w.cell? ⟨P, i * k + j, none⟩ = some u := by
 by_cases hne : l = []
 ·subst hne
  rcases Own.slw h with ⟨rfl, _⟩ | ⟨g, cap, rfl⟩
  ·exact ⟨none, 0, base, rfl, by simp, by simp [maxLen], Nat.le_refl _, fun i x hx => by simp at hx⟩
  ·obtain ⟨h1, h2⟩ := h
   rcases h2 with ⟨h2, _⟩ | ⟨g', cap', cur, hv, hg, hh, hn, hm, _⟩
   ·cases h2
   ·simp only [Value.slice.injEq, Option.some.injEq, Addr.mk.injEq, and_true, true_and] at hv
    obtain ⟨rfl, rfl⟩ := hv
    exact ⟨_, cap, g, rfl, hn, hm, hg, fun i x hx => by simp at hx⟩
 ·obtain ⟨g, cap, rfl, h1, h2, h3, h4, h5, _⟩ := Own.getk hk h hne
  exact ⟨_, cap, g, rfl, h3, h4, h1, fun i x hx => ⟨rfl, h2, fun j u hu => h5 i x j u hx hu⟩⟩
def encK (p : Xk × Value) : List Value := [.int .i64 (p.1.ca : Nat), .string p.1.ke, .int .i64 p.1.ma, .int .i64 p.1.ar, .bool p.1.cm, .bool p.1.kn, .int .i64 p.1.bk, .int .i64 p.1.go.ve, .int .i64 p.1.go.bo, .int .i64 p.1.go.si, .string p.1.go.fr, .bool p.1.dn, .bool p.1.al, p.2]
theorem encK_len (x : Xk × Value) : (encK x).length = 14 := rfl
def encV (v : Value) : List Value := [v]
theorem encV_len (v : Value) : (encV v).length = 1 := rfl
def encH (h : Xh) : List Value := [.string h.ke, .int .i64 h.an.ve, .int .i64 h.an.bo, .int .i64 h.an.si, .string h.an.fr, .int .i64 h.us]
theorem encH_len (h : Xh) : (encH h).length = 6 := rfl
def wgI (w : Xw) : Int := match w.ak with
 | none => (w.ge : Nat)
 | some _ => -1
def waI (w : Xw) : Int := match w.ak with
 | none => -1
 | some j => (j : Nat)
def encX (w : Xw) : List Value := [.int .i64 (wgI w), .int .i64 w.ho, .int .i64 (waI w)]
theorem encX_len (w : Xw) : (encX w).length = 3 := rfl
structure Rdr where
 q : Nat
 d0 : Value
 d1 : Value
 d2 : Value
 d3 : Value
 gt : Value
 kv : Value
 hh : Value
 gv : Value
 lv : Value
 ks : List (Xk × Value)
 hs : List Value
 x : List (Nat × Obj)
def cellsR (A : Rdr) (X : Xd) : Array Value := #[A.d0, A.d1, A.d2, A.d3, A.gt, .int .i64 (X.nx : Nat), .int .i64 (X.pg : Nat), A.kv, A.hh, A.gv, A.lv, .int .i64 X.no]
structure RelX (A : Rdr) (X : Xd) (M : Mem) : Prop where
 wl : M 0 = some (A.q, .cells (cellsR A X) 88 (0, 0))
 ak : OwnM (M 1) 171 14 encK A.kv A.ks
 hs : OwnM (M 2) 103 1 encV A.hh A.hs
 go : OwnM (M 3) 35 5 encN A.gv X.go
 ld : OwnM (M 4) 50 6 encD A.lv X.ld
 he : ∀ (i : Nat) (v : Value), A.hs[i]? = some v → OwnM (M (5 + 3 * i)) 107 6 encH v (X.H i)
 wa : ∀ (j : Nat) (p : Xk × Value), A.ks[j]? = some p → OwnM (M (6 + 3 * j)) 177 3 encX p.2 p.1.ws
 fx : ∀ (k b : Nat) (o : Obj), A.x[k]? = some (b, o) → M (7 + 3 * k) = some (b, o)
 ka : X.ak = A.ks.map Prod.fst
 hl : A.hs.length = X.he.length
def RD (W : World) (B : Nat) (A : Rdr) (X : Xd) : Prop := ∃ M, Mm W B M ∧ RelX A X M
section
variable {W W' : World} {B : Nat} {A : Rdr} {X : Xd}
theorem RD.below (h : RD W B A X) (hb : Below W.heap.size W W') : RD W' B A X := by
 obtain ⟨M, h1, h2⟩ := h
 exact ⟨M, h1.below hb, h2⟩
theorem RD.heapEq (h : RD W B A X) (he : W'.heap = W.heap) : RD W' B A X := by
 obtain ⟨M, h1, h2⟩ := h
 exact ⟨M, h1.keep (by rw [he]; exact Nat.le_refl _) (fun _ b _ _ => by rw [he]), h2⟩
theorem RD.base (h : RD W B A X) : B ≤ W.heap.size := by
 obtain ⟨M, h1, h2⟩ := h
 exact h1.base
theorem RD.qb (h : RD W B A X) : B ≤ A.q ∧ W.heap[A.q]? = some (.cells (cellsR A X) 88 (0, 0)) := by
 obtain ⟨M, h1, h2⟩ := h
 exact h1.at_ _ _ _ h2.wl
theorem RD.asks (h : RD W B A X) : Own W B 171 14 encK A.kv A.ks := by
 obtain ⟨M, h1, h2⟩ := h
 exact OwnM.own h1 h2.ak encK_len
theorem RD.rows (h : RD W B A X) : Own W B 103 1 encV A.hh A.hs := by
 obtain ⟨M, h1, h2⟩ := h
 exact OwnM.own h1 h2.hs encV_len
theorem RD.gots (h : RD W B A X) : Own W B 35 5 encN A.gv X.go := by
 obtain ⟨M, h1, h2⟩ := h
 exact OwnM.own h1 h2.go encN_len
theorem RD.lds (h : RD W B A X) : Own W B 50 6 encD A.lv X.ld := by
 obtain ⟨M, h1, h2⟩ := h
 exact OwnM.own h1 h2.ld encD_len
theorem RD.held (h : RD W B A X) {i : Nat} {v : Value} (hv : A.hs[i]? = some v) : Own W B 107 6 encH v (X.H i) := by
 obtain ⟨M, h1, h2⟩ := h
 exact OwnM.own h1 (h2.he i v hv) encH_len
theorem RD.wait (h : RD W B A X) {j : Nat} {p : Xk × Value} (hp : A.ks[j]? = some p) : Own W B 177 3 encX p.2 p.1.ws := by
 obtain ⟨M, h1, h2⟩ := h
 exact OwnM.own h1 (h2.wa j p hp) encX_len
theorem RD.fr (h : RD W B A X) {k b : Nat} {o : Obj} (hx : A.x[k]? = some (b, o)) : W.heap[b]? = some o := by
 obtain ⟨M, h1, h2⟩ := h
 exact (h1.at_ _ _ _ (h2.fx k b o hx)).2
theorem RD.ka (h : RD W B A X) : X.ak = A.ks.map Prod.fst := by
 obtain ⟨M, h1, h2⟩ := h
 exact h2.ka
theorem RD.akl (h : RD W B A X) : A.ks.length = X.ak.length := by rw [h.ka, List.length_map]
theorem RD.hl (h : RD W B A X) : A.hs.length = X.he.length := by
 obtain ⟨M, h1, h2⟩ := h
 exact h2.hl
theorem RD.K (h : RD W B A X) {j : Nat} {p : Xk × Value} (hp : A.ks[j]? = some p) : X.ak[j]? = some p.1 := by
 rw [h.ka, List.getElem?_map, hp]; rfl
theorem RD.at_ (h : RD W B A X) {j : Nat} (hj : j < X.ak.length) : ∃ v, A.ks[j]? = some (X.K j, v) := by
 have hl : j < A.ks.length := by rw [h.akl]; exact hj
 refine ⟨A.ks[j].2, ?_⟩
 have e := h.K (List.getElem?_eq_getElem hl)
 rw [Xd.K_eq e]
 exact List.getElem?_eq_getElem hl
theorem RD.offQ (h : RD W B A X) : offB A.q A.kv ∧ offB A.q A.hh ∧ offB A.q A.gv ∧ offB A.q A.lv := by
 obtain ⟨M, h1, h2⟩ := h
 exact ⟨OwnM.off h1 h2.ak h2.wl (by decide), OwnM.off h1 h2.hs h2.wl (by decide), OwnM.off h1 h2.go h2.wl (by decide), OwnM.off h1 h2.ld h2.wl (by decide)⟩
theorem RD.offX (h : RD W B A X) {k b : Nat} {o : Obj} (hx : A.x[k]? = some (b, o)) : offB b A.kv ∧ offB b A.hh ∧ offB b A.gv ∧ offB b A.lv ∧ b ≠ A.q := by
 obtain ⟨M, h1, h2⟩ := h
 have hf := h2.fx k b o hx
 refine ⟨OwnM.off h1 h2.ak hf (by omega), OwnM.off h1 h2.hs hf (by omega), OwnM.off h1 h2.go hf (by omega), OwnM.off h1 h2.ld hf (by omega), fun e => ?_⟩
 subst e
 have := h1.inj _ _ _ _ _ hf h2.wl
 omega
theorem RD.offHQ (h : RD W B A X) {i : Nat} {v : Value} (hv : A.hs[i]? = some v) : offB A.q v := by
 obtain ⟨M, h1, h2⟩ := h
 exact OwnM.off h1 (h2.he i v hv) h2.wl (by omega)
theorem RD.addFr (h : RD W B A X) (o : Obj) : RD (W.alloc o) B { A with x := A.x ++ [(W.heap.size, o)] } X := by
 obtain ⟨M, h1, h2⟩ := h
 refine ⟨_, h1.new (7 + 3 * A.x.length) o, ?_⟩
 exact {
  wl := by rw [upM_other _ _ (by omega)]; exact h2.wl
  ak := by rw [upM_other _ _ (by omega)]; exact h2.ak
  hs := by rw [upM_other _ _ (by omega)]; exact h2.hs
  go := by rw [upM_other _ _ (by omega)]; exact h2.go
  ld := by rw [upM_other _ _ (by omega)]; exact h2.ld
  he := fun i v hv => by rw [upM_other _ _ (by omega)]; exact h2.he i v hv
  wa := fun j p hp => by rw [upM_other _ _ (by omega)]; exact h2.wa j p hp
  fx := fun k b p hx => by
   by_cases e : k = A.x.length
   ·subst e
    have hx' : (A.x ++ [(W.heap.size, o)])[A.x.length]? = some (b, p) := hx
    rw [List.getElem?_append_right (Nat.le_refl _)] at hx'
    simp at hx'
    rw [upM_same, hx'.1, hx'.2]
   ·have hx' : (A.x ++ [(W.heap.size, o)])[k]? = some (b, p) := hx
    have hk := (List.getElem?_eq_some_iff.1 hx').1
    simp at hk
    rw [List.getElem?_append_left (by omega)] at hx'
    rw [upM_other _ _ (by omega)]
    exact h2.fx k b p hx'
  ka := h2.ka
  hl := h2.hl }
theorem RD.dropFr (h : RD W B A X) {x : List (Nat × Obj)} (hx : ∃ y, A.x = x ++ y) : RD W B { A with x := x } X := by
 obtain ⟨M, h1, h2⟩ := h
 obtain ⟨y, hy⟩ := hx
 exact ⟨M, h1, { h2 with fx := fun k b o hk => h2.fx k b o (by
  have hk' : x[k]? = some (b, o) := hk
  rw [hy, List.getElem?_append_left (List.getElem?_eq_some_iff.1 hk').1]
  exact hk') }⟩
theorem RD.setFr (h : RD W B A X) {k b : Nat} {cs : Array Value} {T : TypeId} (hx : A.x[k]? = some (b, .cells cs T (0, 0))) (i : Nat) (v : Value) : RD (W.setCell ⟨b, i, none⟩ v) B { A with x := A.x.set k (b, .cells (cs.setIfInBounds i v) T (0, 0)) } X := by
 obtain ⟨M, h1, h2⟩ := h
 refine ⟨_, h1.set (h2.fx k b _ hx) i v, ?_⟩
 exact {
  wl := by rw [upM_other _ _ (by omega)]; exact h2.wl
  ak := by rw [upM_other _ _ (by omega)]; exact h2.ak
  hs := by rw [upM_other _ _ (by omega)]; exact h2.hs
  go := by rw [upM_other _ _ (by omega)]; exact h2.go
  ld := by rw [upM_other _ _ (by omega)]; exact h2.ld
  he := fun i v hv => by rw [upM_other _ _ (by omega)]; exact h2.he i v hv
  wa := fun j p hp => by rw [upM_other _ _ (by omega)]; exact h2.wa j p hp
  fx := fun m c p hm => by
   rcases set_at hm with ⟨rfl, e⟩ | ⟨hne, hm⟩
   ·cases e
    rw [upM_same]
   ·rw [upM_other _ _ (by omega)]; exact h2.fx m c p hm
  ka := h2.ka
  hl := h2.hl }
theorem RD.setDay (h : RD W B A X) (k : Nat) (v : Value) (X' : Xd) (hc : (cellsR A X).setIfInBounds k v = cellsR A X') (e1 : X'.ak = X.ak) (e2 : X'.he = X.he) (e3 : X'.go = X.go) (e4 : X'.ld = X.ld) : RD (W.setCell ⟨A.q, k, none⟩ v) B A X' := by
 obtain ⟨M, h1, h2⟩ := h
 refine ⟨_, h1.set h2.wl k v, ?_⟩
 exact {
  wl := by rw [upM_same, hc]
  ak := by rw [upM_other _ _ (by omega)]; exact h2.ak
  hs := by rw [upM_other _ _ (by omega)]; exact h2.hs
  go := by rw [upM_other _ _ (by omega), e3]; exact h2.go
  ld := by rw [upM_other _ _ (by omega), e4]; exact h2.ld
  he := fun i v hv => by rw [upM_other _ _ (by omega), show X'.H i = X.H i by unfold Xd.H; rw [e2]]; exact h2.he i v hv
  wa := fun j p hp => by rw [upM_other _ _ (by omega)]; exact h2.wa j p hp
  fx := fun k b p hx => by rw [upM_other _ _ (by omega)]; exact h2.fx k b p hx
  ka := by rw [e1]; exact h2.ka
  hl := by rw [e2]; exact h2.hl }
theorem keep_onl {g n c : Nat} {v : Value} (hg : v = .slice (some ⟨g, 0, none⟩) n c) (hon : Onl g W W') : KeepB W W' v v := fun b hb hob => by
 rw [hg] at hob
 have hne : b ≠ g := fun e => hob _ _ _ rfl e.symm
 exact ⟨World.grownBy.block hon b hb (fun e => hne (by simpa using e)), by rw [hg]; exact hob⟩
theorem RD.setGo (h : RD W B A X) {g n c : Nat} (hg : A.gv = .slice (some ⟨g, 0, none⟩) n c) {l' : List Gtn} (hown : Own W' B 35 5 encN A.gv l') (hon : Onl g W W') : RD W' B A { X with go := l' } := by
 obtain ⟨M, h1, h2⟩ := h
 obtain ⟨x, h3, h4⟩ := h1.grow (r := 3) h2.go hown hon.size (keep_onl hg hon)
 refine ⟨_, h4, ?_⟩
 exact {
  wl := by rw [upM_other _ _ (by omega)]; exact h2.wl
  ak := by rw [upM_other _ _ (by omega)]; exact h2.ak
  hs := by rw [upM_other _ _ (by omega)]; exact h2.hs
  go := by rw [upM_same]; exact h3
  ld := by rw [upM_other _ _ (by omega)]; exact h2.ld
  he := fun i v hv => by rw [upM_other _ _ (by omega)]; exact h2.he i v hv
  wa := fun j p hp => by rw [upM_other _ _ (by omega)]; exact h2.wa j p hp
  fx := fun k b p hx => by rw [upM_other _ _ (by omega)]; exact h2.fx k b p hx
  ka := h2.ka
  hl := h2.hl }
theorem RD.setLd (h : RD W B A X) {g n c : Nat} (hg : A.lv = .slice (some ⟨g, 0, none⟩) n c) {l' : List Ldd} (hown : Own W' B 50 6 encD A.lv l') (hon : Onl g W W') : RD W' B A { X with ld := l' } := by
 obtain ⟨M, h1, h2⟩ := h
 obtain ⟨x, h3, h4⟩ := h1.grow (r := 4) h2.ld hown hon.size (keep_onl hg hon)
 refine ⟨_, h4, ?_⟩
 exact {
  wl := by rw [upM_other _ _ (by omega)]; exact h2.wl
  ak := by rw [upM_other _ _ (by omega)]; exact h2.ak
  hs := by rw [upM_other _ _ (by omega)]; exact h2.hs
  go := by rw [upM_other _ _ (by omega)]; exact h2.go
  ld := by rw [upM_same]; exact h3
  he := fun i v hv => by rw [upM_other _ _ (by omega)]; exact h2.he i v hv
  wa := fun j p hp => by rw [upM_other _ _ (by omega)]; exact h2.wa j p hp
  fx := fun k b p hx => by rw [upM_other _ _ (by omega)]; exact h2.fx k b p hx
  ka := h2.ka
  hl := h2.hl }
theorem RD.setK (h : RD W B A X) {g n c : Nat} (hg : A.kv = .slice (some ⟨g, 0, none⟩) n c) {j : Nat} {p : Xk × Value} (hp : A.ks[j]? = some p) {k' : Xk} (hk : k'.ws = p.1.ws) (hown : Own W' B 171 14 encK A.kv (A.ks.set j (k', p.2))) (hon : Onl g W W') : RD W' B { A with ks := A.ks.set j (k', p.2) } (X.setA j k') := by
 obtain ⟨M, h1, h2⟩ := h
 obtain ⟨x, h3, h4⟩ := h1.grow (r := 1) h2.ak hown hon.size (keep_onl hg hon)
 refine ⟨_, h4, ?_⟩
 exact {
  wl := by rw [upM_other _ _ (by omega)]; exact h2.wl
  ak := by rw [upM_same]; exact h3
  hs := by rw [upM_other _ _ (by omega)]; exact h2.hs
  go := by rw [upM_other _ _ (by omega)]; exact h2.go
  ld := by rw [upM_other _ _ (by omega)]; exact h2.ld
  he := fun i v hv => by rw [upM_other _ _ (by omega)]; exact h2.he i v hv
  wa := fun i t ht => by
   rw [upM_other _ _ (by omega)]
   rcases set_at ht with ⟨rfl, rfl⟩ | ⟨_, ht⟩
   ·show OwnM _ _ _ _ p.2 k'.ws
    rw [hk]; exact h2.wa i p hp
   ·exact h2.wa i t ht
  fx := fun k b p hx => by rw [upM_other _ _ (by omega)]; exact h2.fx k b p hx
  ka := by
   show X.ak.set j k' = (A.ks.set j (k', p.2)).map Prod.fst
   rw [List.map_set, h2.ka]
  hl := h2.hl }
theorem keep_new {N : Nat} {v v' : Value} {α : Type} {E : TypeId} {k : Nat} {enc : α → List Value} {l : List α} (hown : Own W' N E k enc v' l) (hN : W.heap.size ≤ N) (hb : Below N W W') : KeepB W W' v v' := fun b hb2 _ => ⟨hb.block b (Nat.lt_of_lt_of_le hb2 hN), hown.offB (Nat.lt_of_lt_of_le hb2 hN)⟩
theorem RD.setWa (h : RD W B A X) {g n c N : Nat} (hg : A.kv = .slice (some ⟨g, 0, none⟩) n c) {j : Nat} {p : Xk × Value} (hp : A.ks[j]? = some p) {v' : Value} {l' : List Xw} (hown : Own W' N 177 3 encX v' l') (hN : W.heap.size ≤ N) (hb : Below N W W')
 (hown2 : Own (W'.setCell ⟨g, j * 14 + 13, none⟩ v') B 171 14 encK A.kv (A.ks.set j ({ p.1 with ws := l' }, v'))) : RD (W'.setCell ⟨g, j * 14 + 13, none⟩ v') B { A with ks := A.ks.set j ({ p.1 with ws := l' }, v') } (X.setA j { p.1 with ws := l' }) := by
 obtain ⟨M, h1, h2⟩ := h
 obtain ⟨x, h3, h4⟩ := h1.grow (r := 6 + 3 * j) (h2.wa j p hp) (Own.rebase hown (Nat.le_trans h1.base hN)) (hb.size) (keep_new hown hN hb)
 have hak : OwnM (upM M (6 + 3 * j) x 1) 171 14 encK A.kv A.ks := by rw [upM_other _ _ (by omega)]; exact h2.ak
 obtain ⟨y, h5, h6⟩ := h4.grow (r := 1) hak hown2 (Onl.set g W' (j * 14 + 13) v').size (keep_onl hg (Onl.set g W' (j * 14 + 13) v'))
 refine ⟨_, h6, ?_⟩
 exact {
  wl := by rw [upM_other _ _ (by omega), upM_other _ _ (by omega)]; exact h2.wl
  ak := by rw [upM_same]; exact h5
  hs := by rw [upM_other _ _ (by omega), upM_other _ _ (by omega)]; exact h2.hs
  go := by rw [upM_other _ _ (by omega), upM_other _ _ (by omega)]; exact h2.go
  ld := by rw [upM_other _ _ (by omega), upM_other _ _ (by omega)]; exact h2.ld
  he := fun i v hv => by rw [upM_other _ _ (by omega), upM_other _ _ (by omega)]; exact h2.he i v hv
  wa := fun i t ht => by
   rw [upM_other _ _ (by omega)]
   rcases set_at ht with ⟨rfl, rfl⟩ | ⟨hne, ht⟩
   ·rw [upM_same]; exact h3
   ·rw [upM_other _ _ (by omega)]; exact h2.wa i t ht
  fx := fun k b p hx => by rw [upM_other _ _ (by omega), upM_other _ _ (by omega)]; exact h2.fx k b p hx
  ka := by
   show X.ak.set j _ = (A.ks.set j _).map Prod.fst
   rw [List.map_set, h2.ka]
  hl := h2.hl }
theorem RD.setHl (h : RD W B A X) {i g n c : Nat} {v : Value} (hv : A.hs[i]? = some v) (hg : v = .slice (some ⟨g, 0, none⟩) n c) {l' : List Xh} (hown : Own W' B 107 6 encH v l') (hon : Onl g W W') : RD W' B A (X.setH i l') := by
 obtain ⟨M, h1, h2⟩ := h
 obtain ⟨x, h3, h4⟩ := h1.grow (r := 5 + 3 * i) (h2.he i v hv) hown hon.size (keep_onl hg hon)
 have hil : i < X.he.length := by rw [← h2.hl]; exact (List.getElem?_eq_some_iff.1 hv).1
 refine ⟨_, h4, ?_⟩
 exact {
  wl := by rw [upM_other _ _ (by omega)]; exact h2.wl
  ak := by rw [upM_other _ _ (by omega)]; exact h2.ak
  hs := by rw [upM_other _ _ (by omega)]; exact h2.hs
  go := by rw [upM_other _ _ (by omega)]; exact h2.go
  ld := by rw [upM_other _ _ (by omega)]; exact h2.ld
  he := fun m u hu => by
   rw [H_setH hil]
   by_cases e : m = i
   ·subst e
    rw [hv] at hu
    cases hu
    rw [upM_same, if_pos rfl]; exact h3
   ·rw [upM_other _ _ (by omega), if_neg e]; exact h2.he m u hu
  wa := fun j p hp => by rw [upM_other _ _ (by omega)]; exact h2.wa j p hp
  fx := fun k b p hx => by rw [upM_other _ _ (by omega)]; exact h2.fx k b p hx
  ka := h2.ka
  hl := by show A.hs.length = (X.he.set i l').length; rw [List.length_set]; exact h2.hl }
theorem RD.setHe (h : RD W B A X) {i g n c N : Nat} {v v' : Value} (hv : A.hs[i]? = some v) (hg : A.hh = .slice (some ⟨g, 0, none⟩) n c) {l' : List Xh} (hown : Own W' N 107 6 encH v' l') (hN : W.heap.size ≤ N) (hb : Below N W W')
 (hown2 : Own (W'.setCell ⟨g, i, none⟩ v') B 103 1 encV A.hh (A.hs.set i v')) : RD (W'.setCell ⟨g, i, none⟩ v') B { A with hs := A.hs.set i v' } (X.setH i l') := by
 obtain ⟨M, h1, h2⟩ := h
 have hil : i < X.he.length := by rw [← h2.hl]; exact (List.getElem?_eq_some_iff.1 hv).1
 obtain ⟨x, h3, h4⟩ := h1.grow (r := 5 + 3 * i) (h2.he i v hv) (Own.rebase hown (Nat.le_trans h1.base hN)) hb.size (keep_new hown hN hb)
 have hhs : OwnM (upM M (5 + 3 * i) x 2) 103 1 encV A.hh A.hs := by rw [upM_other _ _ (by omega)]; exact h2.hs
 obtain ⟨y, h5, h6⟩ := h4.grow (r := 2) hhs hown2 (Onl.set g W' i v').size (keep_onl hg (Onl.set g W' i v'))
 refine ⟨_, h6, ?_⟩
 exact {
  wl := by rw [upM_other _ _ (by omega), upM_other _ _ (by omega)]; exact h2.wl
  ak := by rw [upM_other _ _ (by omega), upM_other _ _ (by omega)]; exact h2.ak
  hs := by rw [upM_same]; exact h5
  go := by rw [upM_other _ _ (by omega), upM_other _ _ (by omega)]; exact h2.go
  ld := by rw [upM_other _ _ (by omega), upM_other _ _ (by omega)]; exact h2.ld
  he := fun m u hu => by
   rw [upM_other _ _ (by omega), H_setH hil]
   rcases set_at hu with ⟨rfl, rfl⟩ | ⟨hne, hu⟩
   ·rw [upM_same, if_pos rfl]; exact h3
   ·rw [upM_other _ _ (by omega), if_neg hne]; exact h2.he m u hu
  wa := fun j p hp => by rw [upM_other _ _ (by omega), upM_other _ _ (by omega)]; exact h2.wa j p hp
  fx := fun k b p hx => by rw [upM_other _ _ (by omega), upM_other _ _ (by omega)]; exact h2.fx k b p hx
  ka := h2.ka
  hl := by show (A.hs.set i v').length = (X.he.set i l').length; rw [List.length_set, List.length_set]; exact h2.hl }
end
end Go.Proofs.YtgohddfnhofjhaaGreatDoor

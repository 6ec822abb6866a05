/- Serve, Loads, Oldest: the walks. -/
import Derived.Test.YtgohddfnhofjhaaGreatDoorB22
import Derived.Test.YtgohddfnhofjhaaGreatDoorB25
import Derived.Shelf.SlSortCmp.Insertion
import Derived.Test.YtgohddfnhofjhaaGreatDoorProg
import Derived.Test.YtgohddfnhofjhaaGreatDoorB06
import Derived.Lib.OwnBridge
namespace Go.Proofs.YtgohddfnhofjhaaGreatDoor
open Go.RowKit

def encD (x : Ldd) : List Value := [.int .i64 x.ca, .int .i64 x.fr, .int .i64 x.sl, .int .i64 x.wt, .int .i64 x.ak, .int .i64 x.bs]
theorem encD_len (x : Ldd) : (encD x).length = 6 := rfl
theorem infoLd : (Tryz.prog.info? 50).map (fun i => (i.zero, i.size, i.bytes)) = some (some (.agg #[.int .i64 0, .int .i64 0, .int .i64 0, .int .i64 0, .int .i64 0, .int .i64 0]), 6, 48) := by kernel_rfl
theorem slLd : SlT Tryz.prog 43 50 6 48 := by
  obtain ⟨i0, hi, hz0, hz1, hz2⟩ := info_parts infoLd
  exact ⟨i0, _, Tryz.underlying43, hi, hz0, hz1, hz2, rfl, by decide, by decide⟩
/-- The inputs are well formed. -/
structure WfS (C : List Cch) (R : List Crl) (E : List Rel) (P : List Pur) (L : List Gt) : Prop where
  c : ∀ x, x ∈ C → WfC x
  r : ∀ x, x ∈ R → WfU x
  e : ∀ x, x ∈ E → WfL x
  p : ∀ x, x ∈ P → WfG x
  l : ∀ x, x ∈ L → WfT x
/-- A box with the delivery, the fault, then what is played. -/
structure BoxS (w w2 : World) (C : List Cch) (R : List Crl) (E : List Rel) (P : List Pur) (L : List Gt) (vc vr ve vp vl : Value) : Prop where
  al : w2 = w.alloc (.cells #[vc, vr, ve, vp] 27)
  bel : Below w.heap.size w w2
  q : ∀ W, Below w2.heap.size w2 W → W.cell? ⟨w.heap.size, 0, none⟩ = some vc ∧ W.cell? ⟨w.heap.size, 1, none⟩ = some vr ∧ W.cell? ⟨w.heap.size, 2, none⟩ = some ve ∧ W.cell? ⟨w.heap.size, 3, none⟩ = some vp
  flt : ∀ W, Below w2.heap.size w2 W → Calls Tryz.prog 30 #[.agg #[vc, vr, ve, vp], vl] W fun e w' => e = .returned (.int .i64 (checkS C R E P L)) ∧ Below W.heap.size W w'
  ply : checkS C R E P L = 0 → ∀ W, Below w2.heap.size w2 W → Calls Tryz.prog 31 #[.agg #[vc, vr, ve, vp], vl] W fun e w' => ∃ B A D X, e = .returned (.pointer (some ⟨A.q, 0, none⟩)) ∧ PD w' B A D ∧ W.heap.size ≤ B ∧ EndX C R E P L 1152921504606846976 X ∧ Sim C [] D X ∧ Below W.heap.size W w'
theorem boxS (w : World) {C : List Cch} {R : List Crl} {E : List Rel} {P : List Pur} {L : List Gt} {vc vr ve vp vl : Value} (h : InS w C R E P L vc vr ve vp vl) (hw : WfS C R E P L) : ∃ w2, BoxS w w2 C R E P L vc vr ve vp vl := by
  obtain ⟨w2, hw2⟩ : ∃ w2, w2 = w.alloc (.cells #[vc, vr, ve, vp] 27) := ⟨_, rfl⟩
  have hb2 : Below w.heap.size w w2 := by rw [hw2]; exact (Below.refl _ w).alloc (Nat.le_refl _) _
  have hnb : w2.heap[w.heap.size]? = some (.cells #[vc, vr, ve, vp] 27 (0, 0)) := by rw [hw2]; exact block_new w _
  have hlt : w.heap.size < w2.heap.size := (Array.getElem?_eq_some_iff.1 hnb).1
  refine ⟨w2, hw2, hb2, fun W hW => ?_, fun W hW => ?_, fun h0 W hW => ?_⟩
  · have h1 := (hW.block _ hlt).trans hnb
    exact ⟨cellF h1 0 rfl, cellF h1 1 rfl, cellF h1 2 rfl, cellF h1 3 rfl⟩
  · have h' := h.below (hb2.trans (hW.mono (Nat.le_of_lt hlt)))
    exact getsFault_any W C R E P L vc vr ve vp vl h'.c h'.r h'.e h'.p h'.l hw.c hw.r hw.e hw.p hw.l
  · exact played_any W C R E P L vc vr ve vp vl (h.below (hb2.trans (hW.mono (Nat.le_of_lt hlt)))) (val_of h0)
set_option maxRecDepth 100000 in
set_option maxHeartbeats 4000000 in
theorem Serve_any (w : World) (C : List Cch) (R : List Crl) (E : List Rel) (P : List Pur) (L : List Gt) (vc vr ve vp vl : Value) (h : InS w C R E P L vc vr ve vp vl) (hw : WfS C R E P L) :
    Calls Tryz.prog 10 #[.agg #[vc, vr, ve, vp], vl] w fun e w' => (∃ v, e = .returned (.tuple #[v, .int .i64 (checkS C R E P L)]) ∧ ∃ l, Sl w' 5 encN v l ∧ (checkS C R E P L ≠ 0 → l = []) ∧ (checkS C R E P L = 0 → ∃ X, EndX C R E P L 1152921504606846976 X ∧ l = X.go)) ∧ Below w.heap.size w w' := by
  obtain ⟨w2, hbx⟩ := boxS w h hw
  have HW2 := Lib.hid hbx.al
  have HB2 := Lib.hid hbx.bel
  have HF := Lib.hid (hbx.flt w2 (Below.refl _ _))
  have HPL := Lib.hid hbx.ply
  have HQ := Lib.hid hbx.q
  obtain ⟨q0, q1, q2, q3⟩ := hbx.q w2 (Below.refl _ _)
  have HV := Lib.hid (val_of (C := C) (R := R) (E := E) (P := P) (L := L))
  clear hbx h hw
  generalize checkS C R E P L = S at HF HPL HV ⊢
  go_enter Tryz.func10, Tryz.ntmps10
  go_upto_region 1 with (fail)
  rw [← HW2.out]
  go_wp2_with (go_at_call 30; (with_reducible refine HF.out.mono ?_); rintro e w3 ⟨rfl, hb3⟩; have HB3 := Lib.hid hb3; obtain ⟨r0, r1, r2, r3⟩ := HQ.out w3 hb3; clear hb3 q0 q1 q2 q3; by_cases hS : S = 0)
  · subst hS
    have HPW := Lib.hid (HPL.out rfl w3 HB3.out)
    go_wp2_with (go_at_call 31; (with_reducible refine HPW.out.mono ?_); rintro e w4 ⟨B, A, D, X, rfl, hp, hBl, hE, hS, hb4⟩; have hc : w4.cell? ⟨A.q, 7, none⟩ = some A.gv := cellF hp.qb.2 7 rfl; have HO := Lib.hid (hp.gots.sl encN_len); have HE := Lib.hid (And.intro hE hS); have HB4 := Lib.hid (HB2.out.thru (HB3.out.thru hb4)); clear hb4 hE hS hp hBl r0 r1 r2 r3)
    go_wp2_with fail
    go_ret2
    exact ⟨⟨A.gv, by rfl, D.go, HO.out, X, HE.out.1, HE.out.2.go_eq (HE.out.1.done (HV.out (by trivial)))⟩, HB4.out⟩
  · go_wp2_with fail
    go_ret2
    exact ⟨⟨_, by rfl, [], Sl.nil, fun _ => rfl, fun h => absurd h hS⟩, HB2.out.thru HB3.out⟩
set_option maxRecDepth 100000 in
set_option maxHeartbeats 4000000 in
theorem Loads_any (w : World) (C : List Cch) (R : List Crl) (E : List Rel) (P : List Pur) (L : List Gt) (vc vr ve vp vl : Value) (h : InS w C R E P L vc vr ve vp vl) (hw : WfS C R E P L) :
    Calls Tryz.prog 17 #[.agg #[vc, vr, ve, vp], vl] w fun e w' => (∃ v, e = .returned (.tuple #[v, .int .i64 (checkS C R E P L)]) ∧ ∃ l, Sl w' 6 encD v l ∧ (checkS C R E P L ≠ 0 → l = []) ∧ (checkS C R E P L = 0 → ∃ X, EndX C R E P L 1152921504606846976 X ∧ l = X.ld)) ∧ Below w.heap.size w w' := by
  obtain ⟨w2, hbx⟩ := boxS w h hw
  have HW2 := Lib.hid hbx.al
  have HB2 := Lib.hid hbx.bel
  have HF := Lib.hid (hbx.flt w2 (Below.refl _ _))
  have HPL := Lib.hid hbx.ply
  have HQ := Lib.hid hbx.q
  obtain ⟨q0, q1, q2, q3⟩ := hbx.q w2 (Below.refl _ _)
  have HV := Lib.hid (val_of (C := C) (R := R) (E := E) (P := P) (L := L))
  clear hbx h hw
  generalize checkS C R E P L = S at HF HPL HV ⊢
  go_enter Tryz.func17, Tryz.ntmps17
  go_upto_region 1 with (fail)
  rw [← HW2.out]
  go_wp2_with (go_at_call 30; (with_reducible refine HF.out.mono ?_); rintro e w3 ⟨rfl, hb3⟩; have HB3 := Lib.hid hb3; obtain ⟨r0, r1, r2, r3⟩ := HQ.out w3 hb3; clear hb3 q0 q1 q2 q3; by_cases hS : S = 0)
  · subst hS
    have HPW := Lib.hid (HPL.out rfl w3 HB3.out)
    go_wp2_with (go_at_call 31; (with_reducible refine HPW.out.mono ?_); rintro e w4 ⟨B, A, D, X, rfl, hp, hBl, hE, hS, hb4⟩; have hc : w4.cell? ⟨A.q, 4, none⟩ = some A.sv := cellF hp.qb.2 4 rfl; have HP := Lib.hid hp; have HE := Lib.hid (And.intro hE hS); have HB4 := Lib.hid (HB2.out.thru (HB3.out.thru hb4)); obtain ⟨so, sc, hsv, -, -, -, hel⟩ := hp.stores.sl (encP_len _); clear hb4 hE hS hp hBl r0 r1 r2 r3; rw [List.length_range] at hsv; rw [hsv] at hc; have HEL := Lib.hid hel; clear hel hsv)
    have HN : Hid (D.st.length ≤ 30) := Lib.hid (by rw [HE.out.2.len]; exact (HV.out (by trivial)).c)
    go_wp2_with fail
    go_loopg [7, 9, 23] D.st.length (fun gg s7 s9 s23 wr => ∃ (kk : Nat) (v7 : Value), kk ≤ D.st.length ∧ D.st.length - kk ≤ gg ∧ s23 = .int .i64 kk ∧ s7 = v7 ∧ Aside (Below w4.heap.size w4 wr) ∧ Aside (Own wr w4.heap.size 50 6 encD v7 ((D.st.take kk).map Sto.ld)))
    case atStart => exact ⟨0, _, Nat.zero_le _, by omega, rfl, rfl, Below.refl _ _, Own.nil⟩
    case round =>
      obtain ⟨kk, v7, hkk, hg, rfl, rfl, BW, OW⟩ := hrel
      obtain ⟨ya, yL, yc, rfl⟩ := Own.slv encD_len OW.out
      by_cases hlt : kk < D.st.length
      · have hltz : (kk : Int) < (D.st.length : Int) := by omega
        have hs := Day.at_ hlt
        obtain ⟨s, hse⟩ : ∃ s, s = D.S kk := ⟨_, rfl⟩
        rw [← hse] at hs
        obtain ⟨b, off, rfl, hc2⟩ := HEL.out kk kk (by simp [hlt])
        have hl4 := World.block_lt_of_cell? w4 _ (hc2 0 _ rfl)
        have c0 : wr.cell? ⟨b, off + kk, none⟩ = some (.pointer (some ⟨A.sb kk, 0, none⟩)) := by have h := (BW.out.cell (p := ⟨b, off + kk * 1 + 0, none⟩) hl4).trans (hc2 0 _ rfl); simpa using h
        have hsb := (HP.out.sb hs).2
        have hsl : A.sb kk < w4.heap.size := (Array.getElem?_eq_some_iff.1 hsb).1
        have hsb' := (BW.out.block _ hsl).trans hsb
        have d7 := cellF hsb' 7 rfl
        have d8 := cellF hsb' 8 rfl
        have d9 := cellF hsb' 9 rfl
        have d10 := cellF hsb' 10 rfl
        have d11 := cellF hsb' 11 rfl
        have d12 := cellF hsb' 12 rfl
        have hsz := BW.out.size
        have HNX : Hid ((D.st.take kk).map Sto.ld ++ [s.ld] = (D.st.take (kk + 1)).map Sto.ld) := Lib.hid (by rw [List.take_add_one, hs, List.map_append]; rfl)
        have hkn : D.st.length ≤ 30 := HN.out
        have hln : (((D.st.take kk).map Sto.ld).length + 1) * 48 ≤ 140737488355328 := by have := HN.out; simp; omega
        clear hc2 hsb hsb' hs hsl hse
        go_wp2_with (at_builtin; refine wpList_push rfl _ _ 43 rfl slLd rfl rfl (enc := encD) s.ld rfl rfl rfl OW.out rfl hln hsz ?_; intro v8 w8 ho8 hb8; rw [HNX.out] at ho8; have HO8 := Lib.hid ho8; have HB8 := Lib.hid (BW.out.trans hb8); clear ho8 hb8 c0 d7 d8 d9 d10 d11 d12)
        go_roundg (D.st.length - (kk + 1))
        case measure => omega
        case rel => have hn := HN.out; exact ⟨kk + 1, _, by omega, by omega, by go_num, rfl, HB8.out, HO8.out⟩
      · obtain rfl : kk = D.st.length := by omega
        have hltz : ¬ (D.st.length : Int) < (D.st.length : Int) := by omega
        have HOL : Hid (Sl wr 6 encD (.slice ya yL yc) (D.st.map Sto.ld)) := Lib.hid (by have h := OW.out.sl encD_len; rw [List.take_length] at h; exact h)
        go_wp2_with fail
        go_ret2
        exact ⟨⟨_, by rfl, _, HOL.out, X, HE.out.1, HE.out.2.lds HE.out.1.inv⟩, HB4.out.trans (BW.out.mono HB4.out.size)⟩
  · go_wp2_with fail
    go_ret2
    exact ⟨⟨_, by rfl, [], Sl.nil, fun _ => rfl, fun h => absurd h hS⟩, HB2.out.thru HB3.out⟩
/-- How old an answer was at most. -/
def oldM : List Gtn → Int
  | [] => 0
  | g :: l => max (oldM l) (g.ti - g.bo)
def oldB (C : List Cch) (R : List Crl) (E : List Rel) (P : List Pur) (L : List Gt) : Bool := decide (checkS C R E P L = 0 ∧ 0 < L.length)
theorem oldM_app (l : List Gtn) (g : Gtn) : oldM (l ++ [g]) = max (oldM l) (g.ti - g.bo) := by
  induction l with
  | nil => rfl
  | cons a l ih => show max (oldM (l ++ [g])) _ = max (max (oldM l) _) _; rw [ih]; omega
set_option maxRecDepth 100000 in
set_option maxHeartbeats 4000000 in
theorem Oldest_any (w : World) (C : List Cch) (R : List Crl) (E : List Rel) (P : List Pur) (L : List Gt) (vc vr ve vp vl : Value) (h : InS w C R E P L vc vr ve vp vl) (hw : WfS C R E P L) :
    Calls Tryz.prog 23 #[.agg #[vc, vr, ve, vp], vl] w fun e w' => (∃ n, e = .returned (.tuple #[.int .i64 n, .bool (oldB C R E P L), .int .i64 (checkS C R E P L)]) ∧ (checkS C R E P L ≠ 0 → n = 0) ∧ (checkS C R E P L = 0 → ∃ X, EndX C R E P L 1152921504606846976 X ∧ n = oldM X.go)) ∧ Below w.heap.size w w' := by
  obtain ⟨w2, hbx⟩ := boxS w h hw
  have HW2 := Lib.hid hbx.al
  have HB2 := Lib.hid hbx.bel
  have HF := Lib.hid (hbx.flt w2 (Below.refl _ _))
  have HPL := Lib.hid hbx.ply
  have HQ := Lib.hid hbx.q
  obtain ⟨q0, q1, q2, q3⟩ := hbx.q w2 (Below.refl _ _)
  have HV := Lib.hid (val_of (C := C) (R := R) (E := E) (P := P) (L := L))
  obtain ⟨lo, lc, rfl, hlc, hlm, -, -⟩ := h.l
  clear hbx h hw
  have HOB : Hid (oldB C R E P L = decide (checkS C R E P L = 0 ∧ 0 < L.length)) := Lib.hid rfl
  generalize oldB C R E P L = ob at HOB ⊢
  generalize checkS C R E P L = S at HF HPL HV HOB ⊢
  go_enter Tryz.func23, Tryz.ntmps23
  go_upto_region 1 with (fail)
  rw [← HW2.out]
  go_wp2_with (go_at_call 30; (with_reducible refine HF.out.mono ?_); rintro e w3 ⟨rfl, hb3⟩; have HB3 := Lib.hid hb3; obtain ⟨r0, r1, r2, r3⟩ := HQ.out w3 hb3; clear hb3 q0 q1 q2 q3; by_cases hS : S = 0)
  · subst hS
    have HPW := Lib.hid (HPL.out rfl w3 HB3.out)
    go_wp2_with (go_at_call 31; (with_reducible refine HPW.out.mono ?_); rintro e w4 ⟨B, A, D, X, rfl, hp, hBl, hE, hS, hb4⟩; have hc : w4.cell? ⟨A.q, 7, none⟩ = some A.gv := cellF hp.qb.2 7 rfl; have HE := Lib.hid (And.intro hE hS); have HB4 := Lib.hid (HB2.out.thru (HB3.out.thru hb4)); obtain ⟨so, sc, hsv, -, -, -, hel⟩ := hp.gots.sl encN_len; clear hb4 hE hS hp hBl r0 r1 r2 r3; rw [hsv] at hc; have HEL := Lib.hid hel; clear hel hsv)
    have HG : Hid (D.go = X.go) := Lib.hid (HE.out.2.go_eq (HE.out.1.done (HV.out (by trivial))))
    have hvl : D.go.length ≤ 1000 ∧ L.length ≤ 1000 := by rw [HG.out, HE.out.1.inv.le.2.2.1]; exact ⟨(HV.out (by trivial)).l, (HV.out (by trivial)).l⟩
    obtain ⟨hn, hlk⟩ := hvl
    have HX : Hid (∀ g, g ∈ D.go → (0 ≤ g.ti ∧ g.ti ≤ 10000000000000) ∧ (0 ≤ g.bo ∧ g.bo ≤ 10000000000000)) := Lib.hid (by rw [HG.out]; exact HE.out.1.gob (HV.out (by trivial)))
    go_wp2_with fail
    go_loopg [8, 10, 24] D.go.length (fun gg s8 s10 s24 wr => ∃ (kk : Nat), kk ≤ D.go.length ∧ D.go.length - kk ≤ gg ∧ s24 = .int .i64 kk ∧ s8 = .int .i64 (oldM (D.go.take kk)) ∧ Aside (Below w4.heap.size w4 wr))
    case atStart => exact ⟨0, Nat.zero_le _, by omega, rfl, rfl, Below.refl _ _⟩
    case round =>
      obtain ⟨kk, hkk, hg, rfl, rfl, BW⟩ := hrel
      by_cases hlt : kk < D.go.length
      · have hltz : (kk : Int) < (D.go.length : Int) := by omega
        obtain ⟨g, hgk⟩ : ∃ g, D.go[kk]? = some g := ⟨_, List.getElem?_eq_getElem hlt⟩
        obtain ⟨b, off, rfl, hc2⟩ := HEL.out kk g hgk
        have hl4 := World.block_lt_of_cell? w4 _ (hc2 0 _ rfl)
        have c0 : wr.cell? ⟨b, off + kk * 5, none⟩ = some (.int .i64 g.ti) := by have h := (BW.out.cell (p := ⟨b, off + kk * 5 + 0, none⟩) hl4).trans (hc2 0 _ rfl); simpa using h
        have c1 : wr.cell? ⟨b, off + kk * 5 + 1, none⟩ = some (.int .i64 g.ve) := (BW.out.cell (p := ⟨b, off + kk * 5 + 1, none⟩) hl4).trans (hc2 1 _ rfl)
        have c2 : wr.cell? ⟨b, off + kk * 5 + 2, none⟩ = some (.int .i64 g.bo) := (BW.out.cell (p := ⟨b, off + kk * 5 + 2, none⟩) hl4).trans (hc2 2 _ rfl)
        have c3 : wr.cell? ⟨b, off + kk * 5 + 3, none⟩ = some (.string g.fr) := (BW.out.cell (p := ⟨b, off + kk * 5 + 3, none⟩) hl4).trans (hc2 3 _ rfl)
        have c4 : wr.cell? ⟨b, off + kk * 5 + 4, none⟩ = some (.int .i64 g.ho) := (BW.out.cell (p := ⟨b, off + kk * 5 + 4, none⟩) hl4).trans (hc2 4 _ rfl)
        obtain ⟨⟨b1, b2⟩, b3, b4⟩ := HX.out g (List.mem_of_getElem? hgk)
        have HNX : Hid (max (oldM (D.go.take kk)) (g.ti - g.bo) = oldM (D.go.take (kk + 1))) := Lib.hid (by rw [List.take_add_one, hgk]; exact (oldM_app _ _).symm)
        have hsz := BW.out.size
        generalize oldM (D.go.take kk) = m at HNX ⊢
        have HB := Lib.hid (BW.out.alloc hsz (.cells #[.int .i64 g.ti, .int .i64 g.ve, .int .i64 g.bo, .string g.fr, .int .i64 g.ho] 35))
        clear hc2 hgk
        go_wp2_with fail
        go_roundg (D.go.length - (kk + 1))
        case measure => omega
        case rel => exact ⟨kk + 1, by omega, by omega, by go_num, by rw [← HNX.out], HB.out⟩
      · obtain rfl : kk = D.go.length := by omega
        have hltz : ¬ (D.go.length : Int) < (D.go.length : Int) := by omega
        have HB1 : Hid (ob = decide (0 < L.length)) := Lib.hid (by rw [HOB.out]; simp)
        have HOL : Hid (oldM D.go = oldM X.go) := Lib.hid (by rw [HG.out])
        go_wp2_with fail
        go_ret3
        exact ⟨⟨_, by rw [HB1.out]; rfl, X, HE.out.1, HOL.out⟩, HB4.out.trans (BW.out.mono HB4.out.size)⟩
  · have HB1 : Hid (ob = false) := Lib.hid (by rw [HOB.out]; simp [hS])
    go_wp2_with fail
    go_ret3
    exact ⟨⟨_, by rw [HB1.out]; rfl, fun _ => rfl, fun h => absurd h hS⟩, HB2.out.thru HB3.out⟩
end Go.Proofs.YtgohddfnhofjhaaGreatDoor

/- Contracts of the library, laid by the shelf at this seat. -/
namespace Go.Proofs
open Go.Shelf
def Tryz.laysIns_ren : Go.Shelf.Ren := ⟨fun | 20 => 138 | n => n, fun | 24 => 9 | 22 => 114 | 3 => 3 | 25 => 99 | 4 => 4 | 0 => 0 | n => n, fun | n => n⟩
theorem Tryz.laysIns : Go.Proofs.SlLaysF.n20 Tryz.prog Tryz.laysIns_ren := {
  mixed := by kernel_rfl
  f20 := ⟨Tryz.f138.name, by decide, Tryz.func138.trans (congrArg some (by kernel_rfl))⟩
  t0 := Tryz.underlying0
  a0 := Tryz.isAgg0
  z0 := Tryz.sizeOf0
  v0 := Tryz.zeroValue0
  t3 := Tryz.underlying3
  a3 := Tryz.isAgg3
  z3 := Tryz.sizeOf3
  v3 := Tryz.zeroValue3
  t4 := Tryz.underlying4
  a4 := Tryz.isAgg4
  z4 := Tryz.sizeOf4
  v4 := Tryz.zeroValue4
  t22 := Tryz.underlying114
  a22 := Tryz.isAgg114
  z22 := Tryz.sizeOf114
  v22 := Tryz.zeroValue114
  a24 := Tryz.isAgg9
  z24 := Tryz.sizeOf9
  t25 := Tryz.underlying99
  a25 := Tryz.isAgg99
  z25 := Tryz.sizeOf99
  v25 := Tryz.zeroValue99 }
end Go.Proofs

/- nameOf, the comparison of two parts, and the stable sort of at most 20 parts. -/
namespace Go.Proofs.YtgohddfnhofjhaaGreatDoor
open Go.RowKit Go.Lib Go.Sort Go.Shelf

def nameP (s : ByteArray) : ByteArray := ⟨(Lib.cut s.data.toList [61]).1.toArray⟩
theorem nameOf_any (s : ByteArray) (m : Int) (w : World) (hs : s.size ≤ 1000) (hm : w.cell? ⟨0, 0, none⟩ = some (.int .i64 m)) :
    Calls Tryz.prog 56 #[.string s] w fun e w' => e = .returned (.string (nameP s)) ∧ ∃ n, w' = w.drewN n := by
  have h := cut_any s ⟨#[61]⟩ m w (by omega) hm
  obtain ⟨X, hX⟩ : ∃ X, X = nameP s := ⟨_, rfl⟩
  have e : (⟨(Lib.cut s.data.toList (⟨#[61]⟩ : ByteArray).data.toList).1.toArray⟩ : ByteArray) = X := by rw [hX]; rfl
  rw [e] at h
  rw [← hX]
  generalize (⟨(Lib.cut s.data.toList (⟨#[61]⟩ : ByteArray).data.toList).2.1.toArray⟩ : ByteArray) = Y at h
  generalize (Lib.cut s.data.toList (⟨#[61]⟩ : ByteArray).data.toList).2.2 = Z at h
  have H := Lib.hid h
  clear h hX e
  go_enter Tryz.func56, Tryz.ntmps56
  go_wp2_with (go_at_call 53; refine (H.out).mono ?_; rintro e w2 ⟨rfl, n, rfl⟩)
  go_ret
  exact ⟨rfl, n, rfl⟩

/-- A part of at most 1000 bytes. -/
def Pt : Type := { s : ByteArray // s.size ≤ 1000 }
instance : Inhabited Pt := ⟨⟨⟨#[]⟩, by decide⟩⟩
def encPt (x : Pt) : Value := .string x.1
def cmpP (a b : ByteArray) : Int := Lib.compareBytes (nameP a).data.toList (nameP b).data.toList

set_option maxRecDepth 100000 in
theorem cmp_any (a b : ByteArray) (m : Int) (w : World) (ha : a.size ≤ 1000) (hb : b.size ≤ 1000) (hm : w.cell? ⟨0, 0, none⟩ = some (.int .i64 m)) :
    Calls Tryz.prog 58 #[.string a, .string b] w fun e w' => e = .returned (.int .i64 (cmpP a b)) ∧ ∃ n, w' = w.drewN n := by
  have h1 := Lib.hid (nameOf_any a m w ha hm)
  have h2 := Lib.hid (fun n => nameOf_any b m (w.drewN n) hb hm)
  have h3 := Lib.hid (fun W => Tryz.strings_Compare (nameP a) (nameP b) W)
  obtain ⟨X, hX⟩ : ∃ X, X = nameP a := ⟨_, rfl⟩
  obtain ⟨Y, hY⟩ : ∃ Y, Y = nameP b := ⟨_, rfl⟩
  obtain ⟨Z, hZ⟩ : ∃ Z, Z = cmpP a b := ⟨_, rfl⟩
  have e : Lib.compareBytes X.data.toList Y.data.toList = Z := by rw [hX, hY, hZ]; rfl
  rw [← hX] at h1 h3
  rw [← hY] at h2 h3
  rw [← hZ]
  rw [e] at h3
  clear hX hY hZ e hm
  go_enter Tryz.func58, Tryz.ntmps58
  go_wp2_with fail
  refine (h1.out).mono ?_
  rintro e w2 ⟨rfl, n, rfl⟩
  go_wp2_with fail
  refine (h2.out n).mono ?_
  rintro e w2 ⟨rfl, k, rfl⟩
  go_wp2_with fail
  refine (h3.out _).mono ?_
  rintro e w2 ⟨rfl, rfl⟩
  go_wp2
  go_ret
  exact ⟨rfl, n + k, rfl⟩

theorem cell_sort (w : World) (blk m : Nat) (dk : Array Pt) (os : Array Obj) (hb : 0 < blk) {v : Value} (h0 : 0 < w.heap.size) (h : w.cell? ⟨0, 0, none⟩ = some v) : (sortWorld encPt w blk 0 m dk os).cell? ⟨0, 0, none⟩ = some v := by
  unfold sortWorld
  rw [cell?_grow _ _ _ (by rw [size_putRow]; exact h0), cell?_putRow_other _ _ _ _ _ _ (Or.inl (by show (0 : Nat) ≠ blk; omega))]
  exact h
theorem cmp_reads (w : World) (m : Int) (blk size : Nat) (hb : 0 < blk) (hm : w.cell? ⟨0, 0, none⟩ = some (.int .i64 m)) :
    CmpReads Tryz.prog 58 #[] encPt (fun a b => cmpP a.1 b.1) blk 0 size w := fun k os dk _ x y =>
  cmp_any x.1 y.1 m _ x.2 y.2 (cell_sort w blk k dk os hb (World.block_lt_of_cell? w _ hm) hm)

/-- Parts in the order of their names, those of one name as they were. -/
def insP (L : List Pt) : List Pt := (Sort.insertionSort (ltOf fun a b : Pt => cmpP a.1 b.1) L.toArray 0 L.length).toList
theorem inner_size {α : Type} [Inhabited α] (lt : α → α → Bool) (a : Nat) : ∀ (j : Nat) (d : Array α), (insInner lt a j d).size = d.size := by
  intro j
  induction j with
  | zero => intro d; rfl
  | succ j ih =>
    intro d
    unfold insInner
    split
    · rw [ih, size_swp]
    · rfl
theorem outer_size {α : Type} [Inhabited α] (lt : α → α → Bool) (a b : Nat) : ∀ (n i : Nat) (d : Array α), b - i ≤ n → (insOuter lt a b i d).size = d.size := by
  intro n
  induction n with
  | zero => intro i d h; rw [insOuter, if_neg (by omega)]
  | succ n ih =>
    intro i d h
    by_cases hi : i < b
    · rw [insOuter_go _ _ _ _ _ hi, ih _ _ (by omega), inner_size]
    · rw [insOuter, if_neg hi]
theorem insP_len (L : List Pt) : (insP L).length = L.length := by
  unfold insP Sort.insertionSort
  rw [Array.length_toList, outer_size _ _ _ _ _ _ (Nat.le_refl _)]
  simp
abbrev encP1 (x : Pt) : List Value := [.string x.1]
theorem flatP (L : List Pt) : L.flatMap encP1 = L.map encPt := by
  induction L with
  | nil => rfl
  | cons x r ih => rw [List.flatMap_cons, ih]; rfl
/-- SortStableFunc of fewer than 20, over the insertion sort. -/
theorem stable_of (w : World) (v : Value) (ao : Option Addr) (n cap : Nat) (Q : World → Prop) (hv : v = .slice ao n cap) (hn : n < 20)
    (HC : Hid (Calls Tryz.prog 138 #[.slice ao n cap, .int .i64 0, .int .i64 n, .func (.func 58) #[] #[]] w fun e w' => e = .returned (.tuple #[]) ∧ Q w')) :
    Calls Tryz.prog 57 #[v, .func (.func 58) #[] #[]] w fun e w' => e = .returned (.tuple #[]) ∧ Q w' := by
  subst hv
  have h1 : ¬ (20 : Int) ≤ (n : Int) := by omega
  have h2 : ¬ (20 : Int) < (n : Int) := by omega
  have H1 : Hid (Calls Tryz.prog 89 #[.slice ao n cap, .int .i64 n, .func (.func 58) #[] #[]] w fun e w' => e = .returned (.tuple #[]) ∧ Q w') := Lib.hid (by
    go_enter Tryz.func89, Tryz.ntmps89
    go_wp2_with fail
    refine wp_loop_rounds 1 ?_
    rw [rounds_succ]
    go_wp2_with fail
    refine HC.out.mono ?_
    rintro e w' ⟨rfl, hq⟩
    have HQ := Lib.hid hq
    clear hq
    go_wp2_with fail
    refine wp_loop_rounds 1 ?_
    rw [rounds_succ]
    go_wp2_with fail
    go_end0
    exact ⟨rfl, HQ.out⟩)
  go_enter Tryz.func57, Tryz.ntmps57
  go_wp2_with fail
  refine H1.out.mono ?_
  rintro e w' ⟨rfl, hq⟩
  have HQ := Lib.hid hq
  clear hq
  go_wp2_with fail
  go_end0
  exact ⟨rfl, HQ.out⟩
theorem insNil_any (w : World) (ao : Option Addr) (cap : Nat) (f : Value) :
    Calls Tryz.prog 138 #[.slice ao 0 cap, .int .i64 0, .int .i64 0, f] w fun e w' => e = .returned (.tuple #[]) ∧ w' = w := by
  go_enter Tryz.func138, Tryz.ntmps138
  go_wp2_with fail
  refine wp_loop_rounds 1 ?_
  rw [rounds_succ]
  go_wp2_with fail
  go_end0
  exact ⟨rfl, rfl⟩
theorem insP_nil : insP [] = [] := List.length_eq_zero_iff.1 (insP_len [])
theorem stable_any (w : World) (base : Nat) (v : Value) (L : List Pt) (m : Int) (hb0 : 0 < base) (hm : w.cell? ⟨0, 0, none⟩ = some (.int .i64 m)) (h : Own w base 9 1 encP1 v L) (hn : L.length < 20) :
    Calls Tryz.prog 57 #[v, .func (.func 58) #[] #[]] w fun e w' => e = .returned (.tuple #[]) ∧ Own w' base 9 1 encP1 v (insP L) ∧ Below base w w' := by
  have eg : ∀ args w, (callFunc 58 args).run Tryz.prog w = .ok (.enter 58 args) w := enters_of Tryz.func58 (by kernel_rfl) rfl
  by_cases hL : L = []
  · subst hL
    obtain ⟨ao, cap, rfl, _⟩ := h.sl (fun _ => rfl)
    rw [insP_nil]
    exact stable_of w _ ao 0 cap _ rfl (by decide) (Lib.hid ((insNil_any w ao cap _).mono fun e w' ⟨h1, h2⟩ => ⟨h1, by rw [h2]; exact h, by rw [h2]; exact Below.refl _ _⟩))
  unfold Own at h
  rw [flatP] at h
  obtain ⟨g, cap, rfl, hg1, hg2, hnc, hcm, hl, hH⟩ := holds_of_ownsRow h (by
    rintro rfl
    rcases h.2 with ⟨_, h2⟩ | ⟨g, cap, cur, hv, _⟩
    · exact hL (List.length_eq_zero_iff.1 h2)
    · cases hv)
  have hc := Any.insertionSortCmpFunc_one Tryz.laysIns encPt (fun _ => rfl) (fun a b => cmpP a.1 b.1) 58 #[] g 0 cap 0 L.length L.toArray w eg (cmp_reads w m g _ (by omega) hm) hH (Nat.zero_le _) (by simp) (by simp; omega)
  change Calls Tryz.prog 138 _ _ _ at hc
  have hsz : L.toArray.size = L.length := by simp
  rw [hsz] at hc
  have HC : Hid (Calls Tryz.prog 138 #[.slice (some ⟨g, 0, none⟩) L.length cap, .int .i64 0, .int .i64 L.length, .func (.func 58) #[] #[]] w fun e w' => e = .returned (.tuple #[]) ∧ Own w' base 9 1 encP1 (.slice (some ⟨g, 0, none⟩) L.length cap) (insP L) ∧ Below base w w') := Lib.hid (hc.mono (by
    rintro e w' ⟨rfl, n, rfl⟩
    have e2 : Sort.insertionSort (ltOf fun a b : Pt => cmpP a.1 b.1) L.toArray 0 L.length = (insP L).toArray := by simp [insP]
    rw [e2]
    refine ⟨rfl, ?_, ?_⟩
    · have h3 := ownsRow_putRow (q := 0) (k := L.length) h (insP_len L) (Nat.le_refl _)
      rw [List.take_of_length_le (Nat.le_of_eq (insP_len L))] at h3
      unfold Own
      rw [flatP, insP_len]
      exact h3
    · exact below_drewN (below_putRow (q := 0) (Below.refl base w) hg1) n))
  exact stable_of w _ (some ⟨g, 0, none⟩) L.length cap _ rfl hn HC
end Go.Proofs.YtgohddfnhofjhaaGreatDoor

/- origin: the walk. -/
import Derived.Test.YtgohddfnhofjhaaGreatDoorK11
import Derived.Test.YtgohddfnhofjhaaGreatDoorK09
import Derived.Test.YtgohddfnhofjhaaGreatDoorK01
set_option maxRecDepth 100000
set_option maxHeartbeats 4000000
namespace Go.Proofs.YtgohddfnhofjhaaGreatDoor
open Go.RowKit
theorem PD.JF {W : World} {B : Nat} {A : Adr} {D : Day} (h : PD W B A D) : df A.q A.gv := by
 obtain ⟨M, h1, h2⟩ := h; exact bV.off h1 h2.go h2.wl (by decide)
def ES (g : Gtn) (no : Int) (x : Ans) : Gtn := { g with ti := no, ve := x.ve, bo := x.bo, fr := x.fr }
theorem CV (w : World) (B : Nat) (A : Adr) (D : Day) (ge : Nat) (gt : Gtn) (x : Ans) (h : PD w B A D) (hg : D.go[ge]? = some gt) :
 Calls Tryz.prog 72 #[.pointer (some ⟨A.q, 0, none⟩), .agg #[.int .i64 (ge : Nat), .pointer none], zW x] w fun e w' => e = .returned (.tuple #[]) ∧ PD w' B A { D with go := D.go.set ge (ES gt D.no x) } ∧ Below B w w' := by
 obtain ⟨w2, hw2⟩ : ∃ w2, w2 = (w.alloc (.cells #[.int .i64 (ge : Nat), .pointer none] 139)).alloc (.cells #[.int .i64 x.ve, .int .i64 x.bo, .int .i64 x.si, .bool x.no, .string x.fr] 95) := ⟨_, rfl⟩
 have hb2 : Below w.heap.size w w2 := by rw [hw2]; exact ((LD _ w).alloc (Ls _) _).alloc (by simp) _
 have hp2 := h.below hb2; have hqb := hp2.qb.2; have hne : D.go ≠ [] := fun e => by rw [e] at hg; cases hg
 have hgl : ge < D.go.length := (List.getElem?_eq_some_iff.1 hg).1; have hown := hp2.Hf; obtain ⟨g, cap, hgv, hg1, hg2, hg3, hg4, hgc, hgf⟩ := Own.gZ dH hown hne; have hgw : g < w.heap.size := by
  obtain ⟨g', cap', hgv', -, k2, -⟩ := Own.gZ dH h.Hf hne; rw [hgv] at hgv'; simp only [Value.slice.injEq, Option.some.injEq, Addr.mk.injEq, and_true] at hgv'
  obtain ⟨rfl, -, -⟩ := hgv'; exact k2
 have hgq : ¬ A.q = g := fun e => h.JF _ _ _ hgv (by show g = A.q; exact e.symm)
 have hgn : ¬ w.heap.size = g := by omega
 have hgm : ¬ w.heap.size + 1 = g := by omega
 have q7 : w2.cell? ⟨A.q, 7, none⟩ = some (.slice (some ⟨g, 0, none⟩) D.go.length cap) := by rw [af hqb 7 rfl, ← hgv]; rfl
 have q8 : w2.cell? ⟨A.q, 8, none⟩ = some (.int .i64 D.no) := af hqb 8 rfl; have hiz : (ge : Int) < (D.go.length : Int) := by omega
 have hN0 : w2.heap[w.heap.size]? = some (.cells #[.int .i64 (ge : Nat), .pointer none] 139 (0, 0)) := by
  rw [hw2, Below.heap_alloc _ _ _ (by simp)]; exact ag w _
 have hN1 : w2.heap[w.heap.size + 1]? = some (.cells #[.int .i64 x.ve, .int .i64 x.bo, .int .i64 x.si, .bool x.no, .string x.fr] 95 (0, 0)) := by
  have h0 := ag (w.alloc (.cells #[.int .i64 (ge : Nat), .pointer none] 139)) (.cells #[.int .i64 x.ve, .int .i64 x.bo, .int .i64 x.si, .bool x.no, .string x.fr] 95 (0, 0)); rw [hw2]
  simpa using h0
 have n0 : w2.cell? ⟨w.heap.size, 0, none⟩ = some (.int .i64 (ge : Nat)) := af hN0 0 rfl; have x0 : w2.cell? ⟨w.heap.size + 1, 0, none⟩ = some (.int .i64 x.ve) := af hN1 0 rfl; have x1 : w2.cell? ⟨w.heap.size + 1, 1, none⟩ = some (.int .i64 x.bo) := af hN1 1 rfl; have x4 : w2.cell? ⟨w.heap.size + 1, 4, none⟩ = some (.string x.fr) := af hN1 4 rfl; have g0 : w2.cell? ⟨g, ge * 5, none⟩ = some (.int .i64 gt.ti) := by have h := hgc ge gt 0 _ hg rfl; simpa using h
 have g1 : w2.cell? ⟨g, ge * 5 + 1, none⟩ = some (.int .i64 gt.ve) := hgc ge gt 1 _ hg rfl; have g2 : w2.cell? ⟨g, ge * 5 + 2, none⟩ = some (.int .i64 gt.bo) := hgc ge gt 2 _ hg rfl; have g3 : w2.cell? ⟨g, ge * 5 + 3, none⟩ = some (.string gt.fr) := hgc ge gt 3 _ hg rfl; have f0 := hgf (ge * 5); have f1 := hgf (ge * 5 + 1); have f2 := hgf (ge * 5 + 2); have f3 := hgf (ge * 5 + 3); have HPD := Lr hp2; have HOW := Lr hown; have HB2 := Lr (hb2.mono h.base); have HW2 := Lr hw2; clear hw2 hb2 h hp2 hqb hgc hgf hN0 hN1 hown
 go_enter Tryz.func72, Tryz.ntmps72
 go_upto_region 3 with (fail)
 rw [← HW2.out]
 go_quiet (fail)
 go_upto_region 4 with (fail)
 obtain ⟨w3, hw3⟩ : ∃ w3, w3 = w2.drewN nq := ⟨_, rfl⟩
 go_big_region
 have hb3 : Below w2.heap.size w2 (w2.drewN (nq + 1)) := below_drewN (LD _ w2) _; have hon : Onl g w2 (((((w2.drewN (nq + 1)).setCell ⟨g, ge * 5, none⟩ (.int .i64 D.no)).setCell ⟨g, ge * 5 + 1, none⟩ (.int .i64 x.ve)).setCell ⟨g, ge * 5 + 2, none⟩ (.int .i64 x.bo)).setCell ⟨g, ge * 5 + 3, none⟩ (.string x.fr)) :=
  ((((Onl.of_below hb3).trans (Onl.set g _ _ _)).trans (Onl.set g _ _ _)).trans (Onl.set g _ _ _)).trans (Onl.set g _ _ _)
 have st : ∀ {W : World} {l : List Gtn} {y : Gtn} (k : Nat) (u : Value) (z : Gtn), Own W B 35 5 jF (.slice (some ⟨g, 0, none⟩) D.go.length cap) l → D.go.length = l.length → l[ge]? = some y → k < 5 → jF z = (jF y).set k u →
  Own (W.setCell ⟨g, ge * 5 + k, none⟩ u) B 35 5 jF (.slice (some ⟨g, 0, none⟩) D.go.length cap) (l.set ge z) ∧ D.go.length = (l.set ge z).length ∧ (l.set ge z)[ge]? = some z := fun {W l y} k u z h hn hi hj he =>
  ⟨Own.store dH h hn hi hj he, by rw [List.length_set]; exact hn, by rw [List.getElem?_set_self (List.getElem?_eq_some_iff.1 hi).1]⟩
 have ho := HOW.out; rw [hgv] at ho; have ho' : Own (w2.drewN (nq + 1)) B 35 5 jF (.slice (some ⟨g, 0, none⟩) D.go.length cap) D.go := ho.drewN _; obtain ⟨p0, e0, i0⟩ := st 0 (.int .i64 D.no) { gt with ti := D.no } ho' rfl hg (by decide) rfl; obtain ⟨p1, e1, i1⟩ := st 1 (.int .i64 x.ve) { gt with ti := D.no, ve := x.ve } p0 e0 i0 (by decide) rfl; obtain ⟨p2, e2, i2⟩ := st 2 (.int .i64 x.bo) { gt with ti := D.no, ve := x.ve, bo := x.bo } p1 e1 i1 (by decide) rfl; obtain ⟨p3, -, -⟩ := st 3 (.string x.fr) (ES gt D.no x) p2 e2 i2 (by decide) rfl; simp only [List.set_set] at p3
 go_wp2_with fail
 go_end0
 refine ⟨rfl, HPD.out.Ej hgv (by rw [hgv]; exact p3) hon hon.size, HB2.out.trans (hon.dK HPD.out.base hg1)⟩
abbrev Jm (x : Rel) : Value := .agg #[.string x.ke, .int .i64 x.ti, .int .i64 x.si, .bool x.go]
abbrev BkL (w : World) (g : Nat) (x : Rel) : Prop := Bk4 w g 77 (.string x.ke) (.int .i64 x.ti) (.int .i64 x.si) (.bool x.go)
structure RlS (w wr : World) (x : Rel) : Prop where
 bel : Below w.heap.size w wr
 zero : BkL wr w.heap.size default
 out : BkL wr (w.heap.size + 1) x
theorem RlS.start (w : World) : RlS w ((w.alloc (.cells #[.string ⟨#[]⟩, .int .i64 0, .int .i64 0, .bool false] 77)).alloc (.cells #[.string ⟨#[]⟩, .int .i64 0, .int .i64 0, .bool false] 77)) default := by
 refine ⟨((LD _ _).alloc (Ls _) _).alloc (by simp) _, ?_, ?_⟩
 ·have h : BkL (w.alloc (.cells #[.string ⟨#[]⟩, .int .i64 0, .int .i64 0, .bool false] 77)) w.heap.size default := ag w _; exact h.below (B := (w.alloc (.cells #[.string ⟨#[]⟩, .int .i64 0, .int .i64 0, .bool false] 77)).heap.size) ((LD _ _).alloc (Ls _) _) (by simp)
 ·have e : w.heap.size + 1 = (w.alloc (.cells #[.string ⟨#[]⟩, .int .i64 0, .int .i64 0, .bool false] 77)).heap.size := by simp
  rw [e]; exact ag _ _
theorem RlS.al {w wr : World} {x : Rel} (h : RlS w wr x) (z : Obj) : RlS w (wr.alloc z) x :=
 ⟨h.bel.alloc h.bel.size z, h.zero.below ((LD _ _).alloc (Ls _) z) h.zero.lt, h.out.below ((LD _ _).alloc (Ls _) z) h.out.lt⟩
theorem RlS.st {w wr : World} {x : Rel} (h : RlS w wr x) (y : Rel) : RlS w (Io wr (w.heap.size + 1) (.string y.ke) (.int .i64 y.ti) (.int .i64 y.si) (.bool y.go)) y :=
 ⟨ed h.bel (Nat.le_succ _) _ _ _ _, h.zero.other (by omega), h.out.set _ _ _ _⟩
theorem qw (w : World) (l : List Rel) (v : Value) (k : ByteArray) (t : Int) (hl : Sl w 4 zn v l) :
 Calls Tryz.prog 116 #[v, .string k, .int .i64 t] w fun e w' => e = .returned (.tuple #[Jm (qM l (veO l k t)), .bool (veO l k t).isSome]) ∧ Below w.heap.size w w' := by
 obtain ⟨ao, cap, rfl, hcap, hmax, hnil, hel⟩ := hl; unfold maxLen at hmax; have HEL := Lr hel; clear hel; have HS0 := Lr (RlS.start w); have HVO : Hid (veO l k t = if (qM l (veI l k t l.length)).go = true then none else veI l k t l.length) := Lr rfl; obtain ⟨V, hV⟩ : ∃ V, V = veO l k t := ⟨_, rfl⟩
 rw [← hV] at HVO ⊢; clear hV; obtain ⟨Y, hY⟩ : ∃ Y, Y = qM l V := ⟨_, rfl⟩
 obtain ⟨OB, hOB⟩ : ∃ OB, OB = V.isSome := ⟨_, rfl⟩
 rw [← hY, ← hOB]; have HY := Lr hY; have HOB := Lr hOB; clear hY hOB
 go_enter Tryz.func116, Tryz.ntmps116
 go_wp2
 go_loopg [9, 11, 14] l.length (fun gg s9 _ s14 wr => ∃ kk : Nat, kk ≤ l.length ∧ l.length - kk ≤ gg ∧ s14 = .int .i64 kk ∧ s9 = .bool (veI l k t kk).isSome ∧ Aside (RlS w wr (qM l (veI l k t kk))))
 case atStart => exact ⟨0, Nat.zero_le _, by omega, by go_num, rfl, HS0.out⟩
 case round =>
  obtain ⟨kk, hkk, hg, rfl, rfl, RS⟩ := hrel; have RS := Lr RS.out; by_cases hlt : kk < l.length
  ·have hltz : (kk : Int) < (l.length : Int) := by omega
   obtain ⟨x, hx⟩ : ∃ x, l[kk]? = some x := ⟨l[kk], by simp [hlt]⟩
   obtain ⟨b, off, rfl, hc⟩ := HEL.out kk x hx; have hlt0 := LC w ⟨b, off + kk * 4 + 0, none⟩ (hc 0 _ rfl); have BL := RS.out.bel; have c0 : wr.cell? ⟨b, off + kk * 4, none⟩ = some (.string x.ke) := (BL.cell (p := ⟨b, off + kk * 4 + 0, none⟩) hlt0).trans (hc 0 _ rfl); have c1 : wr.cell? ⟨b, off + kk * 4 + 1, none⟩ = some (.int .i64 x.ti) := (BL.cell (p := ⟨b, off + kk * 4 + 1, none⟩) hlt0).trans (hc 1 _ rfl); have c2 : wr.cell? ⟨b, off + kk * 4 + 2, none⟩ = some (.int .i64 x.si) := (BL.cell (p := ⟨b, off + kk * 4 + 2, none⟩) hlt0).trans (hc 2 _ rfl); have c3 : wr.cell? ⟨b, off + kk * 4 + 3, none⟩ = some (.bool x.go) := (BL.cell (p := ⟨b, off + kk * 4 + 3, none⟩) hlt0).trans (hc 3 _ rfl); obtain ⟨y, hy⟩ : ∃ y, y = qM l (veI l k t kk) := ⟨_, rfl⟩
   have HO := Lr RS.out.out; have HZ := Lr RS.out.zero; have HNI := Lr (vV (k := k) (t := t) hx); have HOK : Hid (qM l (some kk) = x) := Lr (by show l.getD kk default = x; exact bi hx); rw [← hy] at HO; have HOY := Lr hy; have hzs := HZ.out.lt; have hos := HO.out.lt; obtain ⟨y0, y1, y2, y3⟩ := HO.out.cells; have yf0 := HO.out.frz 0; have yf1 := HO.out.frz 1; have yf2 := HO.out.frz 2; have yf3 := HO.out.frz 3; obtain ⟨o, ho⟩ : ∃ o, o = veI l k t kk := ⟨_, rfl⟩
   rw [← ho] at HNI ⊢; have HOI := Lr ho; clear hx hc BL hy ho; have HX1 := Lr (fun z => (RS.out.st x).al z); have HX := Lr (RS.out.al (.cells #[.string x.ke, .int .i64 x.ti, .int .i64 x.si, .bool x.go] 77)); rw [← HOY.out] at HX; cases hq : (x.ke.toList == k.toList)
   case false =>
    have HN : Hid (veI l k t (kk + 1) = o) := Lr (by rw [HNI.out, hq]; rfl)
    go_wp2
    go_roundg (l.length - (kk + 1))
    case measure => omega
    case rel => exact ⟨kk + 1, by omega, by omega, by go_num, by rw [HN.out], by rw [HN.out, HOI.out, ← HOY.out]; exact HX.out⟩
   case true =>
    by_cases hs : x.ti ≤ t
    ·have HN : Hid (veI l k t (kk + 1) = some kk) := Lr (by rw [HNI.out, hq, decide_eq_true hs]; rfl)
     go_wp2
     go_roundg (l.length - (kk + 1))
     case measure => omega
     case rel => exact ⟨kk + 1, by omega, by omega, by go_num, by rw [HN.out]; rfl, by rw [HN.out, HOK.out]; exact HX1.out _⟩
    ·have HN : Hid (veI l k t (kk + 1) = o) := Lr (by rw [HNI.out, hq, decide_eq_false hs]; rfl)
     go_wp2
     go_roundg (l.length - (kk + 1))
     case measure => omega
     case rel => exact ⟨kk + 1, by omega, by omega, by go_num, by rw [HN.out], by rw [HN.out, HOI.out, ← HOY.out]; exact HX.out⟩
  ·obtain rfl : kk = l.length := by omega
   have hltz : ¬ (l.length : Int) < (l.length : Int) := by omega
   obtain ⟨y, hy⟩ : ∃ y, y = qM l (veI l k t l.length) := ⟨_, rfl⟩
   obtain ⟨o, ho⟩ : ∃ o, o = veI l k t l.length := ⟨_, rfl⟩
   rw [← hy] at RS HVO; rw [← ho] at HVO ⊢; have HOY : Hid (y = qM l o) := Lr (by rw [hy, ho]); have HO := Lr RS.out.out; have HZ := Lr RS.out.zero; have HBX := Lr RS.out.bel; have hzs := HZ.out.lt; have hos := HO.out.lt; obtain ⟨y0, y1, y2, y3⟩ := HO.out.cells; obtain ⟨z0, z1, z2, z3⟩ := HZ.out.cells; have zf0 := HZ.out.frz 0; have zf1 := HZ.out.frz 1; have zf2 := HZ.out.frz 2; have zf3 := HZ.out.frz 3; clear hy ho RS; have RZ : Hid (Y = default → OB = false → (fun (e : Ending) (w' : World) => e = .returned (.tuple #[Jm Y, .bool OB]) ∧ Below w.heap.size w w') (.returned (.tuple #[.agg #[.string ⟨#[]⟩, .int .i64 0, .int .i64 0, .bool false], .bool false])) (Io wr w.heap.size (.string ⟨#[]⟩) (.int .i64 0) (.int .i64 0) (.bool false))) := Lr (fun h1 h2 => ⟨by rw [h1, h2]; rfl, ed HBX.out (Ls _) _ _ _ _⟩); cases o
   case none =>
    have hV : V = none := by rw [HVO.out]; split <;> rfl
    have h1 : Y = default := by rw [HY.out, hV]; rfl
    have h2 : OB = false := by rw [HOB.out, hV]; rfl
    have RZ2 := Lr (RZ.out h1 h2); clear hV h1 h2 RZ
    go_upto_region 10 with (fail)
    repeat (first | go_values | go_skip | go_guarded | go_step | go_upon)
    exact bodyPost_ret (v := .tuple #[.agg #[.string ⟨#[]⟩, .int .i64 0, .int .i64 0, .bool false], .bool false]) (by simp [results, Tryz.results116, go_sem, z0, z1, z2, z3]) rfl RZ2.out
   case some j =>
    cases hgo : y.go
    case true =>
     have hV : V = none := by rw [HVO.out, hgo]; rfl
     have h1 : Y = default := by rw [HY.out, hV]; rfl
     have h2 : OB = false := by rw [HOB.out, hV]; rfl
     have RZ2 := Lr (RZ.out h1 h2); rw [hgo] at y3; clear hV h1 h2 RZ
     go_upto_region 10 with (fail)
     repeat (first | go_values | go_skip | go_guarded | go_step | go_upon)
     exact bodyPost_ret (v := .tuple #[.agg #[.string ⟨#[]⟩, .int .i64 0, .int .i64 0, .bool false], .bool false]) (by simp [results, Tryz.results116, go_sem, z0, z1, z2, z3]) rfl RZ2.out
    case false =>
     have hV : V = some j := by rw [HVO.out, hgo]; rfl
     have h1 : Y = y := by rw [HY.out, hV, HOY.out]
     have h2 : OB = true := by rw [HOB.out, hV]; rfl
     subst h1; subst h2; rw [hgo] at y3; have ha : Hid (Jm Y = .agg #[.string Y.ke, .int .i64 Y.ti, .int .i64 Y.si, .bool false]) := Lr (by simp [Jm, hgo]); clear hV RZ HY HOB
     go_upto_region 11 with (fail)
     repeat (first | go_values | go_skip | go_guarded | go_step | go_upon)
     exact bodyPost_ret (v := .tuple #[.agg #[.string Y.ke, .int .i64 Y.ti, .int .i64 Y.si, .bool false], .bool true]) (by simp [results, Tryz.results116, go_sem, z0, z1, z2, z3]) rfl ⟨by rw [ha.out], ed HBX.out (Ls _) _ _ _ _⟩
def oV (l : List Rel) (k : ByteArray) (no : Int) : Ans := if (veO l k no).isSome = true then ⟨(qM l (veO l k no)).ti, no, (qM l (veO l k no)).si, false, ⟨#[]⟩⟩ else ⟨-1, no, 0, true, ⟨#[]⟩⟩
def Day.S (D : Day) (i : Nat) : Sto := D.st.getD i default
def Day.bz (D : Day) (i : Nat) (s : Sto) : Day := { D with st := D.st.set i s }
def Day.G (D : Day) (g : Nat) : Gtn := D.go.getD g default
def aj (s : Sto) : Sto := { s with ld := { s.ld with ca := s.ld.ca + 1 } }
def dC (s : Sto) : Sto := { s with ld := { s.ld with fr := s.ld.fr + 1 } }
def bK (s : Sto) : Sto := { s with ld := { s.ld with sl := s.ld.sl + 1 } }
def nO (s : Sto) : Sto := { s with ld := { s.ld with wt := s.ld.wt + 1 } }
def oU (s : Sto) (key : ByteArray) (no : Int) : Sto := { s with hm := fun d => if d = key then ⟨(s.hm key).an, no⟩ else s.hm d }
def Day.takeD (D : Day) (i : Nat) (s : Sto) (key : ByteArray) : Day := { D with st := D.st.set i (oU s key D.no), pu := D.pu + 1 }
def Day.aQ (D : Day) (f : Wtr) (x : Ans) : Day :=
 match f.ak with
 | some j => D.EU j (D.S (D.K j).ca).ch.de x
 | none => { D with go := D.go.set f.ge (ES (D.G f.ge) D.no x) }
def Day.kK (D : Day) (j : Nat) (f : Wtr) : Day := { D with wa := upF D.wa j (D.wa j ++ [f]) }
def Day.dQ (D : Day) (f : Wtr) (how : Int) : Day :=
 match f.ak with
 | some _ => D
 | none => { D with go := D.go.set f.ge { D.G f.ge with ho := how } }
def mV (s : Sto) (key : ByteArray) : Ans := { (s.hm key).an with fr := s.ch.na }
def Day.uq (D : Day) (i : Nat) (s : Sto) (key : ByteArray) (f : Wtr) : Day := (((D.bz i (dC (aj s))).takeD i (dC (aj s)) key).aQ f (mV s key)).dQ f 1
def Day.jk (D : Day) (i : Nat) (s : Sto) (key : ByteArray) (f : Wtr) : Day := ((D.bz i (bK (aj s))).takeD i (bK (aj s)) key).aQ f (mV s key)
def Day.lQ (D : Day) (i : Nat) (key : ByteArray) (last : Int) : Day := match rV D (D.S i).ar key last with
 | some _ => D
 | none => D.mG i (D.S i) key true
def Day.BH (D : Day) (i : Nat) (s : Sto) (key : ByteArray) (kept : Bool) (f : Wtr) : Day := (((D.bz i (aj s)).mG i (aj s) key kept).kK D.ak.length f).dQ f 3
def Day.uU (D : Day) (i : Nat) (s : Sto) (j : Nat) (f : Wtr) : Day := ((D.bz i (nO (aj s))).kK j f).dQ f 4
def Day.dX (D : Day) (R : List Crl) (P : List Pur) (i : Nat) (s : Sto) (key : ByteArray) (f : Wtr) : Day :=
 if (ruI R key R.length).isSome = false then D.BH i s key false f
 else if onL key s.ks = true ∧ D.no < eG (lV R (ruI R key R.length)) (s.hm key).an false then D.uq i s key f
 else if onL key s.ks = true ∧ D.no < eG (lV R (ruI R key R.length)) (s.hm key).an true then ((D.jk i s key f).lQ i key (fQ P key D.no)).dQ f 2
 else match rV D s.ar key (fQ P key D.no) with
  | some j => D.uU i s j f
  | none => D.BH i s key true f
def Ip (f : ByteArray → Hld) (ks : List ByteArray) : ByteArray := ks.foldl (fun x y => if lgB f y x = true then y else x) (ks.headD ⟨#[]⟩)
def gB (f : ByteArray → Hld) : List ByteArray → Int
 | [] => 0
 | k :: ks => aT (f k).an + gB f ks
def evK (f : ByteArray → Hld) (ro nd : Int) : Nat → List ByteArray → List ByteArray
 | 0, ks => ks
 | g + 1, ks => if ro < gB f ks + nd then evK f ro nd g (rmv (Ip f ks) ks) else ks
def Day.uB (D : Day) (i : Nat) (s : Sto) (ks : List ByteArray) : Day := D.bz i { s with ks := ks }
def iF (D : Day) (R : List Crl) (P : List Pur) (s : Sto) (key : ByteArray) (x : Ans) : Bool :=
 (onL key s.ks && decide (x.bo < (s.hm key).an.bo)) || (decide (x.bo < fQ P key D.no) || decide (eG (lV R (ruI R key R.length)) x true ≤ D.no))
def Day.keepD (D : Day) (R : List Crl) (P : List Pur) (i : Nat) (s : Sto) (key : ByteArray) (x : Ans) : Day :=
 if iF D R P s key x = true then D
 else if s.ch.ro < aT x then D.uB i s (rmv key s.ks)
 else { D with st := D.st.set i { s with ks := key :: evK s.hm s.ch.ro (aT x) s.ks.length (rmv key s.ks), hm := fun d => if d = key then ⟨x, D.no⟩ else s.hm d }, pu := D.pu + 1 }
def lg (s : Sto) (j : Nat) (si : Int) : Sto := { s with ar := s.ar.filter fun o => !decide (o = j), ld := { s.ld with bs := s.ld.bs + si } }
def Day.jH (D : Day) (R : List Crl) (P : List Pur) (j : Nat) (x : Ans) : Day :=
 let D1 := D.bz (D.K j).ca (lg (D.S (D.K j).ca) j x.si)
 let D2 := (D.wa j).foldl (fun D f => D.aQ f x) D1
 if (D.K j).kp = true then D2.keepD R P (D.K j).ca (D2.S (D.K j).ca) (D.K j).ke x else D2
def Day.sF (D : Day) (R : List Crl) (E : List Rel) (P : List Pur) (j : Nat) : Day :=
 if 0 ≤ (D.S (D.K j).ca).pa then D.dX R P (D.S (D.K j).ca).pa.toNat (D.S (D.S (D.K j).ca).pa.toNat) (D.K j).ke ⟨0, some j⟩
 else D.aQ ⟨0, some j⟩ (oV E (D.K j).ke D.no)
def Day.FP (D : Day) (key : ByteArray) : Day := { D with st := D.st.map fun s => { s with ks := rmv key s.ks } }
def Day.bM (D : Day) : Day := { D with qu := (hpop (bfr D.K) D.qu).2 }
def Day.IP (D : Day) (t : Int) : Day := { D with no := t }
theorem uS (f : ByteArray → Hld) : ∀ (ks : List ByteArray) (x : ByteArray), (ks.foldl (fun x y => if lgB f y x = true then y else x) x = x ∨ ks.foldl (fun x y => if lgB f y x = true then y else x) x ∈ ks) ∧ lgB f x (ks.foldl (fun x y => if lgB f y x = true then y else x) x) = false ∧ ∀ y, y ∈ ks → lgB f y (ks.foldl (fun x y => if lgB f y x = true then y else x) x) = false
 | [], x => ⟨.inl rfl, wX f x, fun y h => by cases h⟩
 | k :: ks, x => by
  simp only [List.foldl_cons]
  cases hb : lgB f k x
  ·rw [if_neg (by simp)]; obtain ⟨h1, h2, h3⟩ := uS f ks x; refine ⟨h1.imp id (List.mem_cons_of_mem _), h2, fun y hy => ?_⟩; rcases List.mem_cons.1 hy with rfl | hy
   ·cases hc : lgB f y (ks.foldl (fun x y => if lgB f y x = true then y else x) x)
    ·rfl
    ·rcases h1 with e | h1
     ·rw [e, hb] at hc; cases hc
     ·exfalso
      have hx : lgB f x (ks.foldl (fun x y => if lgB f y x = true then y else x) x) = true := by
       revert h2 hb hc
       generalize ks.foldl (fun x y => if lgB f y x = true then y else x) x = z; unfold lgB; rw [bytesLess_eq, bytesLess_eq, bytesLess_eq]; intro h2 hb hc; simp only [Bool.or_eq_true, Bool.or_eq_false_iff, Bool.and_eq_true, Bool.and_eq_false_iff, decide_eq_true_eq, decide_eq_false_iff_not, beq_iff_eq, beq_eq_false_iff_ne] at *
       rcases hc with hc | ⟨hc, hc'⟩
       ·exact absurd (show (f x).us < (f z).us by omega) h2.1
       ·by_cases e : (f y).us = (f x).us
        ·right
         refine ⟨by omega, ?_⟩; have : ¬ y.toList < x.toList := hb.2.resolve_left (fun h => h e); exact List.lt_of_le_of_lt (List.not_lt.1 this) hc'
        ·exact absurd (show (f x).us < (f z).us by omega) h2.1
      rw [h2] at hx; cases hx
   ·exact h3 y hy
  ·rw [if_pos rfl]; obtain ⟨h1, h2, h3⟩ := uS f ks k; refine ⟨.inr ?_, ?_, fun y hy => ?_⟩
   ·rcases h1 with e | h1
    ·rw [e]; exact List.mem_cons_self ..
    ·exact List.mem_cons_of_mem _ h1
   ·cases hc : lgB f x (ks.foldl (fun x y => if lgB f y x = true then y else x) k)
    ·rfl
    ·have := FV hb hc; rw [h2] at this; cases this
   ·rcases List.mem_cons.1 hy with rfl | hy
    ·exact h2
    ·exact h3 y hy
theorem uQ (f : ByteArray → Hld) {ks : List ByteArray} (h : ks ≠ []) : zY f ks (Ip f ks) := by
 obtain ⟨k, l, rfl⟩ := List.exists_cons_of_ne_nil h; obtain ⟨h1, h2, h3⟩ := uS f (k :: l) k; refine ⟨?_, h3⟩; rcases h1 with e | h1
 ·unfold Ip; show List.foldl _ k _ ∈ _
  rw [e]; exact List.mem_cons_self ..
 ·exact h1
theorem lh {a b : ByteArray} (h : a.toList = b.toList) : a = b := by
 rw [ByteArray.toList_eq, ByteArray.toList_eq] at h; exact ByteArray.ext (Array.ext' h)
theorem zY.one {f : ByteArray → Hld} {ks : List ByteArray} {x y : ByteArray} (h : zY f ks x) (g : zY f ks y) : x = y := by
 have h1 := h.2 y g.1; have h2 := g.2 x h.1; unfold lgB at h1 h2; rw [bytesLess_eq] at h1 h2; simp only [Bool.or_eq_false_iff, Bool.and_eq_false_iff, decide_eq_false_iff_not, beq_eq_false_iff_ne] at h1 h2
 have e : (f x).us = (f y).us := by omega
 refine lh (List.le_antisymm (List.not_lt.1 ?_) (List.not_lt.1 ?_))
 ·exact h1.2.resolve_left (fun h => h e.symm)
 ·exact h2.2.resolve_left (fun h => h e)
theorem zY.eq {f : ByteArray → Hld} {ks : List ByteArray} {x : ByteArray} (h : zY f ks x) : x = Ip f ks := h.one (uQ f (fun e => by rw [e] at h; exact absurd h.1 (by simp)))
theorem Ih {k : ByteArray} {ks : List ByteArray} (h : onL k ks = true) : DZ k ks = ks := if_pos h
theorem FC {k : ByteArray} {ks : List ByteArray} (h : ¬ k ∈ ks) : DZ k ks = k :: ks := if_neg (fun e => h (bF.1 e))
theorem Day.KI {D : Day} {i : Nat} {s : Sto} (h : D.st[i]? = some s) : D.S i = s := by unfold Day.S; rw [Lt, h]; rfl
theorem Day.at_ {D : Day} {i : Nat} (h : i < D.st.length) : D.st[i]? = some (D.S i) := by unfold Day.S; rw [Lt, Lu h]; rfl
theorem Day.zK {D : Day} {j : Nat} {k : Akn} (h : D.ak[j]? = some k) : D.K j = k := by unfold Day.K; rw [Lt, h]; rfl
theorem Day.oJ {D : Day} {j : Nat} (h : j < D.ak.length) : D.ak[j]? = some (D.K j) := by unfold Day.K; rw [Lt, Lu h]; rfl
theorem Day.I7 {D : Day} {g : Nat} (h : g < D.go.length) : D.go[g]? = some (D.G g) := by unfold Day.G; rw [Lt, Lu h]; rfl
structure Ji (n : Nat) (s : Sto) : Prop where
 ar : s.ar.length ≤ n
 ca : 0 ≤ s.ld.ca ∧ s.ld.ca ≤ n
 fr : 0 ≤ s.ld.fr ∧ s.ld.fr ≤ n
 sl : 0 ≤ s.ld.sl ∧ s.ld.sl ≤ n
 wt : 0 ≤ s.ld.wt ∧ s.ld.wt ≤ n
 ak : 0 ≤ s.ld.ak ∧ s.ld.ak ≤ n
 bs : 0 ≤ s.ld.bs ∧ s.ld.bs ≤ n * 1000000000
 de : 1 ≤ s.ch.de ∧ s.ch.de ≤ 100000
 ro : 0 ≤ s.ch.ro ∧ s.ch.ro ≤ 1000000000000
 pa : -1 ≤ s.pa ∧ s.pa ≤ 30
 kl : s.ks.length ≤ n
structure lw (x : Ans) : Prop where
 bo : 0 ≤ x.bo ∧ x.bo ≤ 10000000000000
 si : 0 ≤ x.si ∧ x.si ≤ 1000000000
theorem lw.zero : lw ⟨0, 0, 0, false, ⟨#[]⟩⟩ := ⟨⟨by decide, by decide⟩, ⟨by decide, by decide⟩⟩
structure Fit (n : Nat) (D : Day) : Prop where
 num : Jk D
 qu : D.qu.length ≤ n
 ak : D.ak.length ≤ n
 wa : ∀ j, (D.wa j).length ≤ n
 pu : D.pu ≤ n
 no : 0 ≤ D.no ∧ D.no ≤ 10000000000000
 st : ∀ (i : Nat) (s : Sto), D.st[i]? = some s → Ji n s
 an : ∀ (i : Nat) (s : Sto), D.st[i]? = some s → ∀ k, k ∈ s.ks → lw (s.hm k).an
 ks : ∀ (i : Nat) (s : Sto), D.st[i]? = some s → s.ks.Nodup ∧ ∀ k, k ∈ s.ks → k.size ≤ 300
 qa : ∀ e, e ∈ D.qu → lw e.an
 kk : ∀ (j : Nat) (k : Akn), D.ak[j]? = some k → k.ca < D.st.length ∧ k.ke.size ≤ 300
 wg : ∀ j, j < D.ak.length → ∀ x, x ∈ D.wa j → x.ak = none → x.ge < D.go.length
theorem Ji.mono {n m : Nat} {s : Sto} (h : Ji n s) (hm : n ≤ m) : Ji m s := by
 obtain ⟨h1, h2, h3, h4, h5, h6, h7, h8, h9, h10, h11⟩ := h; constructor <;> omega
theorem Fit.mono {n m : Nat} {D : Day} (h : Fit n D) (hm : n ≤ m) : Fit m D :=
 { h with qu := Nat.le_trans h.qu hm, ak := Nat.le_trans h.ak hm, wa := fun j => Nat.le_trans (h.wa j) hm, pu := Nat.le_trans h.pu hm, st := fun i s hs => (h.st i s hs).mono hm }
theorem Fit.set {n : Nat} {D : Day} (h : Fit n D) {i : Nat} {s : Sto} (hf : Ji n s) (ha : ∀ k, k ∈ s.ks → lw (s.hm k).an) (hk : s.ks.Nodup ∧ ∀ k, k ∈ s.ks → k.size ≤ 300) (hn : ∀ j, j ∈ s.ar → j < D.ak.length) : Fit n (D.bz i s) := by
 have hl : (D.st.set i s).length = D.st.length := List.length_set; exact { h with
  num := ⟨h.num.qu, fun k t ht j hj => by
   rcases bI ht with ⟨rfl, rfl⟩ | ⟨hne, ht⟩
   ·exact hn j hj
   ·exact h.num.ar k t ht j hj, h.num.wa⟩
  st := fun k t ht => by
   rcases bI ht with ⟨rfl, rfl⟩ | ⟨hne, ht⟩
   ·exact hf
   ·exact h.st k t ht
  an := fun k t ht => by
   rcases bI ht with ⟨rfl, rfl⟩ | ⟨hne, ht⟩
   ·exact ha
   ·exact h.an k t ht
  ks := fun k t ht => by
   rcases bI ht with ⟨rfl, rfl⟩ | ⟨hne, ht⟩
   ·exact hk
   ·exact h.ks k t ht
  kk := fun j k hk => by
   show k.ca < (D.st.set i s).length ∧ _
   rw [hl]; exact h.kk j k hk }
theorem jS {α : Type} [Inhabited α] {lt : α → α → Bool} {l : List α} {x y : α} (h : y ∈ hpush lt l x) : y ∈ l ∨ y = x := by
 have hl : ∀ g j (l : List α), j < l.length → y ∈ hup lt g j l → y ∈ l := by
  intro g
  induction g with
  | zero => exact fun _ _ _ h => h
  | succ g ih =>
   intro j l hj hy; unfold hup at hy; split at hy
   ·exact hy
   ·split at hy
    ·exact qW (by omega) hj (ih _ _ (by rw [bg]; omega) hy)
    ·exact hy
 have := hl _ _ _ (by simp) h
 simpa using this
theorem uh {α : Type} [Inhabited α] {lt : α → α → Bool} {l : List α} {x : α} : (hpush lt l x).length = l.length + 1 := by
 unfold hpush; rw [CE]; simp
theorem Fit.take {n : Nat} {D : Day} (h : Fit n D) {i : Nat} {s : Sto} (hs : D.st[i]? = some s) (key : ByteArray) (hk : key ∈ s.ks) : Fit (n + 1) (D.takeD i s key) := by
 have h1 : Fit n (D.bz i (oU s key D.no)) := h.set (by
  obtain ⟨h1, h2, h3, h4, h5, h6, h7, h8, h9, h10, h11⟩ := h.st i s hs; exact ⟨h1, h2, h3, h4, h5, h6, h7, h8, h9, h10, h11⟩) (fun k hk2 => by
  show lw (if k = key then ⟨(s.hm key).an, D.no⟩ else s.hm k : Hld).an
  split
  ·exact h.an i s hs key hk
  ·exact h.an i s hs k hk2) (h.ks i s hs) (h.num.ar i s hs)
 have h2 := h1.mono (Nat.le_succ n); exact { h2 with pu := Nat.succ_le_succ h.pu, num := ⟨h1.num.qu, h1.num.ar, h1.num.wa⟩ }
theorem Fit.ask {n : Nat} {D : Day} (h : Fit n D) {i : Nat} {s : Sto} (hs : D.st[i]? = some s) (key : ByteArray) (kept : Bool) (hk : key.size ≤ 300) : Fit (n + 1) (D.mG i s key kept) := by
 have hl : (D.st.set i (Gi s D.ak.length)).length = D.st.length := List.length_set; have hal : (D.ak ++ [(⟨i, D.no, key, kept⟩ : Akn)]).length = D.ak.length + 1 := by simp
 have hil : i < D.st.length := (List.getElem?_eq_some_iff.1 hs).1; exact {
  num := {
   qu := fun e he => by
    show _ < (D.ak ++ [(⟨i, D.no, key, kept⟩ : Akn)]).length
    rw [hal]; rcases jS he with he | rfl
    ·exact Nat.lt_succ_of_lt (h.num.qu e he)
    ·exact Nat.lt_succ_self _
   ar := fun k t ht j hj => by
    show _ < (D.ak ++ [(⟨i, D.no, key, kept⟩ : Akn)]).length
    rw [hal]; rcases bI ht with ⟨rfl, rfl⟩ | ⟨hne, ht⟩
    ·rcases List.mem_append.1 hj with hj | hj
     ·exact Nat.lt_succ_of_lt (h.num.ar k s hs j hj)
     ·simp only [List.mem_singleton] at hj; omega
    ·exact Nat.lt_succ_of_lt (h.num.ar k t ht j hj)
   wa := fun j hj x hx a hxa => by
    show _ < (D.ak ++ [(⟨i, D.no, key, kept⟩ : Akn)]).length
    rw [hal]; by_cases e : j = D.ak.length
    ·subst e; have hx' : x ∈ upF D.wa D.ak.length [] D.ak.length := hx; rw [aZ] at hx'; cases hx'
    ·have hj2 : j < D.ak.length := by
      have : j < (D.ak ++ [(⟨i, D.no, key, kept⟩ : Akn)]).length := hj; rw [hal] at this; omega
     have hx' : x ∈ upF D.wa D.ak.length [] j := hx; rw [aS _ _ e] at hx'; exact Nat.lt_succ_of_lt (h.num.wa j hj2 x hx' a hxa) }
  qu := by
   show (hpush _ _ _).length ≤ _
   rw [uh]; exact Nat.succ_le_succ h.qu
  ak := by
   show (D.ak ++ [(⟨i, D.no, key, kept⟩ : Akn)]).length ≤ _
   rw [hal]; exact Nat.succ_le_succ h.ak
  wa := fun j => by
   show (upF D.wa D.ak.length [] j).length ≤ _
   unfold upF; split
   ·simp
   ·exact Nat.le_succ_of_le (h.wa j)
  pu := Nat.le_succ_of_le h.pu
  no := h.no
  st := fun k t ht => by
   rcases bI ht with ⟨rfl, rfl⟩ | ⟨hne, ht⟩
   ·obtain ⟨h1, h2, h3, h4, h5, h6, h7, h8, h9, h10, h11⟩ := h.st k s hs; unfold Gi; refine ⟨by simp; omega, ?_, ?_, ?_, ?_, ?_, ?_, h8, h9, h10, Nat.le_succ_of_le h11⟩ <;> (dsimp only; omega)
   ·exact (h.st k t ht).mono (Nat.le_succ n)
  an := fun k t ht => by
   rcases bI ht with ⟨rfl, rfl⟩ | ⟨hne, ht⟩
   ·exact h.an k s hs
   ·exact h.an k t ht
  ks := fun k t ht => by
   rcases bI ht with ⟨rfl, rfl⟩ | ⟨hne, ht⟩
   ·exact h.ks k s hs
   ·exact h.ks k t ht
  qa := fun e he => by
   rcases jS he with he | rfl
   ·exact h.qa e he
   ·exact lw.zero
  kk := fun j k hk2 => by
   show k.ca < (D.st.set i _).length ∧ _
   rw [hl]; rcases dL hk2 with ⟨e, rfl⟩ | ⟨hi, hk2⟩
   ·exact ⟨hil, hk⟩
   ·exact h.kk j k hk2
  wg := fun j hj x hx hxa => by
   by_cases e : j = D.ak.length
   ·subst e; have hx' : x ∈ upF D.wa D.ak.length [] D.ak.length := hx; rw [aZ] at hx'; cases hx'
   ·have hj2 : j < D.ak.length := by
     have : j < (D.ak ++ [(⟨i, D.no, key, kept⟩ : Akn)]).length := hj; rw [hal] at this; omega
    have hx' : x ∈ upF D.wa D.ak.length [] j := hx; rw [aS _ _ e] at hx'; exact h.wg j hj2 x hx' hxa }
def kC (D : Day) (f : Wtr) : Prop := match f.ak with
 | some j => j < D.ak.length
 | none => f.ge < D.go.length
theorem Fit.give {n : Nat} {D : Day} (h : Fit n D) {f : Wtr} (hf : kC D f) {x : Ans} (hx : lw x) : Fit (n + 1) (D.aQ f x) := by
 unfold kC at hf; unfold Day.aQ; cases ha : f.ak with
 | none =>
  have hl : ∀ y, (D.go.set f.ge y).length = D.go.length := fun y => List.length_set
  have h2 := h.mono (Nat.le_succ n); exact { h2 with
   num := ⟨h.num.qu, h.num.ar, h.num.wa⟩
   wg := fun j hj y hy hya => by
    show _ < (D.go.set f.ge _).length
    rw [hl]; exact h.wg j hj y hy hya }
 | some j =>
  rw [ha] at hf; have h2 := h.mono (Nat.le_succ n); exact { h2 with
   num := ⟨fun e he => by
    rcases jS he with he | rfl
    ·exact h.num.qu e he
    ·exact hf, h.num.ar, h.num.wa⟩
   qu := by
    show (hpush _ _ _).length ≤ _
    rw [uh]; exact Nat.succ_le_succ h.qu
   qa := fun e he => by
    rcases jS he with he | rfl
    ·exact h.qa e he
    ·exact hx }
theorem Fit.wait {n : Nat} {D : Day} (h : Fit n D) {j : Nat} {f : Wtr} (hf : kC D f) : Fit (n + 1) (D.kK j f) := by
 have h2 := h.mono (Nat.le_succ n); have key : ∀ i x, x ∈ upF D.wa j (D.wa j ++ [f]) i → x ∈ D.wa i ∨ x = f := fun i x hx => by
  unfold upF at hx; split at hx
  ·rename_i e; rw [e]
   simpa using hx
  ·exact .inl hx
 exact { h2 with
  num := ⟨h.num.qu, h.num.ar, fun i hi x hx a hxa => by
   rcases key i x hx with hx | rfl
   ·exact h.num.wa i hi x hx a hxa
   ·unfold kC at hf; rw [hxa] at hf; exact hf⟩
  wa := fun i => by
   show (upF D.wa j (D.wa j ++ [f]) i).length ≤ _
   unfold upF; split
   ·rw [List.length_append]; exact Nat.succ_le_succ (h.wa j)
   ·exact Nat.le_succ_of_le (h.wa i)
  wg := fun i hi x hx hxa => by
   rcases key i x hx with hx | rfl
   ·exact h.wg i hi x hx hxa
   ·unfold kC at hf; rw [hxa] at hf; exact hf }
theorem Fit.how {n : Nat} {D : Day} (h : Fit n D) (f : Wtr) (how : Int) : Fit n (D.dQ f how) := by
 unfold Day.dQ; cases f.ak with
 | some _ => exact h
 | none =>
  have hl : ∀ y, (D.go.set f.ge y).length = D.go.length := fun y => List.length_set
  exact { h with
   num := ⟨h.num.qu, h.num.ar, h.num.wa⟩
   wg := fun j hj y hy hya => by
    show _ < (D.go.set f.ge _).length
    rw [hl]; exact h.wg j hj y hy hya }
theorem Fit.Iq {n : Nat} {D : Day} (h : Fit n D) {i : Nat} {s : Sto} (hs : D.st[i]? = some s) :
 Fit (n + 1) (D.bz i (aj s)) ∧ Fit (n + 1) (D.bz i (dC (aj s))) ∧ Fit (n + 1) (D.bz i (bK (aj s))) ∧ Fit (n + 1) (D.bz i (nO (aj s))) := by
 obtain ⟨h1, h2, h3, h4, h5, h6, h7, h8, h9, h10, h11⟩ := h.st i s hs; have h' := h.mono (Nat.le_succ n); refine ⟨h'.set ⟨Nat.le_succ_of_le h1, ?_, ?_, ?_, ?_, ?_, ?_, h8, h9, h10, Nat.le_succ_of_le h11⟩ (h.an i s hs) (h.ks i s hs) (h.num.ar i s hs), h'.set ⟨Nat.le_succ_of_le h1, ?_, ?_, ?_, ?_, ?_, ?_, h8, h9, h10, Nat.le_succ_of_le h11⟩ (h.an i s hs) (h.ks i s hs) (h.num.ar i s hs), h'.set ⟨Nat.le_succ_of_le h1, ?_, ?_, ?_, ?_, ?_, ?_, h8, h9, h10, Nat.le_succ_of_le h11⟩ (h.an i s hs) (h.ks i s hs) (h.num.ar i s hs), h'.set ⟨Nat.le_succ_of_le h1, ?_, ?_, ?_, ?_, ?_, ?_, h8, h9, h10, Nat.le_succ_of_le h11⟩ (h.an i s hs) (h.ks i s hs) (h.num.ar i s hs)⟩ <;> (simp only [aj, dC, bK, nO]; omega)
theorem rf {D : Day} {f : Wtr} {x : Ans} : (D.aQ f x).st = D.st := by
 unfold Day.aQ; cases f.ak <;> rfl
theorem iY {D : Day} {f : Wtr} {x : Ans} : (D.aQ f x).no = D.no := by
 unfold Day.aQ; cases f.ak <;> rfl
theorem mi {D : Day} {f : Wtr} {x : Ans} : (D.aQ f x).ak = D.ak := by
 unfold Day.aQ; cases f.ak <;> rfl
theorem ET {D : Day} {f : Wtr} {x : Ans} : (D.aQ f x).wa = D.wa := by
 unfold Day.aQ; cases f.ak <;> rfl
theorem xH {D : Day} {f : Wtr} {x : Ans} : (D.aQ f x).go.length = D.go.length := by
 unfold Day.aQ; cases f.ak with
 | none => exact List.length_set
 | some j => rfl
theorem iD (D : Day) (i : Nat) (a b : Sto) : (D.bz i a).bz i b = D.bz i b := by unfold Day.bz; simp only [List.set_set]
structure Kq (D D' : Day) : Prop where
 st : D'.st = D.st
 ak : D'.ak = D.ak
 wa : D'.wa = D.wa
 no : D'.no = D.no
 go : D'.go.length = D.go.length
theorem iW (x : Ans) : ∀ (l : List Wtr) (D : Day), Kq D (l.foldl (fun D f => D.aQ f x) D)
 | [], D => ⟨rfl, rfl, rfl, rfl, rfl⟩
 | f :: l, D => by
  have h := iW x l (D.aQ f x); exact ⟨h.st.trans rf, h.ak.trans mi, h.wa.trans ET, h.no.trans iY, h.go.trans xH⟩
theorem kC.of {D D' : Day} {f : Wtr} (h : kC D f) (h1 : D'.ak.length = D.ak.length) (h2 : D'.go.length = D.go.length) : kC D' f := by
 unfold kC at *; cases hf : f.ak with
 | none => rw [hf] at h; simp only at h ⊢; omega
 | some j => rw [hf] at h; simp only at h ⊢; omega
theorem Fit.gives {x : Ans} (hx : lw x) : ∀ (l : List Wtr) (n : Nat) (D : Day), Fit n D → (∀ f, f ∈ l → kC D f) → Fit (n + l.length) (l.foldl (fun D f => D.aQ f x) D)
 | [], _, _, h, _ => h
 | f :: l, n, D, h, hf => by
  have h1 := Fit.gives hx l (n + 1) (D.aQ f x) (h.give (hf f (List.mem_cons_self ..)) hx) (fun g hg => (hf g (List.mem_cons_of_mem _ hg)).of (by rw [mi]) xH); rw [List.length_cons, show n + (l.length + 1) = n + 1 + l.length by omega]; exact h1
theorem Fit.waits {n : Nat} {D : Day} (h : Fit n D) {j : Nat} (hj : j < D.ak.length) : ∀ f, f ∈ D.wa j → kC D f := fun f hf => by
 unfold kC; cases ha : f.ak with
 | none => exact h.wg j hj f hf ha
 | some a => exact h.num.wa j hj f hf a ha
theorem Fit.done {n : Nat} {D : Day} (h : Fit n D) {i : Nat} {s : Sto} (hs : D.st[i]? = some s) (j : Nat) {x : Ans} (hx : lw x) : Fit (n + 1) (D.bz i (lg s j x.si)) := by
 obtain ⟨h1, h2, h3, h4, h5, h6, h7, h8, h9, h10, h11⟩ := h.st i s hs; have h' := h.mono (Nat.le_succ n); have hl : (s.ar.filter fun o => !decide (o = j)).length ≤ s.ar.length := List.length_filter_le _ _; have hb := hx.si; refine h'.set ⟨?_, ?_, ?_, ?_, ?_, ?_, ?_, h8, h9, h10, Nat.le_succ_of_le h11⟩ (h.an i s hs) (h.ks i s hs) (fun o ho => h.num.ar i s hs o (List.mem_filter.1 ho).1) <;> (simp only [lg]; omega)
structure OrS (w2 W : World) (b : Nat) (x : Rel) : Prop where
 bel : Below w2.heap.size w2 W
 le : w2.heap.size ≤ b
 box : BkL W b x
theorem yJ (w : World) (B : Nat) (A : Adr) (D : Day) (E : List Rel) (key : ByteArray) (h : PD w B A D) (hE : Sl w 4 zn A.d2 E) :
 Calls Tryz.prog 73 #[.pointer (some ⟨A.q, 0, none⟩), .string key] w fun e w' => e = .returned (zW (oV E key D.no)) ∧ Below w.heap.size w w' := by
 obtain ⟨w2, hw2⟩ : ∃ w2, w2 = w.alloc (.cells #[.int .i64 0, .int .i64 0, .int .i64 0, .bool false, .string ⟨#[]⟩] 95) := ⟨_, rfl⟩
 have hb2 : Below w.heap.size w w2 := by rw [hw2]; exact (LD _ w).alloc (Ls _) _
 have hbx : w2.heap[w.heap.size]? = some (.cells #[.int .i64 0, .int .i64 0, .int .i64 0, .bool false, .string ⟨#[]⟩] 95 (0, 0)) := by rw [hw2]; exact ag w _
 have hsz : w.heap.size < w2.heap.size := by rw [hw2]; simp
 have hqb := (h.below hb2).qb.2; have q2 : w2.cell? ⟨A.q, 2, none⟩ = some A.d2 := af hqb 2 rfl; have q8 : w2.cell? ⟨A.q, 8, none⟩ = some (.int .i64 D.no) := af hqb 8 rfl; have hql := LC w2 _ q8; have HV := Lr (fun (W : World) (hb : Below w2.heap.size w2 W) => qw W E A.d2 key D.no ((hE.below hb2 (Ls _)).below hb (Ls _))); have HB2 := Lr hb2; have HBQ : Hid (Below w2.heap.size w2 w2.drew) := Lr (LD _ w2).drew; have HBR := Lr ((LD w2.heap.size w2).alloc (Ls _) (.cells #[.string ⟨#[]⟩, .int .i64 0, .int .i64 0, .bool false] 77 (0, 0))).drew; have HW2 := Lr hw2; have HX : Hid (oV E key D.no = if (veO E key D.no).isSome = true then ⟨(qM E (veO E key D.no)).ti, D.no, (qM E (veO E key D.no)).si, false, ⟨#[]⟩⟩ else ⟨-1, D.no, 0, true, ⟨#[]⟩⟩) := Lr rfl; generalize oV E key D.no = X at HX ⊢; generalize qM E (veO E key D.no) = Y at HX HV; generalize (veO E key D.no).isSome = ok at HX HV; have HBX := Lr hbx; clear h hqb hE hb2 hw2 hbx
 go_enter Tryz.func73, Tryz.ntmps73
 go_upto_region 1 with (fail)
 rw [← HW2.out]
 go_cut [5, 6] (fun s5 s6 W => ∃ b, s5 = .pointer (some ⟨b, 0, none⟩) ∧ s6 = .bool ok ∧ Aside (OrS w2 W b Y))
 case first =>
  have HSS : Hid (∀ W : World, Below w2.heap.size w2 W → W.cell? ⟨A.q, 2, none⟩ = some A.d2 ∧ W.cell? ⟨A.q, 8, none⟩ = some (.int .i64 D.no)) := Lr fun W hb => ⟨(hb.cell (p := ⟨A.q, 2, none⟩) hql).trans q2, (hb.cell (p := ⟨A.q, 8, none⟩) hql).trans q8⟩
  have HBS : Hid (Below w2.heap.size w2 w2) := Lr (LD _ _); have HBT := Lr ((LD w2.heap.size w2).alloc (Ls _) (.cells #[.string ⟨#[]⟩, .int .i64 0, .int .i64 0, .bool false] 77 (0, 0))); have HRB : Hid (∀ W : World, Below (w2.alloc (.cells #[.string ⟨#[]⟩, .int .i64 0, .int .i64 0, .bool false] 77 (0, 0))).drew.heap.size (w2.alloc (.cells #[.string ⟨#[]⟩, .int .i64 0, .int .i64 0, .bool false] 77 (0, 0))).drew W → BkL W w2.heap.size default) := Lr fun W hb => (hb.block _ (by simp)).trans (ag w2 _)
  go_region_held3 (fun W => W.cell? ⟨A.q, 2, none⟩ = some A.d2 ∧ W.cell? ⟨A.q, 8, none⟩ = some (.int .i64 D.no))
   (first | exact HSS.out _ HBQ.out | exact HSS.out _ HBR.out | exact HSS.out _ HBS.out | exact HSS.out _ HBT.out | exact HSS.out _ HB3.out | exact HSS.out _ HB4.out | exact HSS.out _ HB5.out | fail)
   (first | (go_at_call 116; (with_reducible refine (HV.out _ HBQ.out).mono ?_); rintro e w3 ⟨rfl, hb3⟩; have HB3 := Lr (HBQ.out.bf hb3); have HB4 := Lr (HB3.out.alloc HB3.out.size (.cells #[.string Y.ke, .int .i64 Y.ti, .int .i64 Y.si, .bool Y.go] 77 (0, 0))); have HB5 := Lr (HB3.out.alloc HB3.out.size (.cells #[.string ⟨#[]⟩, .int .i64 0, .int .i64 0, .bool false] 77 (0, 0))); clear hb3)
          | (go_at_call 116; (with_reducible refine (HV.out _ HBR.out).mono ?_); rintro e w3 ⟨rfl, hb3⟩; have HB3 := Lr (HBR.out.bf hb3); have zb := HRB.out _ hb3; have z0 := zb.frz 0; have z1 := zb.frz 1; have z2 := zb.frz 2; have z3 := zb.frz 3; obtain ⟨y0, y1, y2, y3⟩ := zb.cells; have HZB := Lr zb; have HB4 := Lr (ed HB3.out (Ls _) (.string Y.ke) (.int .i64 Y.ti) (.int .i64 Y.si) (.bool Y.go)); have HB5 := HB4; clear hb3 zb)
          | fail)
  all_goals (go_wp2)
  all_goals go_meet
  all_goals first
   | exact ⟨_, rfl, rfl, (show Aside _ from ⟨HB4.out, HB3.out.size, ag _ _⟩)⟩
   | exact ⟨_, rfl, rfl, (show Aside _ from ⟨HB4.out, Ls _, HZB.out.set _ _ _ _⟩)⟩
 obtain ⟨b, rfl, rfl, OS⟩ := hcut; have HBW := Lr (HB2.out.trans (OS.out.bel.mono HB2.out.size)); have hbk := (OS.out.bel.block _ hsz).trans HBX.out; have e0 := af hbk 0 rfl; have e1 := af hbk 1 rfl; have e2 := af hbk 2 rfl; have e3 := af hbk 3 rfl; have e4 := af hbk 4 rfl; have f0 := cO hbk 0; have f1 := cO hbk 1; have f2 := cO hbk 2; have f3 := cO hbk 3; have f4 := cO hbk 4; have r8 := (OS.out.bel.cell (p := ⟨A.q, 8, none⟩) hql).trans q8; obtain ⟨y0, y1, y2, y3⟩ := OS.out.box.cells; clear OS hbk q2 q8 HV HBQ HBR HW2; cases ok
 case false =>
  have hX : X = ⟨-1, D.no, 0, true, ⟨#[]⟩⟩ := HX.out; subst hX
  go_upto_region 3 with (fail)
  repeat (first | go_values | go_skip | go_guarded | go_step | go_upon)
  exact bodyPost_ret (v := .agg #[.int .i64 (-1), .int .i64 D.no, .int .i64 0, .bool true, .string ⟨#[]⟩]) (by simp [results, Tryz.results73, go_sem, e0, e1, e2, e3, e4]) rfl ⟨rfl, ((((HBW.out.setCell (Ls _) _).setCell (Ls _) _).setCell (Ls _) _).setCell (Ls _) _).setCell (Ls _) _⟩
 case true =>
  have hX : X = ⟨Y.ti, D.no, Y.si, false, ⟨#[]⟩⟩ := HX.out; subst hX
  go_upto_region 4 with (fail)
  go_still_tail 9, (by kernel_rfl)
  change wpList _ _ _ _ _ wc.drew
  repeat (first | go_values | go_skip | go_guarded | go_step | go_upon)
  exact bodyPost_ret (v := .agg #[.int .i64 Y.ti, .int .i64 D.no, .int .i64 Y.si, .bool false, .string ⟨#[]⟩]) (by simp [results, Tryz.results73, go_sem, e0, e1, e2, e3, e4]) rfl ⟨rfl, ((((HBW.out.drew.setCell (Ls _) _).setCell (Ls _) _).setCell (Ls _) _).setCell (Ls _) _).setCell (Ls _) _⟩
end Go.Proofs.YtgohddfnhofjhaaGreatDoor

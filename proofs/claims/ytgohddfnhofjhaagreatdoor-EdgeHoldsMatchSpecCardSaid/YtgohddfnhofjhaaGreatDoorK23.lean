/- The reference's day: come, its parts. -/
import Derived.Test.YtgohddfnhofjhaaGreatDoorK22
import Derived.Test.YtgohddfnhofjhaaGreatDoorK14
import Derived.Test.YtgohddfnhofjhaaGreatDoorK15
import Derived.Test.YtgohddfnhofjhaaGreatDoorK01
set_option maxRecDepth 100000
set_option maxHeartbeats 4000000
namespace Go.Proofs.YtgohddfnhofjhaaGreatDoor
open Go.RowKit
abbrev Iw (x : Ans) : Value := .agg #[.int .i64 x.ve, .int .i64 x.bo, .int .i64 x.si, .string x.fr]
abbrev F9 (p : Xk × Value) : Array Value := #[.int .i64 (p.1.ca : Nat), .string p.1.ke, .int .i64 p.1.ma, .int .i64 p.1.ar, .bool p.1.cm, .bool p.1.kn, .int .i64 p.1.bk, .int .i64 p.1.go.ve, .int .i64 p.1.go.bo, .int .i64 p.1.go.si, .string p.1.go.fr, .bool p.1.dn, .bool p.1.al, p.2]
structure DX (W : World) (g o : Nat) (p : Xk × Value) : Prop where
 c0 : W.cell? ⟨g, o, none⟩ = some (.int .i64 (p.1.ca : Nat))
 c1 : W.cell? ⟨g, o + 1, none⟩ = some (.string p.1.ke)
 c2 : W.cell? ⟨g, o + 2, none⟩ = some (.int .i64 p.1.ma)
 c3 : W.cell? ⟨g, o + 3, none⟩ = some (.int .i64 p.1.ar)
 c4 : W.cell? ⟨g, o + 4, none⟩ = some (.bool p.1.cm)
 c5 : W.cell? ⟨g, o + 5, none⟩ = some (.bool p.1.kn)
 c6 : W.cell? ⟨g, o + 6, none⟩ = some (.int .i64 p.1.bk)
 c7 : W.cell? ⟨g, o + 7, none⟩ = some (.int .i64 p.1.go.ve)
 c8 : W.cell? ⟨g, o + 8, none⟩ = some (.int .i64 p.1.go.bo)
 c9 : W.cell? ⟨g, o + 9, none⟩ = some (.int .i64 p.1.go.si)
 c10 : W.cell? ⟨g, o + 10, none⟩ = some (.string p.1.go.fr)
 c11 : W.cell? ⟨g, o + 11, none⟩ = some (.bool p.1.dn)
 c12 : W.cell? ⟨g, o + 12, none⟩ = some (.bool p.1.al)
 c13 : W.cell? ⟨g, o + 13, none⟩ = some p.2
theorem DX.below {W W' : World} {g o : Nat} {p : Xk × Value} (h : DX W g o p) (hb : Below W.heap.size W W') : DX W' g o p := by
 have hl := LC W _ h.c0; have e : ∀ i, W'.cell? ⟨g, i, none⟩ = W.cell? ⟨g, i, none⟩ := fun i => hb.cell (p := ⟨g, i, none⟩) hl
 exact ⟨(e _).trans h.c0, (e _).trans h.c1, (e _).trans h.c2, (e _).trans h.c3, (e _).trans h.c4, (e _).trans h.c5, (e _).trans h.c6, (e _).trans h.c7, (e _).trans h.c8, (e _).trans h.c9, (e _).trans h.c10, (e _).trans h.c11, (e _).trans h.c12, (e _).trans h.c13⟩
theorem DX.of {W : World} {g o : Nat} {p : Xk × Value} (h : ∀ (i : Nat) (u : Value), (lK p)[i]? = some u → W.cell? ⟨g, o + i, none⟩ = some u) : DX W g o p :=
 ⟨by have := h 0 _ rfl; simpa using this, h 1 _ rfl, h 2 _ rfl, h 3 _ rfl, h 4 _ rfl, h 5 _ rfl, h 6 _ rfl, h 7 _ rfl, h 8 _ rfl, h 9 _ rfl, h 10 _ rfl, h 11 _ rfl, h 12 _ rfl, h 13 _ rfl⟩
theorem qy (w : World) (B : Nat) (A : Rdr) (X : Xd) (h : RD w B A X) (P : List Pur) (i : Nat) (key : ByteArray) (hp : Sl w 2 xW A.d3 P) (hpb : pbI P key X.no P.length = fQ P key X.no) :
 Calls Tryz.prog 149 #[.pointer (some ⟨A.q, 0, none⟩), .int .i64 (i : Nat), .string key] w fun e w' => e = .returned (.int .i64 (numO (X.kD i key (fQ P key X.no)))) ∧ Below w.heap.size w w' := by
 have HPU := Lr (ni w B A X h P key hp); rw [hpb] at HPU; have hqb := h.qb.2; obtain ⟨so, sc, e7, hcap, hmax, -, hel⟩ := h.asks.sl bn; have q7 : w.cell? ⟨A.q, 7, none⟩ = some (.slice so A.ks.length sc) := by rw [af hqb 7 rfl, ← e7]; rfl
 have hql := LC w _ q7; unfold maxLen at hmax; have HEL : Hid (∀ (j : Nat) (p : Xk × Value), A.ks[j]? = some p → ∃ b off, so = some ⟨b, off, none⟩ ∧ DX w b (off + j * 14) p) := Lr fun j p hj => by
  obtain ⟨b, off, e, hc⟩ := hel j p hj; exact ⟨b, off, e, DX.of hc⟩
 have hka := h.ka; have HSV : Hid (∀ (j : Nat) (p : Xk × Value), A.ks[j]? = some p → ∃ a n c, p.2 = .slice a n c) := Lr fun j p hj => Own.slv bU (h.wait hj)
 generalize hL : fQ P key X.no = last at HPU; have hway : X.kD i key last = mr (fun p : Xk × Value => wyT i key last p.1) A.ks := by
  rw [Gp, hka]; generalize A.ks = l
  induction l with
  | nil => rfl
  | cons a l ih => rw [List.map_cons, mr, mr, ih]
 have HH := Lr (fun n x h1 h2 h3 => @ry _ (fun p : Xk × Value => wyT i key last p.1) A.ks n x h1 h2 h3); have HN := Lr (@nZ _ (fun p : Xk × Value => wyT i key last p.1) A.ks); rw [hway]; generalize mr (fun p : Xk × Value => wyT i key last p.1) A.ks = F at HH HN ⊢; clear hel h hqb e7 hpb hka hway hL; generalize A.ks = l at HEL HH HN HSV hcap q7 ⊢
 go_enter Tryz.func149, Tryz.ntmps149
 go_wp2_with (go_at_call 146; (with_reducible refine HPU.out.mono ?_); rintro e w2 ⟨rfl, hb2⟩; have r7 := (hb2.cell (p := ⟨A.q, 7, none⟩) hql).trans q7; have HB2 := Lr hb2; clear hb2 q7)
 go_wp2_with fail
 go_loopg [8, 9, 18] l.length (fun gg s8 s9 s18 wr => ∃ kk : Nat, kk ≤ l.length ∧ l.length - kk ≤ gg ∧ s18 = .int .i64 kk ∧ Aside (Below w.heap.size w wr) ∧ Aside (∀ (j : Nat) (y : Xk × Value), j < kk → l[j]? = some y → wyT i key last y.1 = false))
 case atStart => exact ⟨0, Nat.zero_le _, by omega, rfl, HB2.out, fun j y hj => absurd hj (Nat.not_lt_zero _)⟩
 case round =>
  obtain ⟨kk, hkk, hg, rfl, BW, AL⟩ := hrel; by_cases hlt : kk < l.length
  ·have hltz : (kk : Int) < (l.length : Int) := by omega
   obtain ⟨x, hx⟩ : ∃ x, l[kk]? = some x := ⟨_, Lu hlt⟩
   obtain ⟨b, off, rfl, hc⟩ := HEL.out kk x hx; obtain ⟨c0, c1, c2, c3, c4, c5, c6, c7, c8, c9, c10, c11, c12, c13⟩ := hc.below BW.out; have hsz := BW.out.size; have HB := Lr (BW.out.alloc hsz (.cells (F9 x) 171)); have HX := Lr hx; have HWT : Hid (wyT i key last x.1 = ((((decide (x.1.ca = i) && (x.1.ke.toList == key.toList)) && !x.1.dn) && !x.1.al) && decide (last ≤ x.1.ma))) := Lr rfl; have HNO : Hid (wyT i key last x.1 = false → ∀ (j : Nat) (y : Xk × Value), j < kk + 1 → l[j]? = some y → wyT i key last y.1 = false) := Lr fun h1 j y hj hy => by
    by_cases e : j = kk
    ·subst e; rw [HX.out] at hy; cases hy; exact h1
    ·exact AL.out j y (by omega) hy
   have HYE : Hid (wyT i key last x.1 = true → numO F = (kk : Int)) := Lr fun h1 => by rw [HH.out kk x HX.out h1 AL.out]; rfl
   generalize wyT i key last x.1 = T at HWT HNO HYE; obtain ⟨va, vn, vc, hxv⟩ := HSV.out kk x hx; obtain ⟨⟨xca, xke, xma, xar, xcm, xkn, xbk, xgo, xdn, xal, xws⟩, xv⟩ := x
   dsimp only at hxv
   subst hxv
   dsimp only at c0 c1 c2 c3 c4 c5 c6 c7 c8 c9 c10 c11 c12 c13 HWT HB
   unfold F9 at HB
   dsimp only at HB
   clear hc hx HX AL
   go_upto_region 5 with (fail)
   have step : ∀ (z : Bool), T = z → Hid (T = z) := fun _ h => Lr h
   by_cases h0 : xca = i
   ·subst h0; have h0z : ((xca : Int) == (xca : Int)) = true := by simp
    cases h1 : (xke.toList == key.toList)
    ·have hv := step false (by rw [HWT.out, h1]; simp)
     go_wp2_with fail
     go_roundg (l.length - (kk + 1))
     case measure => omega
     case rel => exact ⟨kk + 1, by omega, by omega, by go_num, HB.out, HNO.out hv.out⟩
    ·cases xdn
     ·cases xal
      ·by_cases h2 : last ≤ xma
       ·have hv := step true (by rw [HWT.out, h1, decide_eq_true h2]; simp)
        go_wp2_with fail
        go_ret
        exact ⟨by rw [HYE.out hv.out]; rfl, HB.out⟩
       ·have hv := step false (by rw [HWT.out, decide_eq_false h2]; simp)
        go_wp2_with fail
        go_roundg (l.length - (kk + 1))
        case measure => omega
        case rel => exact ⟨kk + 1, by omega, by omega, by go_num, HB.out, HNO.out hv.out⟩
      ·have hv := step false (by rw [HWT.out]; simp)
       go_wp2_with fail
       go_roundg (l.length - (kk + 1))
       case measure => omega
       case rel => exact ⟨kk + 1, by omega, by omega, by go_num, HB.out, HNO.out hv.out⟩
     ·have hv := step false (by rw [HWT.out]; simp)
      go_wp2_with fail
      go_roundg (l.length - (kk + 1))
      case measure => omega
      case rel => exact ⟨kk + 1, by omega, by omega, by go_num, HB.out, HNO.out hv.out⟩
   ·have h0z : ((xca : Int) == (i : Int)) = false := by rw [beq_eq_false_iff_ne]; omega
    have hv := step false (by rw [HWT.out, decide_eq_false h0]; simp); clear h0
    go_wp2_with fail
    go_roundg (l.length - (kk + 1))
    case measure => omega
    case rel => exact ⟨kk + 1, by omega, by omega, by go_num, HB.out, HNO.out hv.out⟩
  ·obtain rfl : kk = l.length := by omega
   have hltz : ¬ (l.length : Int) < (l.length : Int) := by omega
   have hv : Hid (numO F = -1) := Lr (by rw [HN.out fun j y hy => AL.out j y (List.getElem?_eq_some_iff.1 hy).1 hy]; rfl); have HB := Lr BW.out; clear AL HH HN
   go_wp2_with fail
   go_ret
   exact ⟨by rw [hv.out]; rfl, HB.out⟩
structure RvS (w2 W : World) (b : Nat) (x : Crl) : Prop where
 bel : Below w2.heap.size w2 W
 le : w2.heap.size ≤ b
 box : BkU W b x
theorem pY (w : World) (B : Nat) (A : Rdr) (X : Xd) (h : RD w B A X) (R : List Crl) (key : ByteArray) (a : Ans) (hr : Sl w 4 xU A.d1 R) (hR : ∀ y, y ∈ R → (0 ≤ y.li ∧ y.li ≤ 1000000000) ∧ (0 ≤ y.st ∧ y.st ≤ 1000000000) ∧ (0 ≤ y.go ∧ y.go ≤ 1000000000)) (ha : a.no = true ↔ a.ve < 0) (hb : 0 ≤ a.bo ∧ a.bo ≤ 10000000000000) (hru : (ruI R key R.length).isSome = true) :
 Calls Tryz.prog 145 #[.pointer (some ⟨A.q, 0, none⟩), .string key, Iw a] w fun e w' => e = .returned (.tuple #[.int .i64 (eG (kE R key) a false), .int .i64 (eG (kE R key) a true)]) ∧ Below w.heap.size w w' := by
 obtain ⟨w2, hw2⟩ : ∃ w2, w2 = w.alloc (.cells #[.int .i64 a.ve, .int .i64 a.bo, .int .i64 a.si, .string a.fr] 105) := ⟨_, rfl⟩
 have hb2 : Below w.heap.size w w2 := by rw [hw2]; exact (LD _ w).alloc (Ls _) _
 have hnb : w2.heap[w.heap.size]? = some (.cells #[.int .i64 a.ve, .int .i64 a.bo, .int .i64 a.si, .string a.fr] 105 (0, 0)) := by rw [hw2]; exact ag w _
 have hlt : w.heap.size < w2.heap.size := (Array.getElem?_eq_some_iff.1 hnb).1; have hqb := (h.below hb2).qb.2; have hr2 := hr.below hb2 (Ls _); have HV := Lr (fun (W : World) (hW : Below w2.heap.size w2 W) => mY W R A.d1 key (hr2.below hW (Ls _))); obtain ⟨o, ho⟩ := Option.isSome_iff_exists.1 hru; have hol := AY ho; rw [ho] at HV; have hrl : kE R key = R.getD o default := by unfold kE; rw [ho]; rfl
 obtain ⟨r, hre⟩ : ∃ r, R[o]? = some r := ⟨_, Lu hol⟩
 rw [getD_at hre] at hrl; obtain ⟨⟨b1, b2⟩, ⟨b3, b4⟩, b5, b6⟩ := hR r (List.mem_of_getElem? hre); obtain ⟨ao, cap, e1, hcap, hmax, -, hel⟩ := hr2; have q1 : w2.cell? ⟨A.q, 1, none⟩ = some (.slice ao R.length cap) := by rw [af hqb 1 rfl, ← e1]; rfl
 have hql := LC w2 _ q1; rw [e1] at HV; unfold maxLen at hmax; obtain ⟨b, off, rfl, hc⟩ := hel o r hre; have c0 : w2.cell? ⟨b, off + o * 4, none⟩ = some (.string r.pr) := by have h := hc 0 _ rfl; simpa using h
 have c1 := hc 1 _ rfl; have c2 := hc 2 _ rfl; have c3 := hc 3 _ rfl; have hl2 := LC w2 _ c1; have hoz : (o : Int) < (R.length : Int) := by omega
 have ho0 : (0 : Int) ≤ (o : Int) := by omega
 rw [show numO (some o) = (o : Int) from rfl] at HV; obtain ⟨a1, a2⟩ := hb; have HX : Hid (∀ z, eG (kE R key) a z = if a.ve < 0 then a.bo + r.go else if z = true then a.bo + r.li + r.st else a.bo + r.li) := Lr fun z => by
  rw [hrl]; unfold eG; by_cases hv : a.ve < 0
  ·rw [if_pos (ha.2 hv), if_pos hv]
  ·rw [if_neg (fun hn => hv (ha.1 hn)), if_neg hv]
 generalize eG (kE R key) a = U at HX ⊢; have HBX := Lr hnb; have HB2 := Lr hb2; have HBQ : Hid (Below w2.heap.size w2 w2.drew) := Lr (LD _ w2).drew; have HBR := Lr ((LD w2.heap.size w2).alloc (Ls _) (.cells #[.string ⟨#[]⟩, .int .i64 0, .int .i64 0, .int .i64 0] 126 (0, 0))).drew; have HW2 := Lr hw2; clear h hr hR ha hru ho hol hre hel hc hqb hnb hb2 hw2 e1 hrl
 go_enter Tryz.func145, Tryz.ntmps145
 go_upto_region 1 with (fail)
 rw [← HW2.out]
 go_cut [8] (fun s8 W => ∃ b, s8 = .pointer (some ⟨b, 0, none⟩) ∧ Aside (RvS w2 W b r))
 case first =>
  have HSS : Hid (∀ W : World, Below w2.heap.size w2 W → W.cell? ⟨A.q, 1, none⟩ = some (.slice (some ⟨b, off, none⟩) R.length cap) ∧ W.cell? ⟨b, off + o * 4, none⟩ = some (.string r.pr) ∧ W.cell? ⟨b, off + o * 4 + 1, none⟩ = some (.int .i64 r.li) ∧ W.cell? ⟨b, off + o * 4 + 2, none⟩ = some (.int .i64 r.st) ∧ W.cell? ⟨b, off + o * 4 + 3, none⟩ = some (.int .i64 r.go)) := Lr fun W hb => ⟨(hb.cell (p := ⟨A.q, 1, none⟩) hql).trans q1, (hb.cell (p := ⟨b, off + o * 4, none⟩) hl2).trans c0, (hb.cell (p := ⟨b, off + o * 4 + 1, none⟩) hl2).trans c1, (hb.cell (p := ⟨b, off + o * 4 + 2, none⟩) hl2).trans c2, (hb.cell (p := ⟨b, off + o * 4 + 3, none⟩) hl2).trans c3⟩
  have HBS : Hid (Below w2.heap.size w2 w2) := Lr (LD _ _); have HBT := Lr ((LD w2.heap.size w2).alloc (Ls _) (.cells #[.string ⟨#[]⟩, .int .i64 0, .int .i64 0, .int .i64 0] 126 (0, 0))); have HRB : Hid (∀ W : World, Below (w2.alloc (.cells #[.string ⟨#[]⟩, .int .i64 0, .int .i64 0, .int .i64 0] 126 (0, 0))).drew.heap.size (w2.alloc (.cells #[.string ⟨#[]⟩, .int .i64 0, .int .i64 0, .int .i64 0] 126 (0, 0))).drew W → BkU W w2.heap.size default) := Lr fun W hb => (hb.block _ (by simp)).trans (ag w2 _)
  go_region_held3 (fun W => W.cell? ⟨A.q, 1, none⟩ = some (.slice (some ⟨b, off, none⟩) R.length cap) ∧ W.cell? ⟨b, off + o * 4, none⟩ = some (.string r.pr) ∧ W.cell? ⟨b, off + o * 4 + 1, none⟩ = some (.int .i64 r.li) ∧ W.cell? ⟨b, off + o * 4 + 2, none⟩ = some (.int .i64 r.st) ∧ W.cell? ⟨b, off + o * 4 + 3, none⟩ = some (.int .i64 r.go))
   (first | exact HSS.out _ HBQ.out | exact HSS.out _ HBR.out | exact HSS.out _ HBS.out | exact HSS.out _ HBT.out | exact HSS.out _ HB3.out | exact HSS.out _ HB4.out | exact HSS.out _ HB5.out | fail)
   (first | (go_at_call 61; (with_reducible refine (HV.out _ HBQ.out).mono ?_); rintro e w3 ⟨rfl, hb3⟩; have HB3 := Lr (HBQ.out.bf hb3); have HB4 := Lr (HB3.out.alloc HB3.out.size (.cells #[.string r.pr, .int .i64 r.li, .int .i64 r.st, .int .i64 r.go] 126 (0, 0))); have HB5 := Lr (HB3.out.alloc HB3.out.size (.cells #[.string ⟨#[]⟩, .int .i64 0, .int .i64 0, .int .i64 0] 126 (0, 0))); clear hb3)
          | (go_at_call 61; (with_reducible refine (HV.out _ HBR.out).mono ?_); rintro e w3 ⟨rfl, hb3⟩; have HB3 := Lr (HBR.out.bf hb3); have zb := HRB.out _ hb3; have z0 := zb.frz 0; have z1 := zb.frz 1; have z2 := zb.frz 2; have z3 := zb.frz 3; obtain ⟨y0, y1, y2, y3⟩ := zb.cells; have HZB := Lr zb; have HB4 := Lr (ed HB3.out (Ls _) (.string r.pr) (.int .i64 r.li) (.int .i64 r.st) (.int .i64 r.go)); have HB5 := HB4; clear hb3 zb)
          | fail)
  all_goals (go_wp2_with fail)
  all_goals go_meet
  all_goals first
   | exact ⟨_, rfl, (show Aside _ from ⟨HB4.out, HB3.out.size, ag _ _⟩)⟩
   | exact ⟨_, rfl, (show Aside _ from ⟨HB4.out, Ls _, HZB.out.set _ _ _ _⟩)⟩
 obtain ⟨br, rfl, RS⟩ := hcut; have HBW := Lr (HB2.out.trans (RS.out.bel.mono HB2.out.size)); have hbk := (RS.out.bel.block _ hlt).trans HBX.out; have e0 : wc.cell? ⟨w.heap.size, 0, none⟩ = some (.int .i64 a.ve) := af hbk 0 rfl; have e1 : wc.cell? ⟨w.heap.size, 1, none⟩ = some (.int .i64 a.bo) := af hbk 1 rfl; obtain ⟨y0, y1, y2, y3⟩ := RS.out.box.cells; clear RS hbk q1 c0 c1 c2 c3 HV HBQ HBR HW2; by_cases hve : a.ve < 0
 ·have w1 : IntKind.i64.wrap (a.bo + r.go) = a.bo + r.go := IntWalk.i64_in _ (by omega); have h1 : Hid (U false = a.bo + r.go ∧ U true = a.bo + r.go) := Lr (by rw [HX.out, HX.out, if_pos hve, if_pos hve]; exact ⟨rfl, rfl⟩)
  go_upto_region 3 with (fail)
  go_quiet (fail)
  go_wp2_with fail
  go_ret2
  exact ⟨by rw [h1.out.1, h1.out.2]; rfl, below_drewN HBW.out _⟩
 ·have w1 : IntKind.i64.wrap (a.bo + r.li) = a.bo + r.li := IntWalk.i64_in _ (by omega); have w2' : IntKind.i64.wrap (a.bo + r.li + r.st) = a.bo + r.li + r.st := IntWalk.i64_in _ (by omega); have h1 : Hid (U false = a.bo + r.li ∧ U true = a.bo + r.li + r.st) := Lr (by rw [HX.out, HX.out, if_neg hve, if_neg hve]; exact ⟨rfl, rfl⟩)
  go_upto_region 4 with (fail)
  go_quiet (fail)
  go_wp2_with fail
  go_ret2
  exact ⟨by rw [h1.out.1, h1.out.2]; rfl, below_drewN HBW.out _⟩
structure oK (w0 : World) (B : Nat) (A : Rdr) (C : List Cch) (R : List Crl) (E : List Rel) (P : List Pur) (L : List Gt) : Prop where
 b : w0.heap.size ≤ B
 c : Sl w0 4 su A.d0 C
 r : Sl w0 4 xU A.d1 R
 e : Sl w0 4 zn A.d2 E
 p : Sl w0 2 xW A.d3 P
 l : Sl w0 3 F5 A.gt L
structure bW (A A' : Rdr) : Prop where
 q : A'.q = A.q
 d0 : A'.d0 = A.d0
 d1 : A'.d1 = A.d1
 d2 : A'.d2 = A.d2
 d3 : A'.d3 = A.d3
 gt : A'.gt = A.gt
 hh : A'.hh = A.hh
 gv : A'.gv = A.gv
 lv : A'.lv = A.lv
 x : A'.x = A.x
theorem bW.refl (A : Rdr) : bW A A := ⟨rfl, rfl, rfl, rfl, rfl, rfl, rfl, rfl, rfl, rfl⟩
theorem bW.trans {A B C : Rdr} (h : bW A B) (k : bW B C) : bW A C :=
 ⟨k.q.trans h.q, k.d0.trans h.d0, k.d1.trans h.d1, k.d2.trans h.d2, k.d3.trans h.d3, k.gt.trans h.gt, k.hh.trans h.hh, k.gv.trans h.gv, k.lv.trans h.lv, k.x.trans h.x⟩
theorem oK.le {w0 : World} {B : Nat} {A A' : Rdr} {C : List Cch} {R : List Crl} {E : List Rel} {P : List Pur} {L : List Gt} (h : oK w0 B A C R E P L) (k : bW A A') : oK w0 B A' C R E P L :=
 ⟨h.b, by rw [k.d0]; exact h.c, by rw [k.d1]; exact h.r, by rw [k.d2]; exact h.e, by rw [k.d3]; exact h.p, by rw [k.gt]; exact h.l⟩
def Ij (A A' : Rdr) : Prop := A'.ks.map Prod.snd = A.ks.map Prod.snd
theorem yZ (w : World) (B : Nat) (A : Rdr) (X : Xd) (h : RD w B A X) (C : List Cch) (ge : Nat) (ho : Int) (a : Ans) (hg : ge < X.go.length) :
 Calls Tryz.prog 102 #[.pointer (some ⟨A.q, 0, none⟩), .agg #[.int .i64 (ge : Nat), .int .i64 ho, .int .i64 (-1)], Iw a] w fun e w' => e = .returned (.tuple #[]) ∧ RD w' B A (X.aI C ⟨ge, none, ho⟩ a) ∧ Below B w w' := by
 obtain ⟨w2, hw2⟩ : ∃ w2, w2 = (w.alloc (.cells #[.int .i64 (ge : Nat), .int .i64 ho, .int .i64 (-1)] 177)).alloc (.cells #[.int .i64 a.ve, .int .i64 a.bo, .int .i64 a.si, .string a.fr] 105) := ⟨_, rfl⟩
 have hb2 : Below w.heap.size w w2 := by rw [hw2]; exact ((LD _ w).alloc (Ls _) _).alloc (by simp) _
 have hp2 := h.below hb2; have hqb := hp2.qb.2; obtain ⟨gt, hge⟩ : ∃ gt, X.go[ge]? = some gt := ⟨_, Lu hg⟩
 have hne : X.go ≠ [] := fun e => by rw [e] at hg; cases hg
 have hown := hp2.Hf; obtain ⟨g, cap, hgv, hg1, hg2, hg3, hg4, hgc, hgf⟩ := Own.gZ dH hown hne; have hgw : g < w.heap.size := by
  obtain ⟨g', cap', hgv', -, k2, -⟩ := Own.gZ dH h.Hf hne; rw [hgv] at hgv'; simp only [Value.slice.injEq, Option.some.injEq, Addr.mk.injEq, and_true] at hgv'
  obtain ⟨rfl, -, -⟩ := hgv'; exact k2
 have hgq : ¬ A.q = g := fun e => h.Ew.2.2.1 _ _ _ hgv (by show g = A.q; exact e.symm)
 have hgn : ¬ w.heap.size = g := by omega
 have hgm : ¬ w.heap.size + 1 = g := by omega
 have q9 : w2.cell? ⟨A.q, 9, none⟩ = some (.slice (some ⟨g, 0, none⟩) X.go.length cap) := by rw [af hqb 9 rfl, ← hgv]; rfl
 have q11 : w2.cell? ⟨A.q, 11, none⟩ = some (.int .i64 X.no) := af hqb 11 rfl; have hiz : (ge : Int) < (X.go.length : Int) := by omega
 have hi0 : (0 : Int) ≤ (ge : Int) := by omega
 have hN0 : w2.heap[w.heap.size]? = some (.cells #[.int .i64 (ge : Nat), .int .i64 ho, .int .i64 (-1)] 177 (0, 0)) := by
  rw [hw2, Below.heap_alloc _ _ _ (by simp)]; exact ag w _
 have hN1 : w2.heap[w.heap.size + 1]? = some (.cells #[.int .i64 a.ve, .int .i64 a.bo, .int .i64 a.si, .string a.fr] 105 (0, 0)) := by
  have h0 := ag (w.alloc (.cells #[.int .i64 (ge : Nat), .int .i64 ho, .int .i64 (-1)] 177)) (.cells #[.int .i64 a.ve, .int .i64 a.bo, .int .i64 a.si, .string a.fr] 105 (0, 0)); rw [hw2]
  simpa using h0
 have n0 : w2.cell? ⟨w.heap.size, 0, none⟩ = some (.int .i64 (ge : Nat)) := af hN0 0 rfl; have n1 : w2.cell? ⟨w.heap.size, 1, none⟩ = some (.int .i64 ho) := af hN0 1 rfl; have x0 : w2.cell? ⟨w.heap.size + 1, 0, none⟩ = some (.int .i64 a.ve) := af hN1 0 rfl; have x1 : w2.cell? ⟨w.heap.size + 1, 1, none⟩ = some (.int .i64 a.bo) := af hN1 1 rfl; have x3 : w2.cell? ⟨w.heap.size + 1, 3, none⟩ = some (.string a.fr) := af hN1 3 rfl; have g0 : w2.cell? ⟨g, ge * 5, none⟩ = some (.int .i64 gt.ti) := by have h := hgc ge gt 0 _ hge rfl; simpa using h
 have g1 : w2.cell? ⟨g, ge * 5 + 1, none⟩ = some (.int .i64 gt.ve) := hgc ge gt 1 _ hge rfl; have g2 : w2.cell? ⟨g, ge * 5 + 2, none⟩ = some (.int .i64 gt.bo) := hgc ge gt 2 _ hge rfl; have g3 : w2.cell? ⟨g, ge * 5 + 3, none⟩ = some (.string gt.fr) := hgc ge gt 3 _ hge rfl; have g4 : w2.cell? ⟨g, ge * 5 + 4, none⟩ = some (.int .i64 gt.ho) := hgc ge gt 4 _ hge rfl; have f0 := hgf (ge * 5); have f1 := hgf (ge * 5 + 1); have f2 := hgf (ge * 5 + 2); have f3 := hgf (ge * 5 + 3); have f4 := hgf (ge * 5 + 4); have HPD := Lr hp2; have HOW := Lr hown; have HB2 := Lr (hb2.mono h.base); have HW2 := Lr hw2; have HGE := Lr hge; clear hw2 hb2 h hp2 hqb hgc hgf hN0 hN1 hown hge
 go_enter Tryz.func102, Tryz.ntmps102
 go_upto_region 1 with (fail)
 rw [← HW2.out]
 go_upto_region 2 with (fail)
 go_still_tail 20, (by kernel_rfl)
 change wpList _ _ _ _ _ w2.drew
 go_wp2_with fail
 have hon : Onl g w2 (((((w2.setCell ⟨g, ge * 5, none⟩ (.int .i64 X.no)).setCell ⟨g, ge * 5 + 1, none⟩ (.int .i64 a.ve)).setCell ⟨g, ge * 5 + 2, none⟩ (.int .i64 a.bo)).setCell ⟨g, ge * 5 + 3, none⟩ (.string a.fr)).setCell ⟨g, ge * 5 + 4, none⟩ (.int .i64 ho)).drew :=
  ((((((Onl.set g _ _ _).trans (Onl.set g _ _ _)).trans (Onl.set g _ _ _)).trans (Onl.set g _ _ _)).trans (Onl.set g _ _ _)).trans (Onl.of_below ((LD _ _).drew)))
 have st : ∀ {W : World} {l : List Gtn} {y : Gtn} (k : Nat) (u : Value) (z : Gtn), Own W B 35 5 jF (.slice (some ⟨g, 0, none⟩) X.go.length cap) l → X.go.length = l.length → l[ge]? = some y → k < 5 → jF z = (jF y).set k u →
  Own (W.setCell ⟨g, ge * 5 + k, none⟩ u) B 35 5 jF (.slice (some ⟨g, 0, none⟩) X.go.length cap) (l.set ge z) ∧ X.go.length = (l.set ge z).length ∧ (l.set ge z)[ge]? = some z := fun {W l y} k u z h hn hi hj he =>
  ⟨Own.store dH h hn hi hj he, by rw [List.length_set]; exact hn, by rw [List.getElem?_set_self (List.getElem?_eq_some_iff.1 hi).1]⟩
 have ho' := HOW.out; rw [hgv] at ho'; obtain ⟨p0, e0, i0⟩ := st 0 (.int .i64 X.no) { gt with ti := X.no } ho' rfl HGE.out (by decide) rfl; obtain ⟨p1, e1, i1⟩ := st 1 (.int .i64 a.ve) { gt with ti := X.no, ve := a.ve } p0 e0 i0 (by decide) rfl; obtain ⟨p2, e2, i2⟩ := st 2 (.int .i64 a.bo) { gt with ti := X.no, ve := a.ve, bo := a.bo } p1 e1 i1 (by decide) rfl; obtain ⟨p3, e3, i3⟩ := st 3 (.string a.fr) { gt with ti := X.no, ve := a.ve, bo := a.bo, fr := a.fr } p2 e2 i2 (by decide) rfl; obtain ⟨p4, -, -⟩ := st 4 (.int .i64 ho) ⟨X.no, a.ve, a.bo, a.fr, ho⟩ p3 e3 i3 (by decide) rfl; simp only [List.set_set] at p4
 go_wp2_with fail
 ((try simp only [Exit.inBlock, Exit.then]); refine bodyPost_ret (results_none rfl _ _ _) rfl ?_)
 refine ⟨rfl, HPD.out.Ej hgv (by rw [hgv]; exact p4.drewN 1) hon, HB2.out.trans (hon.dK HPD.out.base hg1)⟩
theorem bW.ks (A : Rdr) (k : List (Xk × Value)) : bW A { A with ks := k } := ⟨rfl, rfl, rfl, rfl, rfl, rfl, rfl, rfl, rfl, rfl⟩
theorem kY (w0 w : World) (B : Nat) (A : Rdr) (X : Xd) (h : RD w B A X) (C : List Cch) (R : List Crl) (E : List Rel) (P : List Pur) (L : List Gt) (hE : oK w0 B A C R E P L) (hw : Below w0.heap.size w0 w) (j : Nat) (ge : Nat) (ho ho' : Int) (a : Ans) (hj : j < X.ak.length) (hca : (X.K j).ca < C.length) (hno : 0 ≤ X.no ∧ X.no ≤ 1000000000000000) (hde : 0 ≤ deO C (X.K j).ca ∧ deO C (X.K j).ca ≤ 1000000) :
 Calls Tryz.prog 102 #[.pointer (some ⟨A.q, 0, none⟩), .agg #[.int .i64 (-1), .int .i64 ho, .int .i64 (j : Nat)], Iw a] w fun e w' => ∃ A', e = .returned (.tuple #[]) ∧ RD w' B A' (X.aI C ⟨ge, some j, ho'⟩ a) ∧ bW A A' ∧ Ij A A' ∧ A'.hs = A.hs ∧ Below B w w' := by
 obtain ⟨w2, hw2⟩ : ∃ w2, w2 = (w.alloc (.cells #[.int .i64 (-1), .int .i64 ho, .int .i64 (j : Nat)] 177)).alloc (.cells #[.int .i64 a.ve, .int .i64 a.bo, .int .i64 a.si, .string a.fr] 105) := ⟨_, rfl⟩
 have hb2 : Below w.heap.size w w2 := by rw [hw2]; exact ((LD _ w).alloc (Ls _) _).alloc (by simp) _
 have hp2 := h.below hb2; have hqb := hp2.qb.2; obtain ⟨v, hjk⟩ := hp2.at_ hj; obtain ⟨k, hk⟩ : ∃ k, k = X.K j := ⟨_, rfl⟩
 rw [← hk] at hjk hca hde; have hne : A.ks ≠ [] := fun e => by rw [e] at hjk; cases hjk
 have hown := hp2.asks; obtain ⟨g, cap, hgv, hg1, hg2, hg3, hg4, hgc, hgf⟩ := Own.gZ bn hown hne; have hgw : g < w.heap.size := by
  obtain ⟨g', cap', hgv', -, k2, -⟩ := Own.gZ bn h.asks hne; rw [hgv] at hgv'; simp only [Value.slice.injEq, Option.some.injEq, Addr.mk.injEq, and_true] at hgv'
  obtain ⟨rfl, -, -⟩ := hgv'; exact k2
 have hgq : ¬ A.q = g := fun e => h.Ew.1 _ _ _ hgv (by show g = A.q; exact e.symm)
 have hgn : ¬ w.heap.size = g := by omega
 have hgm : ¬ w.heap.size + 1 = g := by omega
 have hal : A.ks.length = X.ak.length := h.akl; have q7 : w2.cell? ⟨A.q, 7, none⟩ = some (.slice (some ⟨g, 0, none⟩) A.ks.length cap) := by rw [af hqb 7 rfl, ← hgv]; rfl
 have q11 : w2.cell? ⟨A.q, 11, none⟩ = some (.int .i64 X.no) := af hqb 11 rfl; have hjz : (j : Int) < (A.ks.length : Int) := by omega
 have hj0 : (0 : Int) ≤ (j : Int) := by omega
 obtain ⟨co, cc, e0, hcc, hcm, -, hcel⟩ := hE.c; have q0 : w2.cell? ⟨A.q, 0, none⟩ = some (.slice co C.length cc) := by rw [af hqb 0 rfl, ← e0]; rfl
 obtain ⟨c, hce⟩ : ∃ c, C[k.ca]? = some c := ⟨_, Lu hca⟩
 obtain ⟨cb, coff, rfl, hcc2⟩ := hcel k.ca c hce; have hcl := LC w0 _ (hcc2 2 _ rfl); have d2 : w2.cell? ⟨cb, coff + k.ca * 4 + 2, none⟩ = some (.int .i64 c.de) := ((hw.bf hb2).cell (p := ⟨cb, coff + k.ca * 4 + 2, none⟩) hcl).trans (hcc2 2 _ rfl); have hcg : ¬ cb = g := fun e => by have h1 := hE.b; subst e; exact absurd (Nat.lt_of_lt_of_le hcl h1) (Nat.not_lt.2 hg1)
 have hcz : (k.ca : Int) < (C.length : Int) := by omega
 have hc0 : (0 : Int) ≤ (k.ca : Int) := by omega
 have hdk : deO C k.ca = c.de := by unfold deO; rw [getD_at hce]
 rw [hdk] at hde; have hN0 : w2.heap[w.heap.size]? = some (.cells #[.int .i64 (-1), .int .i64 ho, .int .i64 (j : Nat)] 177 (0, 0)) := by
  rw [hw2, Below.heap_alloc _ _ _ (by simp)]; exact ag w _
 have hN1 : w2.heap[w.heap.size + 1]? = some (.cells #[.int .i64 a.ve, .int .i64 a.bo, .int .i64 a.si, .string a.fr] 105 (0, 0)) := by
  have h0 := ag (w.alloc (.cells #[.int .i64 (-1), .int .i64 ho, .int .i64 (j : Nat)] 177)) (.cells #[.int .i64 a.ve, .int .i64 a.bo, .int .i64 a.si, .string a.fr] 105 (0, 0)); rw [hw2]
  simpa using h0
 have n0 : w2.cell? ⟨w.heap.size, 0, none⟩ = some (.int .i64 (-1)) := af hN0 0 rfl; have n2 : w2.cell? ⟨w.heap.size, 2, none⟩ = some (.int .i64 (j : Nat)) := af hN0 2 rfl; have x0 : w2.cell? ⟨w.heap.size + 1, 0, none⟩ = some (.int .i64 a.ve) := af hN1 0 rfl; have x1 : w2.cell? ⟨w.heap.size + 1, 1, none⟩ = some (.int .i64 a.bo) := af hN1 1 rfl; have x2 : w2.cell? ⟨w.heap.size + 1, 2, none⟩ = some (.int .i64 a.si) := af hN1 2 rfl; have x3 : w2.cell? ⟨w.heap.size + 1, 3, none⟩ = some (.string a.fr) := af hN1 3 rfl; have k0 : w2.cell? ⟨g, j * 14, none⟩ = some (.int .i64 (k.ca : Nat)) := by have h := hgc j (k, v) 0 _ hjk rfl; simpa using h
 have k5 : w2.cell? ⟨g, j * 14 + 5, none⟩ = some (.bool k.kn) := hgc j (k, v) 5 _ hjk rfl; have k6 : w2.cell? ⟨g, j * 14 + 6, none⟩ = some (.int .i64 k.bk) := hgc j (k, v) 6 _ hjk rfl; have k7 : w2.cell? ⟨g, j * 14 + 7, none⟩ = some (.int .i64 k.go.ve) := hgc j (k, v) 7 _ hjk rfl; have k8 : w2.cell? ⟨g, j * 14 + 8, none⟩ = some (.int .i64 k.go.bo) := hgc j (k, v) 8 _ hjk rfl; have k9 : w2.cell? ⟨g, j * 14 + 9, none⟩ = some (.int .i64 k.go.si) := hgc j (k, v) 9 _ hjk rfl; have k10 : w2.cell? ⟨g, j * 14 + 10, none⟩ = some (.string k.go.fr) := hgc j (k, v) 10 _ hjk rfl; have f5 := hgf (j * 14 + 5); have f6 := hgf (j * 14 + 6); have f7 := hgf (j * 14 + 7); have f8 := hgf (j * 14 + 8); have f9 := hgf (j * 14 + 9); have f10 := hgf (j * 14 + 10); have hwn : IntKind.i64.wrap (X.no + c.de) = X.no + c.de := IntWalk.i64_in _ (by omega); have HPD := Lr hp2; have HOW := Lr hown; have HB2 := Lr (hb2.mono h.base); have HW2 := Lr hw2; have HJK := Lr hjk; have HKK := Lr hk; have HDK := Lr hdk; clear hw2 hb2 h hp2 hqb hgc hgf hN0 hN1 hown hjk hk hE hcel hcc2 hce e0 hdk
 go_enter Tryz.func102, Tryz.ntmps102
 go_upto_region 1 with (fail)
 rw [← HW2.out]
 go_upto_region 3 with (fail)
 go_quiet (fail)
 go_upto_region 4 with (fail)
 go_big_region
 have hb3 : Below w2.heap.size w2 (w2.drewN (nq + 1)) := below_drewN (LD _ w2) _; have hon : Onl g w2 ((((((((w2.drewN (nq + 1)).setCell ⟨g, j * 14 + 5, none⟩ (.bool true)).setCell ⟨g, j * 14 + 7, none⟩ (.int .i64 a.ve)).setCell ⟨g, j * 14 + 8, none⟩ (.int .i64 a.bo)).setCell ⟨g, j * 14 + 9, none⟩ (.int .i64 a.si)).setCell ⟨g, j * 14 + 10, none⟩ (.string a.fr)).setCell ⟨g, j * 14 + 6, none⟩ (.int .i64 (X.no + c.de)))) :=
  ((((((Onl.of_below hb3).trans (Onl.set g _ _ _)).trans (Onl.set g _ _ _)).trans (Onl.set g _ _ _)).trans (Onl.set g _ _ _)).trans (Onl.set g _ _ _)).trans (Onl.set g _ _ _)
 have st : ∀ {W : World} {l : List (Xk × Value)} {y : Xk × Value} (k : Nat) (u : Value) (z : Xk × Value), Own W B 171 14 lK (.slice (some ⟨g, 0, none⟩) A.ks.length cap) l → A.ks.length = l.length → l[j]? = some y → k < 14 → lK z = (lK y).set k u →
  Own (W.setCell ⟨g, j * 14 + k, none⟩ u) B 171 14 lK (.slice (some ⟨g, 0, none⟩) A.ks.length cap) (l.set j z) ∧ A.ks.length = (l.set j z).length ∧ (l.set j z)[j]? = some z := fun {W l y} k u z h hn hi hj he =>
  ⟨Own.store bn h hn hi hj he, by rw [List.length_set]; exact hn, by rw [List.getElem?_set_self (List.getElem?_eq_some_iff.1 hi).1]⟩
 have ho1 := HOW.out; rw [hgv] at ho1; have ho2 : Own (w2.drewN (nq + 1)) B 171 14 lK (.slice (some ⟨g, 0, none⟩) A.ks.length cap) A.ks := ho1.drewN _; obtain ⟨p0, e0, i0⟩ := st 5 (.bool true) ({ k with kn := true }, v) ho2 rfl HJK.out (by decide) rfl; obtain ⟨p1, e1, i1⟩ := st 7 (.int .i64 a.ve) ({ k with kn := true, go := { k.go with ve := a.ve } }, v) p0 e0 i0 (by decide) rfl; obtain ⟨p2, e2, i2⟩ := st 8 (.int .i64 a.bo) ({ k with kn := true, go := { k.go with ve := a.ve, bo := a.bo } }, v) p1 e1 i1 (by decide) rfl; obtain ⟨p3, e3, i3⟩ := st 9 (.int .i64 a.si) ({ k with kn := true, go := { k.go with ve := a.ve, bo := a.bo, si := a.si } }, v) p2 e2 i2 (by decide) rfl; obtain ⟨p4, e4, i4⟩ := st 10 (.string a.fr) ({ k with kn := true, go := a }, v) p3 e3 i3 (by decide) rfl; obtain ⟨p5, -, -⟩ := st 6 (.int .i64 (X.no + c.de)) ({ k with kn := true, go := a, bk := X.no + c.de }, v) p4 e4 i4 (by decide) rfl; simp only [List.set_set] at p5
 go_wp2_with fail
 go_end0
 have hR := HPD.out.uB (k' := { k with kn := true, go := a, bk := X.no + c.de }) hgv HJK.out rfl (by rw [hgv]; exact p5) hon; refine ⟨rfl, { A with ks := A.ks.set j ({ k with kn := true, go := a, bk := X.no + c.de }, v) }, ?_, bW.ks A _, ?_, rfl, HB2.out.trans (hon.dK HPD.out.base hg1)⟩
 ·have e : X.aI C ⟨ge, some j, ho'⟩ a = X.bT j { k with kn := true, go := a, bk := X.no + c.de } := by
   show X.bT j { X.K j with kn := true, go := a, bk := X.no + deO C (X.K j).ca } = _
   rw [← HKK.out, HDK.out]
  rw [e]; exact hR
 ·show (A.ks.set j _).map Prod.snd = _
  exact dN HJK.out rfl
theorem JS : (Tryz.prog.info? 171).map (fun i => (i.zero, i.size, i.bytes)) = some (some (.agg #[.int .i64 0, .string ⟨#[]⟩, .int .i64 0, .int .i64 0, .bool false, .bool false, .int .i64 0, .int .i64 0, .int .i64 0, .int .i64 0, .string ⟨#[]⟩, .bool false, .bool false, .slice none 0 0]), 14, 128) := by kernel_rfl
theorem slK : SlT Tryz.prog 85 171 14 128 := by
 obtain ⟨i0, hi, hz0, hz1, hz2⟩ := info_parts JS; exact ⟨i0, _, Tryz.underlying85, hi, hz0, hz1, hz2, rfl, by decide, by decide⟩
def NewW (A : Rdr) (xs : List (Nat × Obj)) (vw : Value) (ws : List Xw) : Prop := (vw = .slice none 0 0 ∧ ws = [] ∧ A.x = xs) ∨ ∃ bv wt, vw = .slice (some ⟨bv, 0, none⟩) 1 1 ∧ ws = [wt] ∧ A.x = xs ++ [(bv, .cells (oM wt).toArray 177 (0, 0))]
section
variable {W W' : World} {B : Nat} {A : Rdr} {X : Xd}
theorem RD.JH (h : RD W B A X) {xs : List (Nat × Obj)} {k : Xk} {vw v' : Value} (hv : NewW A xs vw k.ws) (hown : Own W' B 171 14 lK v' (A.ks ++ [(k, vw)])) (hk : dm W W' A.kv v') (hs : W.heap.size ≤ W'.heap.size) :
 RD (W'.setCell ⟨A.q, 7, none⟩ v') B { A with kv := v', ks := A.ks ++ [(k, vw)], x := xs } { X with ak := X.ak ++ [k] } := by
 obtain ⟨M, h1, h2⟩ := h; obtain ⟨n, hn⟩ : ∃ n, n = A.ks.length := ⟨_, rfl⟩
 obtain ⟨M1, hM1, hwa, hoth, hxs⟩ : ∃ M1, Mm W B M1 ∧ bV (M1 (6 + 3 * n)) 177 3 oM vw k.ws ∧ (∀ r, r ≠ 6 + 3 * n → r ≠ 7 + 3 * xs.length → M1 r = M r) ∧ (∀ (i b : Nat) (o : Obj), xs[i]? = some (b, o) → A.x[i]? = some (b, o)) := by
  rcases hv with ⟨rfl, hw, hx⟩ | ⟨bv, wt, rfl, hw, hx⟩
  ·refine ⟨upM M (6 + 3 * n) none, h1.drop (Ls _) fun _ _ _ _ _ => rfl, ?_, fun r hr _ => ae _ _ hr, fun i b o hi => by rw [hx]; exact hi⟩; rw [au, hw]; exact .inl ⟨rfl, rfl, rfl⟩
  ·have hf := h2.fx xs.length bv (.cells (oM wt).toArray 177 (0, 0)) (by rw [hx]; simp); have hd : Mm W B (upM M (7 + 3 * xs.length) none) := h1.drop (Ls _) fun _ _ _ _ _ => rfl
   have hp := hd.put (W' := W) (Ls _) (r := 6 + 3 * n) (b' := bv) (o' := .cells (oM wt).toArray 177 (0, 0)) (h1.at_ _ _ _ hf).1 (h1.at_ _ _ _ hf).2 (fun q b o hq hb => ⟨rfl, fun e => by
    by_cases e2 : q = 7 + 3 * xs.length
    ·rw [e2, au] at hb; cases hb
    ·rw [ae _ _ e2] at hb; subst e; exact e2 (h1.inj _ _ _ _ _ hb hf)⟩)
   refine ⟨_, hp, ?_, fun r hr hr2 => by rw [ae _ _ hr, ae _ _ hr2], fun i b o hi => by rw [hx, List.getElem?_append_left (List.getElem?_eq_some_iff.1 hi).1]; exact hi⟩; rw [au, hw]; exact .inr ⟨bv, 1, (oM wt).toArray, rfl, rfl, by simp, by simp [maxLen], rfl, rfl⟩
 have hak : bV (M1 1) 171 14 lK A.kv A.ks := by rw [hoth 1 (by omega) (by omega)]; exact h2.ak
 obtain ⟨y, h5, h6⟩ := hM1.grow (r := 1) hak hown hs hk; have h7 := h6.set (r := 0) (b := A.q) (cs := ku A X) (T := 88) (by rw [ae _ _ (by omega), hoth 0 (by omega) (by omega)]; exact h2.wl) 7 v'; refine ⟨_, h7, ?_⟩; exact {
  wl := by rw [au]; rfl
  ak := by rw [ae _ _ (by omega), au]; exact h5
  hs := by rw [ae _ _ (by omega), ae _ _ (by omega), hoth _ (by omega) (by omega)]; exact h2.hs
  go := by rw [ae _ _ (by omega), ae _ _ (by omega), hoth _ (by omega) (by omega)]; exact h2.go
  ld := by rw [ae _ _ (by omega), ae _ _ (by omega), hoth _ (by omega) (by omega)]; exact h2.ld
  he := fun i v hv => by rw [ae _ _ (by omega), ae _ _ (by omega), hoth _ (by omega) (by omega)]; exact h2.he i v hv
  wa := fun i t ht => by
   rw [ae _ _ (by omega), ae _ _ (by omega)]; rcases dL ht with ⟨rfl, rfl⟩ | ⟨hi, ht⟩
   ·rw [← hn]; exact hwa
   ·rw [hoth _ (by omega) (by omega)]; exact h2.wa i t ht
  fx := fun i b p hx => by
   have hil := (List.getElem?_eq_some_iff.1 hx).1; have hil : i < xs.length := hil; rw [ae _ _ (by omega), ae _ _ (by omega), hoth _ (by omega) (by omega)]; exact h2.fx i b p (hxs i b p hx)
  ka := by
   show X.ak ++ [k] = (A.ks ++ [(k, vw)]).map Prod.fst
   rw [List.map_append, h2.ka]; rfl
  hl := h2.hl }
end
theorem KC {w : World} {q cb o : Nat} {v a b c : Value} (hne : cb ≠ q) (h1 : w.cell? ⟨q, 11, none⟩ = some a) (h2 : w.cell? ⟨q, 0, none⟩ = some b) (h3 : w.cell? ⟨cb, o, none⟩ = some c) : (w.setCell ⟨q, 7, none⟩ v).cell? ⟨q, 11, none⟩ = some a ∧ (w.setCell ⟨q, 7, none⟩ v).cell? ⟨q, 0, none⟩ = some b ∧ (w.setCell ⟨q, 7, none⟩ v).cell? ⟨cb, o, none⟩ = some c :=
 ⟨(World.cell?_setCell_other w _ _ v (by simp)).trans h1, (World.cell?_setCell_other w _ _ v (by simp)).trans h2, (World.cell?_setCell_other w _ _ v (by intro e; cases e; exact hne rfl)).trans h3⟩
set_option linter.unusedSimpArgs false in
theorem pJ (w0 w : World) (B : Nat) (A : Rdr) (X : Xd) (h : RD w B A X) (C : List Cch) (R : List Crl) (E : List Rel) (P : List Pur) (L : List Gt) (hE : oK w0 B A C R E P L) (hw : Below w0.heap.size w0 w) (i : Nat) (key : ByteArray) (al : Bool) (va : Option Addr) (vn vc : Nat) (ws : List Xw) (xs : List (Nat × Obj)) (hv : NewW A xs (.slice va vn vc) ws)
 (hi : i < C.length) (hil : i < X.ld.length) (hno : 0 ≤ X.no ∧ X.no ≤ 1000000000000000) (hde : 0 ≤ deO C i ∧ deO C i ≤ 1000000) (hld : 0 ≤ (X.Ld i).ak ∧ (X.Ld i).ak ≤ 1000000000000000) (hal : X.ak.length ≤ 900000) :
 Calls Tryz.prog 148 #[.pointer (some ⟨A.q, 0, none⟩), .int .i64 (i : Nat), .string key, .bool al, .slice va vn vc] w fun e w' => ∃ A', e = .returned (.tuple #[]) ∧ RD w' B A' (X.aA C i key al ws) ∧ bW { A with x := xs } A' ∧ A'.hs = A.hs ∧ Below B w w' := by
 have hqb := h.qb.2; obtain ⟨ld, hlk⟩ : ∃ ld, ld = X.Ld i := ⟨_, rfl⟩
 have hle : X.ld[i]? = some ld := by rw [hlk]; unfold Xd.Ld; rw [getD_at (Lu hil)]; exact Lu _
 rw [← hlk] at hld; have hne : X.ld ≠ [] := fun e => by rw [e] at hil; cases hil
 obtain ⟨g, cap, hgv, hg1, hg2, hg3, hg4, hgc, hgf⟩ := Own.gZ fZ h.lds hne; have hgq : ¬ A.q = g := fun e => h.Ew.2.2.2 _ _ _ hgv (by show g = A.q; exact e.symm)
 have q10 : w.cell? ⟨A.q, 10, none⟩ = some (.slice (some ⟨g, 0, none⟩) X.ld.length cap) := by rw [af hqb 10 rfl, ← hgv]; rfl
 have l4 : w.cell? ⟨g, i * 6 + 4, none⟩ = some (.int .i64 ld.ak) := hgc i ld 4 _ hle rfl; have f4 := hgf (i * 6 + 4); have hilz : (i : Int) < (X.ld.length : Int) := by omega
 have hwl : IntKind.i64.wrap (ld.ak + 1) = ld.ak + 1 := IntWalk.i64_in _ (by omega); obtain ⟨w1, hw1⟩ : ∃ w1, w1 = w.setCell ⟨g, i * 6 + 4, none⟩ (.int .i64 (ld.ak + 1)) := ⟨_, rfl⟩
 have hon : Onl g w w1 := by rw [hw1]; exact Onl.set g w _ _
 have ho1 : Own w1 B 50 6 lL A.lv (X.ld.set i (BZ ld)) := by
  have h1 := h.lds; rw [hgv] at h1 ⊢; rw [hw1]; exact Own.store fZ h1 rfl hle (by decide) rfl
 have hp1 := h.II hgv ho1 hon; have eX : ({ X with ld := X.ld.set i (BZ ld) } : Xd) = X.aO i BZ := by rw [hlk]; rfl
 rw [eX] at hp1; have hb1 : Below B w w1 := hon.dK h.base hg1; have hqb1 := hp1.qb.2; have hqlt : A.q < w1.heap.size := (Array.getElem?_eq_some_iff.1 hqb1).1; have q7 : w1.cell? ⟨A.q, 7, none⟩ = some A.kv := af hqb1 7 rfl; have q11 : w1.cell? ⟨A.q, 11, none⟩ = some (.int .i64 X.no) := af hqb1 11 rfl; obtain ⟨co, cc, e0, hcc, hcm, -, hcel⟩ := hE.c; have q0 : w1.cell? ⟨A.q, 0, none⟩ = some (.slice co C.length cc) := by rw [af hqb1 0 rfl, ← e0]; rfl
 obtain ⟨c, hce⟩ : ∃ c, C[i]? = some c := ⟨_, Lu hi⟩
 obtain ⟨cb, coff, rfl, hcc2⟩ := hcel i c hce; have hcl := LC w0 _ (hcc2 2 _ rfl); have hwb : Below w0.heap.size w0 w1 := hw.trans (hb1.mono hE.b); have d2 : w1.cell? ⟨cb, coff + i * 4 + 2, none⟩ = some (.int .i64 c.de) := (hwb.cell (p := ⟨cb, coff + i * 4 + 2, none⟩) hcl).trans (hcc2 2 _ rfl); have hcz : (i : Int) < (C.length : Int) := by omega
 have hdk : deO C i = c.de := by unfold deO; rw [getD_at hce]
 rw [hdk] at hde; have hwn : IntKind.i64.wrap (X.no + c.de) = X.no + c.de := IntWalk.i64_in _ (by omega); obtain ⟨k, hk⟩ : ∃ k : Xk, k = ⟨i, key, X.no, X.no + c.de, false, false, 0, default, false, al, ws⟩ := ⟨_, rfl⟩
 have hE0 : (lK (k, .slice va vn vc)) = [.int .i64 (i : Nat), .string key, .int .i64 X.no, .int .i64 (X.no + c.de), .bool false, .bool false, .int .i64 0, .int .i64 0, .int .i64 0, .int .i64 0, .string ⟨#[]⟩, .bool false, .bool al, .slice va vn vc] := by rw [hk]; rfl
 have hO1 := hp1.asks; obtain ⟨ka, kn, kc, hkv⟩ := Own.slv bn hO1; have hoff := hp1.Ew.1; have hkl : A.ks.length ≤ 900000 := by rw [h.akl]; exact hal
 rw [hkv] at q7 hO1 hoff; have HO1 : Hid (Own (w1.alloc (.cells #[.int .i64 (i : Nat), .string key, .int .i64 X.no, .int .i64 (X.no + c.de), .bool false, .bool false, .int .i64 0, .int .i64 0, .int .i64 0, .int .i64 0, .string ⟨#[]⟩, .bool false, .bool al, .slice va vn vc] 171)) B 171 14 lK (.slice ka kn kc) A.ks) := Lr (hO1.al _); have HV1 : Hid ((w1.alloc (.cells #[.int .i64 (i : Nat), .string key, .int .i64 X.no, .int .i64 (X.no + c.de), .bool false, .bool false, .int .i64 0, .int .i64 0, .int .i64 0, .int .i64 0, .string ⟨#[]⟩, .bool false, .bool al, .slice va vn vc] 171)).heap[w1.heap.size]? = some (.cells (lK (k, .slice va vn vc)).toArray 171 (0, 0))) := Lr (by rw [hE0]; exact ag w1 _); have HKA : Hid ((lK (k, .slice va vn vc)).all Value.oneCell' = true) := Lr (by rw [hE0]; rfl); have HQ1 : Hid ((w1.alloc (.cells #[.int .i64 (i : Nat), .string key, .int .i64 X.no, .int .i64 (X.no + c.de), .bool false, .bool false, .int .i64 0, .int .i64 0, .int .i64 0, .int .i64 0, .string ⟨#[]⟩, .bool false, .bool al, .slice va vn vc] 171)).heap[A.q]? = some (.cells (ku A (X.aO i BZ)) 88 (0, 0))) := Lr ((Below.heap_alloc w1 _ _ hqlt).trans hqb1)
 have hsz1 : A.q < (w1.alloc (.cells #[.int .i64 (i : Nat), .string key, .int .i64 X.no, .int .i64 (X.no + c.de), .bool false, .bool false, .int .i64 0, .int .i64 0, .int .i64 0, .int .i64 0, .string ⟨#[]⟩, .bool false, .bool al, .slice va vn vc] 171)).heap.size := by simp; omega
 have hbs1 : B ≤ (w1.alloc (.cells #[.int .i64 (i : Nat), .string key, .int .i64 X.no, .int .i64 (X.no + c.de), .bool false, .bool false, .int .i64 0, .int .i64 0, .int .i64 0, .int .i64 0, .string ⟨#[]⟩, .bool false, .bool al, .slice va vn vc] 171)).heap.size := by have := hp1.base; simp; omega
 have HP1 := Lr hp1; have HB1 := Lr hb1; have HW1 := Lr hw1; have HOF := Lr hoff; have HKV := Lr hkv; have HK := Lr hk; have HV := Lr hv; have HQB := Lr h.qb.1; have HCB : Hid (cb < B) := Lr (Nat.lt_of_lt_of_le hcl hE.b); have HE0 := Lr e0; have HDK := Lr hdk; have HFN : Hid (∀ (W : World) (v5 : Value), Own W B 171 14 lK v5 (A.ks ++ [(k, .slice va vn vc)]) → Below B (w1.alloc (.cells #[.int .i64 (i : Nat), .string key, .int .i64 X.no, .int .i64 (X.no + c.de), .bool false, .bool false, .int .i64 0, .int .i64 0, .int .i64 0, .int .i64 0, .string ⟨#[]⟩, .bool false, .bool al, .slice va vn vc] 171)) W → dm (w1.alloc (.cells #[.int .i64 (i : Nat), .string key, .int .i64 X.no, .int .i64 (X.no + c.de), .bool false, .bool false, .int .i64 0, .int .i64 0, .int .i64 0, .int .i64 0, .string ⟨#[]⟩, .bool false, .bool al, .slice va vn vc] 171)) W (.slice ka kn kc) v5 → ∀ e : Ending, e = .returned (.tuple #[]) → e = .returned (.tuple #[]) ∧ ∃ A', RD (W.setCell ⟨A.q, 7, none⟩ v5) B A' (X.aA C i key al ws) ∧ bW { A with x := xs } A' ∧ A'.hs = A.hs ∧ Below B w (W.setCell ⟨A.q, 7, none⟩ v5)) := Lr fun W v5 ho hb hkp e he => by
  have hk2 : dm w1 W A.kv v5 := by
   rw [hkv]; exact (dm.alloc w1 _ _).trans (by simp) hkp
  have hR := hp1.JH (xs := xs) (k := k) (vw := .slice va vn vc) (by rw [hk]; exact hv) ho hk2 (by have := hb.size; simp at this; omega); refine ⟨he, { A with kv := v5, ks := A.ks ++ [(k, .slice va vn vc)], x := xs }, ?_, ⟨rfl, rfl, rfl, rfl, rfl, rfl, rfl, rfl, rfl, rfl⟩, rfl, ?_⟩
  ·have e2 : X.aA C i key al ws = { X.aO i BZ with ak := (X.aO i BZ).ak ++ [k] } := by
    rw [hk]; unfold Xd.aA; rw [hdk]
    rfl
   rw [e2]; exact hR
  ·exact ((hb1.alloc hp1.base _).trans hb).setCell h.qb.1 _
 clear hgv h hE hqb hgc hgf hle hlk hne hp1 hb1 hw1 hon ho1 eX hqb1 hcel hcc2 hce e0 hdk hO1 hoff hkv hE0 hv hwb hk
 go_enter Tryz.func148, Tryz.ntmps148
 go_upto_region 1 with (fail)
 rw [← HW1.out]; have HBQ : Hid (Below w1.heap.size w1 w1.drew) := Lr (LD _ w1).drew; have HBR : Hid (Below w1.heap.size w1 (w1.drew.alloc (.cells #[.int .i64 (i : Nat), .string key, .int .i64 X.no, .int .i64 (X.no + c.de), .bool false, .bool false, .int .i64 0, .int .i64 0, .int .i64 0, .int .i64 0, .string ⟨#[]⟩, .bool false, .bool al, .slice va vn vc] 171))) := Lr (HBQ.out.alloc (Ls _) _); have HBT : Hid (Below w1.heap.size w1 (w1.alloc (.cells #[.int .i64 (i : Nat), .string key, .int .i64 X.no, .int .i64 (X.no + c.de), .bool false, .bool false, .int .i64 0, .int .i64 0, .int .i64 0, .int .i64 0, .string ⟨#[]⟩, .bool false, .bool al, .slice va vn vc] 171))) := Lr ((LD _ w1).alloc (Ls _) _); have q7a := (HBR.out.cell (p := ⟨A.q, 7, none⟩) hqlt).trans q7; have q7b := (HBT.out.cell (p := ⟨A.q, 7, none⟩) hqlt).trans q7; have hcb1 : cb < w1.heap.size := LC w1 _ d2; have HSS : Hid (∀ W : World, Below w1.heap.size w1 W → W.cell? ⟨A.q, 11, none⟩ = some (.int .i64 X.no) ∧ W.cell? ⟨A.q, 0, none⟩ = some (.slice (some ⟨cb, coff, none⟩) C.length cc) ∧ W.cell? ⟨cb, coff + i * 4 + 2, none⟩ = some (.int .i64 c.de)) := Lr fun W hb => ⟨(hb.cell (p := ⟨A.q, 11, none⟩) hqlt).trans q11, (hb.cell (p := ⟨A.q, 0, none⟩) hqlt).trans q0, (hb.cell (p := ⟨cb, coff + i * 4 + 2, none⟩) hcb1).trans d2⟩
 have HD2 : Hid (cb < B ∧ (w1.alloc (.cells #[.int .i64 (i : Nat), .string key, .int .i64 X.no, .int .i64 (X.no + c.de), .bool false, .bool false, .int .i64 0, .int .i64 0, .int .i64 0, .int .i64 0, .string ⟨#[]⟩, .bool false, .bool al, .slice va vn vc] 171)).cell? ⟨cb, coff + i * 4 + 2, none⟩ = some (.int .i64 c.de)) := Lr ⟨HCB.out, (HBT.out.cell (p := ⟨cb, coff + i * 4 + 2, none⟩) hcb1).trans d2⟩; have hcq : cb ≠ A.q := fun e => by have := HCB.out; have := HQB.out; omega
 refine wp_region_held_drew (S := fun W => W.cell? ⟨A.q, 11, none⟩ = some (.int .i64 X.no) ∧ W.cell? ⟨A.q, 0, none⟩ = some (.slice (some ⟨cb, coff, none⟩) C.length cc) ∧ W.cell? ⟨cb, coff + i * 4 + 2, none⟩ = some (.int .i64 c.de)) (by kernel_rfl) (HSS.out _ HBQ.out) (fun hHeld => ?_); refine tkS 0 21 hHeld ?_
 try simp only [pu]
 refine tkS 1 22 hHeld ?_
 try simp only [pu]
 refine tkS 2 23 hHeld ?_
 try simp only [pu]
 refine tkS 3 24 hHeld ?_
 try simp only [pu]
 refine tkS 5 26 hHeld ?_
 try simp only [pu]
 refine tkS 6 27 hHeld ?_
 try simp only [pu]
 refine tkS 7 28 hHeld ?_
 try simp only [pu]
 refine tkS 8 29 hHeld ?_
 try simp only [pu]
 refine tkS 9 30 hHeld ?_
 try simp only [pu]
 refine tkS 10 31 hHeld ?_
 try simp only [pu]
 refine tkS 11 32 hHeld ?_
 try simp only [pu]
 refine tkS 12 33 hHeld ?_
 try simp only [pu]
 refine tkS 13 34 hHeld ?_
 try simp only [pu]
 refine tkS 14 35 hHeld ?_
 try simp only [pu]
 refine tkS 15 36 hHeld ?_
 try simp only [pu]
 refine tkS 16 37 hHeld ?_
 try simp only [pu]
 refine tkS 17 38 hHeld ?_
 try simp only [pu]
 refine tkS 18 39 hHeld ?_
 try simp only [pu]
 refine tkS 19 40 hHeld ?_
 try simp only [pu]
 refine tkS 20 41 hHeld ?_
 try simp only [pu]
 refine tkS 21 42 hHeld ?_
 try simp only [pu]
 refine tkS 22 43 hHeld ?_
 try simp only [pu]
 refine tkS 23 44 hHeld ?_
 try simp only [pu]
 refine tkS 24 45 hHeld ?_
 try simp only [pu]
 refine tkS 25 46 hHeld ?_
 try simp only [pu]
 refine tkS 26 47 hHeld ?_
 try simp only [pu]
 refine tkS 27 48 hHeld ?_
 try simp only [pu]
 refine wpAnyH_ready (rs := [4, 28]) (by kernel_rfl) (by simp) (AllReadyH.cons rfl (fun K hK => ?_) (AllReadyH.cons rfl (fun K hK => ?_) AllReadyH.nil))
 ·go_simp
  refine hK.out _ _ (HSS.out _ HBQ.out) (fun hHeld => ?_); clear hK K
  try simp only [pu]
  refine wpAnyH_ready (rs := [28]) (by kernel_rfl) (by simp) (AllReadyH.cons rfl (fun K hK => ?_) AllReadyH.nil)
  go_simp
  refine hK.out _ _ (by first | exact HSS.out _ HBR.out | exact HSS.out _ HBT.out) (fun hHeld => ?_); clear hK K
  try simp only [pu]
  refine wpAnyH_ready (rs := [29]) (by kernel_rfl) (by simp) (AllReadyH.cons rfl (fun K hK => ?_) AllReadyH.nil); refine aW (enc := lK) (v := .slice ka kn kc) (l := A.ks) rfl (.tmp 25) (.tmp 49) 85 rfl slK (by decide) rfl rfl (k, .slice va vn vc) rfl HKA.out HO1.out HV1.out (by omega) hbs1 ?_; intro v5 w5 ho5 hb5 hk5; have hq5 := (hk5 A.q hsz1 HOF.out).1.trans HQ1.out; have z7 : w5.cell? ⟨A.q, 7, none⟩ = some (.slice ka kn kc) := (af hq5 7 rfl).trans (congrArg some HKV.out); have z0 : w5.cell? ⟨A.q, 0, none⟩ = some (.slice (some ⟨cb, coff, none⟩) C.length cc) := (af hq5 0 rfl).trans (congrArg some HE0.out); have z11 : w5.cell? ⟨A.q, 11, none⟩ = some (.int .i64 X.no) := af hq5 11 rfl; have zd : w5.cell? ⟨cb, coff + i * 4 + 2, none⟩ = some (.int .i64 c.de) := (hb5.cell (p := ⟨cb, coff + i * 4 + 2, none⟩) HD2.out.1).trans HD2.out.2; have HS5 := Lr (And.intro z11 (And.intro z0 zd)); have y7 := cO hq5 7; have HO5 := Lr ho5; have HB5 := Lr hb5; have HK5 := Lr hk5; obtain ⟨ao5, n5, cp5, rfl⟩ := Own.slv bn ho5; have HS6 := Lr (KC (v := .slice ao5 n5 cp5) hcq z11 z0 zd); clear ho5 hb5 hk5 hq5; refine hK.out _ _ HS5.out (fun hHeld => ?_); clear hK K
  try simp only [pu]
  refine tkS 30 51 hHeld ?_
  try simp only [pu]
  refine tkS 31 52 hHeld ?_
  try simp only [pu]
  refine wpAnyH_ready (rs := [32]) (by kernel_rfl) (by simp) (AllReadyH.cons rfl (fun K hK => ?_) AllReadyH.nil)
  go_simp
  refine hK.out _ _ HS6.out (fun hHeld => ?_); clear hK K
  try simp only [pu]
  refine wpAnyH_done (by kernel_rfl) ?_ _
  go_wp2_with fail
  go_end0
  exact HFN.out w5 _ HO5.out (((LD B _).drew).trans HB5.out) HK5.out _ rfl
 ·go_simp
  refine hK.out _ _ (by first | exact HSS.out _ HBR.out | exact HSS.out _ HBT.out) (fun hHeld => ?_); clear hK K
  try simp only [pu]
  refine wpAnyH_ready (rs := [4]) (by kernel_rfl) (by simp) (AllReadyH.cons rfl (fun K hK => ?_) AllReadyH.nil)
  go_simp
  refine hK.out _ _ (by first | exact HSS.out _ HBR.out | exact HSS.out _ HBT.out) (fun hHeld => ?_); clear hK K
  try simp only [pu]
  refine wpAnyH_ready (rs := [29]) (by kernel_rfl) (by simp) (AllReadyH.cons rfl (fun K hK => ?_) AllReadyH.nil); refine aW (enc := lK) (v := .slice ka kn kc) (l := A.ks) rfl (.tmp 25) (.tmp 49) 85 rfl slK (by decide) rfl rfl (k, .slice va vn vc) rfl HKA.out HO1.out HV1.out (by omega) hbs1 ?_; intro v5 w5 ho5 hb5 hk5; have hq5 := (hk5 A.q hsz1 HOF.out).1.trans HQ1.out; have z7 : w5.cell? ⟨A.q, 7, none⟩ = some (.slice ka kn kc) := (af hq5 7 rfl).trans (congrArg some HKV.out); have z0 : w5.cell? ⟨A.q, 0, none⟩ = some (.slice (some ⟨cb, coff, none⟩) C.length cc) := (af hq5 0 rfl).trans (congrArg some HE0.out); have z11 : w5.cell? ⟨A.q, 11, none⟩ = some (.int .i64 X.no) := af hq5 11 rfl; have zd : w5.cell? ⟨cb, coff + i * 4 + 2, none⟩ = some (.int .i64 c.de) := (hb5.cell (p := ⟨cb, coff + i * 4 + 2, none⟩) HD2.out.1).trans HD2.out.2; have HS5 := Lr (And.intro z11 (And.intro z0 zd)); have y7 := cO hq5 7; have HO5 := Lr ho5; have HB5 := Lr hb5; have HK5 := Lr hk5; obtain ⟨ao5, n5, cp5, rfl⟩ := Own.slv bn ho5; have HS6 := Lr (KC (v := .slice ao5 n5 cp5) hcq z11 z0 zd); clear ho5 hb5 hk5 hq5; refine hK.out _ _ HS5.out (fun hHeld => ?_); clear hK K
  try simp only [pu]
  refine tkS 30 51 hHeld ?_
  try simp only [pu]
  refine tkS 31 52 hHeld ?_
  try simp only [pu]
  refine wpAnyH_ready (rs := [32]) (by kernel_rfl) (by simp) (AllReadyH.cons rfl (fun K hK => ?_) AllReadyH.nil)
  go_simp
  refine hK.out _ _ HS6.out (fun hHeld => ?_); clear hK K
  try simp only [pu]
  refine wpAnyH_done (by kernel_rfl) ?_ _
  go_wp2_with fail
  go_end0
  exact HFN.out w5 _ HO5.out (((LD B _).drew).trans HB5.out) HK5.out _ rfl
section
variable {W : World} {B : Nat} {A : Rdr} {X : Xd}
theorem RD.stL (h : RD W B A X) {i g cap : Nat} (hil : i < X.ld.length) (hg : A.lv = .slice (some ⟨g, 0, none⟩) X.ld.length cap) (k : Nat) (u : Value) (f : Ldd → Ldd) (hk : k < 6) (he : lL (f (X.Ld i)) = (lL (X.Ld i)).set k u) : RD (W.setCell ⟨g, i * 6 + k, none⟩ u) B A (X.aO i f) := by
 have hle : X.ld[i]? = some (X.Ld i) := by unfold Xd.Ld; rw [getD_at (Lu hil)]; exact Lu _
 have h1 := h.lds; have ho : Own (W.setCell ⟨g, i * 6 + k, none⟩ u) B 50 6 lL A.lv (X.ld.set i (f (X.Ld i))) := by
  rw [hg] at h1 ⊢; exact Own.store fZ h1 rfl hle hk he
 exact h.II hg ho (Onl.set g W _ _)
theorem Gu {l : List Xh} (hn : (l.map Xh.ke).Nodup) {n : Nat} {x : Xh} (hx : l[n]? = some x) (no : Int) : gz l x.ke no = l.set n { x with us := no } := by
 unfold gz; apply List.ext_getElem?; intro m; rw [List.getElem?_map]; by_cases e : m = n
 ·subst e; rw [hx, List.getElem?_set_self (List.getElem?_eq_some_iff.1 hx).1]; simp
 ·rw [List.getElem?_set_ne (Ne.symm e)]; cases hm : l[m]? with
  | none => rfl
  | some y =>
   have hne : ¬ y.ke = x.ke := fun e2 => by
    have h1 := (List.getElem?_eq_some_iff.1 hm).1; have h2 := (List.getElem?_eq_some_iff.1 hx).1; have := (List.pairwise_iff_getElem.1 hn)
    rcases Nat.lt_or_gt_of_ne e with h3 | h3
    ·have h4 := this m n (by simpa using h1) (by simpa using h2) h3; rw [List.getElem_map, List.getElem_map] at h4; rw [Lu h1] at hm; rw [Lu h2] at hx; cases hm; cases hx
     exact h4 e2
    ·have h4 := this n m (by simpa using h2) (by simpa using h1) h3; rw [List.getElem_map, List.getElem_map] at h4; rw [Lu h1] at hm; rw [Lu h2] at hx; cases hm; cases hx
     exact h4 e2.symm
   show some (if y.ke = x.ke then _ else y) = some y
   rw [if_neg hne]
theorem RD.stH (h : RD W B A X) {i n : Nat} {v : Value} {x : Xh} (hv : A.hs[i]? = some v) (hx : (X.H i)[n]? = some x) (hn : ((X.H i).map Xh.ke).Nodup) {g cap : Nat} (hg : v = .slice (some ⟨g, 0, none⟩) (X.H i).length cap) (no : Int) : RD (W.setCell ⟨g, n * 6 + 5, none⟩ (.int .i64 no)) B A (X.setH i (gz (X.H i) x.ke no)) := by
 have h1 := h.held hv; rw [Gu hn hx]; refine h.Ju hv hg ?_ (Onl.set g W _ _); rw [hg] at h1 ⊢; exact Own.store aJ h1 rfl hx (by decide) rfl
end
theorem qm (w0 w : World) (B : Nat) (A : Rdr) (X : Xd) (h : RD w B A X) (C : List Cch) (R : List Crl) (E : List Rel) (P : List Pur) (L : List Gt) (hE : oK w0 B A C R E P L) (hw : Below w0.heap.size w0 w) (wt : Xw) (a : Ans) (hg : wt.ak = none → wt.ge < X.go.length) (hj : ∀ j, wt.ak = some j → j < X.ak.length ∧ (X.K j).ca < C.length) (hno : 0 ≤ X.no ∧ X.no ≤ 1000000000000000) (hde : ∀ i, i < C.length → 0 ≤ deO C i ∧ deO C i ≤ 1000000) :
 Calls Tryz.prog 102 #[.pointer (some ⟨A.q, 0, none⟩), .agg #[.int .i64 (wgI wt), .int .i64 wt.ho, .int .i64 (waI wt)], Iw a] w fun e w' => ∃ A', e = .returned (.tuple #[]) ∧ RD w' B A' (X.aI C wt a) ∧ bW A A' ∧ Ij A A' ∧ A'.hs = A.hs ∧ Below B w w' := by
 obtain ⟨ge, ak, ho⟩ := wt; cases ak with
 | none =>
  refine (yZ w B A X h C ge ho a (hg rfl)).mono ?_; rintro e w' ⟨rfl, h1, h2⟩; exact ⟨A, rfl, h1, bW.refl A, rfl, rfl, h2⟩
 | some j =>
  obtain ⟨h1, h2⟩ := hj j rfl; exact kY w0 w B A X h C R E P L hE hw j ge ho ho a h1 h2 hno (hde _ h2)
structure DW (C : List Cch) (R : List Crl) (P : List Pur) (X : Xd) (i : Nat) (key : ByteArray) (ge : Nat) (ak : Option Nat) : Prop where
 ci : i < C.length
 il : i < X.ld.length
 ih : i < X.he.length
 no : 0 ≤ X.no ∧ X.no ≤ 1000000000000000
 de : ∀ i, i < C.length → 0 ≤ deO C i ∧ deO C i ≤ 1000000
 ld : (0 ≤ (X.Ld i).ca ∧ (X.Ld i).ca ≤ 1000000) ∧ (0 ≤ (X.Ld i).fr ∧ (X.Ld i).fr ≤ 1000000) ∧ (0 ≤ (X.Ld i).sl ∧ (X.Ld i).sl ≤ 1000000) ∧ (0 ≤ (X.Ld i).wt ∧ (X.Ld i).wt ≤ 1000000) ∧ (0 ≤ (X.Ld i).ak ∧ (X.Ld i).ak ≤ 1000000)
 al : X.ak.length ≤ 800000
 g : ak = none → ge < X.go.length
 j : ∀ j, ak = some j → j < X.ak.length ∧ (X.K j).ca < C.length
 wl : ∀ j, j < X.ak.length → (X.K j).dn = false → (X.K j).ws.length ≤ 1000000
 nd : ((X.H i).map Xh.ke).Nodup
 an : ∀ h, h ∈ X.H i → dF h.an
 pb : ∀ k, pbI P k X.no P.length = fQ P k X.no
 R : ∀ y, y ∈ R → (0 ≤ y.li ∧ y.li ≤ 1000000000) ∧ (0 ≤ y.st ∧ y.st ≤ 1000000000) ∧ (0 ≤ y.go ∧ y.go ≤ 1000000000)
def jg (w : World) (B : Nat) (A : Rdr) (X' : Xd) : Ending → World → Prop := fun e w' => ∃ A', e = .returned (.tuple #[]) ∧ RD w' B A' X' ∧ bW A A' ∧ Below B w w'
theorem jg.mk {w W : World} {B : Nat} {A A1 : Rdr} {X' X'' : Xd} {e : Ending} {y : List (Nat × Obj)} (he : e = .returned (.tuple #[])) (h : RD W B A1 X'') (hX : X'' = X') (hl : bW { A with x := A.x ++ y } A1) (hb : Below B w W) : jg w B A X' e W :=
 ⟨{ A1 with x := A.x }, he, hX ▸ h.lM ⟨y, hl.x⟩, ⟨hl.q, hl.d0, hl.d1, hl.d2, hl.d3, hl.gt, hl.hh, hl.gv, hl.lv, rfl⟩, hb⟩
section
variable {W : World} {B : Nat} {A : Rdr} {X : Xd}
theorem RD.box (h : RD W B A X) {xs y : List (Nat × Obj)} {b : Nat} {o : Obj} (hx : A.x = xs ++ (b, o) :: y) : W.heap[b]? = some o :=
 h.fr (k := xs.length) (by rw [hx]; simp)
theorem RD.setB (h : RD W B A X) {xs y : List (Nat × Obj)} {b : Nat} {cs : Array Value} {T : TypeId} (hx : A.x = xs ++ (b, .cells cs T (0, 0)) :: y) (i : Nat) (v : Value) : RD (W.setCell ⟨b, i, none⟩ v) B { A with x := xs ++ (b, .cells (cs.setIfInBounds i v) T (0, 0)) :: y } X := by
 have hk : A.x[xs.length]? = some (b, .cells cs T (0, 0)) := by rw [hx]; simp
 have h1 := h.Jw hk i v; rw [hx, List.set_append_right _ _ (Ls _), Nat.sub_self, List.set_cons_zero] at h1; exact h1
end
end Go.Proofs.YtgohddfnhofjhaaGreatDoor

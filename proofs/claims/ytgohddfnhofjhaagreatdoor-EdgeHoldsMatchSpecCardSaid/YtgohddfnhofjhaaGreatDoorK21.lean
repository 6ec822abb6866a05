/- The reference's day in memory; what one step of each kind changes. -/
import Derived.Test.YtgohddfnhofjhaaGreatDoorK16
import Derived.Test.YtgohddfnhofjhaaGreatDoorK18
import Derived.Test.YtgohddfnhofjhaaGreatDoorK20
import Derived.Test.YtgohddfnhofjhaaGreatDoorK02
import Derived.Test.YtgohddfnhofjhaaGreatDoorK01
namespace Go.Proofs.YtgohddfnhofjhaaGreatDoor
open Go.RowKit
section
variable {C : List Cch} {R : List Crl} {E : List Rel} {P : List Pur} {L : List Gt} {X X' : Xd} {pd : List Xw} {lim : Int}
end
def lL (x : Ldd) : List Value := [.int .i64 x.ca, .int .i64 x.fr, .int .i64 x.sl, .int .i64 x.wt, .int .i64 x.ak, .int .i64 x.bs]
theorem fZ (x : Ldd) : (lL x).length = 6 := rfl
theorem IV : (Tryz.prog.info? 50).map (fun i => (i.zero, i.size, i.bytes)) = some (some (.agg #[.int .i64 0, .int .i64 0, .int .i64 0, .int .i64 0, .int .i64 0, .int .i64 0]), 6, 48) := by kernel_rfl
structure WfS (C : List Cch) (R : List Crl) (E : List Rel) (P : List Pur) (L : List Gt) : Prop where
 c : ∀ x, x ∈ C → WfC x
 r : ∀ x, x ∈ R → WfU x
 e : ∀ x, x ∈ E → WfL x
 p : ∀ x, x ∈ P → WfG x
 l : ∀ x, x ∈ L → WfT x
structure Lm (w w2 : World) (C : List Cch) (R : List Crl) (E : List Rel) (P : List Pur) (L : List Gt) (vc vr ve vp vl : Value) : Prop where
 al : w2 = w.alloc (.cells #[vc, vr, ve, vp] 27)
 bel : Below w.heap.size w w2
 q : ∀ W, Below w2.heap.size w2 W → W.cell? ⟨w.heap.size, 0, none⟩ = some vc ∧ W.cell? ⟨w.heap.size, 1, none⟩ = some vr ∧ W.cell? ⟨w.heap.size, 2, none⟩ = some ve ∧ W.cell? ⟨w.heap.size, 3, none⟩ = some vp
 flt : ∀ W, Below w2.heap.size w2 W → Calls Tryz.prog 30 #[.agg #[vc, vr, ve, vp], vl] W fun e w' => e = .returned (.int .i64 (bY C R E P L)) ∧ Below W.heap.size W w'
 ply : bY C R E P L = 0 → ∀ W, Below w2.heap.size w2 W → Calls Tryz.prog 31 #[.agg #[vc, vr, ve, vp], vl] W fun e w' => ∃ B A D X, e = .returned (.pointer (some ⟨A.q, 0, none⟩)) ∧ PD w' B A D ∧ W.heap.size ≤ B ∧ qp C R E P L 1152921504606846976 X ∧ Sim C [] D X ∧ Below W.heap.size W w'
theorem boxS (w : World) {C : List Cch} {R : List Crl} {E : List Rel} {P : List Pur} {L : List Gt} {vc vr ve vp vl : Value} (h : InS w C R E P L vc vr ve vp vl) (hw : WfS C R E P L) : ∃ w2, Lm w w2 C R E P L vc vr ve vp vl := by
 obtain ⟨w2, hw2⟩ : ∃ w2, w2 = w.alloc (.cells #[vc, vr, ve, vp] 27) := ⟨_, rfl⟩
 have hb2 : Below w.heap.size w w2 := by rw [hw2]; exact (LD _ w).alloc (Ls _) _
 have hnb : w2.heap[w.heap.size]? = some (.cells #[vc, vr, ve, vp] 27 (0, 0)) := by rw [hw2]; exact ag w _
 have hlt : w.heap.size < w2.heap.size := (Array.getElem?_eq_some_iff.1 hnb).1; refine ⟨w2, hw2, hb2, fun W hW => ?_, fun W hW => ?_, fun h0 W hW => ?_⟩
 ·have h1 := (hW.block _ hlt).trans hnb; exact ⟨af h1 0 rfl, af h1 1 rfl, af h1 2 rfl, af h1 3 rfl⟩
 ·have h' := h.below (hb2.trans (hW.mono (Nat.le_of_lt hlt))); exact rq W C R E P L vc vr ve vp vl h'.c h'.r h'.e h'.p h'.l hw.c hw.r hw.e hw.p hw.l
 ·exact yH W C R E P L vc vr ve vp vl (h.below (hb2.trans (hW.mono (Nat.le_of_lt hlt)))) (pG h0)
theorem Own.jm {α : Type} {w : World} {base b2 : Nat} {E : TypeId} {k : Nat} {enc : α → List Value} {v : Value} {l : List α} (h : Own w base E k enc v l) (hb : b2 ≤ base) : Own w b2 E k enc v l := by
 obtain ⟨q1, q2⟩ := h; refine ⟨q1, ?_⟩; rcases q2 with q2 | ⟨g, cap, cur, e1, e2, r⟩
 ·exact Or.inl q2
 ·exact Or.inr ⟨g, cap, cur, e1, Nat.le_trans hb e2, r⟩
theorem Own.slw {α : Type} {w : World} {base : Nat} {E : TypeId} {k : Nat} {enc : α → List Value} {v : Value} {l : List α} (h : Own w base E k enc v l) : (v = .slice none 0 0 ∧ l = []) ∨ ∃ g cap, v = .slice (some ⟨g, 0, none⟩) l.length cap := by
 obtain ⟨q1, q2⟩ := h; rcases q2 with ⟨q2, q3⟩ | ⟨g, cap, cur, e1, r⟩
 ·exact Or.inl ⟨q2, List.length_eq_zero_iff.1 q3⟩
 ·exact Or.inr ⟨g, cap, e1⟩
theorem tJ {α : Type} {w : World} {base : Nat} {E : TypeId} {k : Nat} {enc : α → List Value} {v : Value} {l : List α} (hk : ∀ x, (enc x).length = k) (h : Own w base E k enc v l) :
 ∃ ao cap P, v = .slice ao l.length cap ∧ l.length ≤ cap ∧ cap ≤ maxLen ∧ base ≤ P ∧ ∀ i x, l[i]? = some x → ao = some ⟨P, 0, none⟩ ∧ P < w.heap.size ∧ ∀ j u, (enc x)[j]? = some u → w.cell? ⟨P, i * k + j, none⟩ = some u := by
 by_cases hne : l = []
 ·subst hne; rcases Own.slw h with ⟨rfl, _⟩ | ⟨g, cap, rfl⟩
  ·exact ⟨none, 0, base, rfl, by simp, by simp [maxLen], Ls _, fun i x hx => by simp at hx⟩
  ·obtain ⟨h1, h2⟩ := h; rcases h2 with ⟨h2, _⟩ | ⟨g', cap', cur, hv, hg, hh, hn, hm, _⟩
   ·cases h2
   ·simp only [Value.slice.injEq, Option.some.injEq, Addr.mk.injEq, and_true, true_and] at hv
    obtain ⟨rfl, rfl⟩ := hv; exact ⟨_, cap, g, rfl, hn, hm, hg, fun i x hx => by simp at hx⟩
 ·obtain ⟨g, cap, rfl, h1, h2, h3, h4, h5, _⟩ := Own.gZ hk h hne; exact ⟨_, cap, g, rfl, h3, h4, h1, fun i x hx => ⟨rfl, h2, fun j u hu => h5 i x j u hx hu⟩⟩
def lK (p : Xk × Value) : List Value := [.int .i64 (p.1.ca : Nat), .string p.1.ke, .int .i64 p.1.ma, .int .i64 p.1.ar, .bool p.1.cm, .bool p.1.kn, .int .i64 p.1.bk, .int .i64 p.1.go.ve, .int .i64 p.1.go.bo, .int .i64 p.1.go.si, .string p.1.go.fr, .bool p.1.dn, .bool p.1.al, p.2]
theorem bn (x : Xk × Value) : (lK x).length = 14 := rfl
def zO (v : Value) : List Value := [v]
theorem dV (v : Value) : (zO v).length = 1 := rfl
def jG (h : Xh) : List Value := [.string h.ke, .int .i64 h.an.ve, .int .i64 h.an.bo, .int .i64 h.an.si, .string h.an.fr, .int .i64 h.us]
theorem aJ (h : Xh) : (jG h).length = 6 := rfl
def wgI (w : Xw) : Int := match w.ak with
 | none => (w.ge : Nat)
 | some _ => -1
def waI (w : Xw) : Int := match w.ak with
 | none => -1
 | some j => (j : Nat)
def oM (w : Xw) : List Value := [.int .i64 (wgI w), .int .i64 w.ho, .int .i64 (waI w)]
theorem bU (w : Xw) : (oM w).length = 3 := rfl
structure Rdr where
 q : Nat
 d0 : Value
 d1 : Value
 d2 : Value
 d3 : Value
 gt : Value
 kv : Value
 hh : Value
 gv : Value
 lv : Value
 ks : List (Xk × Value)
 hs : List Value
 x : List (Nat × Obj)
def ku (A : Rdr) (X : Xd) : Array Value := #[A.d0, A.d1, A.d2, A.d3, A.gt, .int .i64 (X.nx : Nat), .int .i64 (X.pg : Nat), A.kv, A.hh, A.gv, A.lv, .int .i64 X.no]
structure Lc (A : Rdr) (X : Xd) (M : Mem) : Prop where
 wl : M 0 = some (A.q, .cells (ku A X) 88 (0, 0))
 ak : bV (M 1) 171 14 lK A.kv A.ks
 hs : bV (M 2) 103 1 zO A.hh A.hs
 go : bV (M 3) 35 5 jF A.gv X.go
 ld : bV (M 4) 50 6 lL A.lv X.ld
 he : ∀ (i : Nat) (v : Value), A.hs[i]? = some v → bV (M (5 + 3 * i)) 107 6 jG v (X.H i)
 wa : ∀ (j : Nat) (p : Xk × Value), A.ks[j]? = some p → bV (M (6 + 3 * j)) 177 3 oM p.2 p.1.ws
 fx : ∀ (k b : Nat) (o : Obj), A.x[k]? = some (b, o) → M (7 + 3 * k) = some (b, o)
 ka : X.ak = A.ks.map Prod.fst
 hl : A.hs.length = X.he.length
def RD (W : World) (B : Nat) (A : Rdr) (X : Xd) : Prop := ∃ M, Mm W B M ∧ Lc A X M
section
variable {W W' : World} {B : Nat} {A : Rdr} {X : Xd}
theorem RD.below (h : RD W B A X) (hb : Below W.heap.size W W') : RD W' B A X := by
 obtain ⟨M, h1, h2⟩ := h; exact ⟨M, h1.below hb, h2⟩
theorem RD.iq (h : RD W B A X) (he : W'.heap = W.heap) : RD W' B A X := by
 obtain ⟨M, h1, h2⟩ := h; exact ⟨M, h1.keep (by rw [he]; exact Ls _) (fun _ b _ _ => by rw [he]), h2⟩
theorem RD.base (h : RD W B A X) : B ≤ W.heap.size := by
 obtain ⟨M, h1, h2⟩ := h; exact h1.base
theorem RD.qb (h : RD W B A X) : B ≤ A.q ∧ W.heap[A.q]? = some (.cells (ku A X) 88 (0, 0)) := by
 obtain ⟨M, h1, h2⟩ := h; exact h1.at_ _ _ _ h2.wl
theorem RD.asks (h : RD W B A X) : Own W B 171 14 lK A.kv A.ks := by
 obtain ⟨M, h1, h2⟩ := h; exact bV.own h1 h2.ak bn
theorem RD.rows (h : RD W B A X) : Own W B 103 1 zO A.hh A.hs := by
 obtain ⟨M, h1, h2⟩ := h; exact bV.own h1 h2.hs dV
theorem RD.Hf (h : RD W B A X) : Own W B 35 5 jF A.gv X.go := by
 obtain ⟨M, h1, h2⟩ := h; exact bV.own h1 h2.go dH
theorem RD.lds (h : RD W B A X) : Own W B 50 6 lL A.lv X.ld := by
 obtain ⟨M, h1, h2⟩ := h; exact bV.own h1 h2.ld fZ
theorem RD.held (h : RD W B A X) {i : Nat} {v : Value} (hv : A.hs[i]? = some v) : Own W B 107 6 jG v (X.H i) := by
 obtain ⟨M, h1, h2⟩ := h; exact bV.own h1 (h2.he i v hv) aJ
theorem RD.wait (h : RD W B A X) {j : Nat} {p : Xk × Value} (hp : A.ks[j]? = some p) : Own W B 177 3 oM p.2 p.1.ws := by
 obtain ⟨M, h1, h2⟩ := h; exact bV.own h1 (h2.wa j p hp) bU
theorem RD.fr (h : RD W B A X) {k b : Nat} {o : Obj} (hx : A.x[k]? = some (b, o)) : W.heap[b]? = some o := by
 obtain ⟨M, h1, h2⟩ := h; exact (h1.at_ _ _ _ (h2.fx k b o hx)).2
theorem RD.ka (h : RD W B A X) : X.ak = A.ks.map Prod.fst := by
 obtain ⟨M, h1, h2⟩ := h; exact h2.ka
theorem RD.akl (h : RD W B A X) : A.ks.length = X.ak.length := by rw [h.ka, List.length_map]
theorem RD.hl (h : RD W B A X) : A.hs.length = X.he.length := by
 obtain ⟨M, h1, h2⟩ := h; exact h2.hl
theorem RD.K (h : RD W B A X) {j : Nat} {p : Xk × Value} (hp : A.ks[j]? = some p) : X.ak[j]? = some p.1 := by
 rw [h.ka, List.getElem?_map, hp]; rfl
theorem RD.at_ (h : RD W B A X) {j : Nat} (hj : j < X.ak.length) : ∃ v, A.ks[j]? = some (X.K j, v) := by
 have hl : j < A.ks.length := by rw [h.akl]; exact hj
 refine ⟨A.ks[j].2, ?_⟩; have e := h.K (Lu hl); rw [Xd.zK e]; exact Lu hl
theorem RD.Ew (h : RD W B A X) : df A.q A.kv ∧ df A.q A.hh ∧ df A.q A.gv ∧ df A.q A.lv := by
 obtain ⟨M, h1, h2⟩ := h; exact ⟨bV.off h1 h2.ak h2.wl (by decide), bV.off h1 h2.hs h2.wl (by decide), bV.off h1 h2.go h2.wl (by decide), bV.off h1 h2.ld h2.wl (by decide)⟩
theorem RD.JB (h : RD W B A X) {k b : Nat} {o : Obj} (hx : A.x[k]? = some (b, o)) : df b A.kv ∧ df b A.hh ∧ df b A.gv ∧ df b A.lv ∧ b ≠ A.q := by
 obtain ⟨M, h1, h2⟩ := h; have hf := h2.fx k b o hx; refine ⟨bV.off h1 h2.ak hf (by omega), bV.off h1 h2.hs hf (by omega), bV.off h1 h2.go hf (by omega), bV.off h1 h2.ld hf (by omega), fun e => ?_⟩; subst e; have := h1.inj _ _ _ _ _ hf h2.wl; omega
theorem RD.JE (h : RD W B A X) {i : Nat} {v : Value} (hv : A.hs[i]? = some v) : df A.q v := by
 obtain ⟨M, h1, h2⟩ := h; exact bV.off h1 (h2.he i v hv) h2.wl (by omega)
theorem RD.jf (h : RD W B A X) (o : Obj) : RD (W.alloc o) B { A with x := A.x ++ [(W.heap.size, o)] } X := by
 obtain ⟨M, h1, h2⟩ := h; refine ⟨_, h1.new (7 + 3 * A.x.length) o, ?_⟩; exact {
  wl := by rw [ae _ _ (by omega)]; exact h2.wl
  ak := by rw [ae _ _ (by omega)]; exact h2.ak
  hs := by rw [ae _ _ (by omega)]; exact h2.hs
  go := by rw [ae _ _ (by omega)]; exact h2.go
  ld := by rw [ae _ _ (by omega)]; exact h2.ld
  he := fun i v hv => by rw [ae _ _ (by omega)]; exact h2.he i v hv
  wa := fun j p hp => by rw [ae _ _ (by omega)]; exact h2.wa j p hp
  fx := fun k b p hx => by
   by_cases e : k = A.x.length
   ·subst e; have hx' : (A.x ++ [(W.heap.size, o)])[A.x.length]? = some (b, p) := hx; rw [List.getElem?_append_right (Ls _)] at hx'; simp at hx'
    rw [au, hx'.1, hx'.2]
   ·have hx' : (A.x ++ [(W.heap.size, o)])[k]? = some (b, p) := hx; have hk := (List.getElem?_eq_some_iff.1 hx').1; simp at hk
    rw [List.getElem?_append_left (by omega)] at hx'; rw [ae _ _ (by omega)]; exact h2.fx k b p hx'
  ka := h2.ka
  hl := h2.hl }
theorem RD.lM (h : RD W B A X) {x : List (Nat × Obj)} (hx : ∃ y, A.x = x ++ y) : RD W B { A with x := x } X := by
 obtain ⟨M, h1, h2⟩ := h; obtain ⟨y, hy⟩ := hx; exact ⟨M, h1, { h2 with fx := fun k b o hk => h2.fx k b o (by
  have hk' : x[k]? = some (b, o) := hk; rw [hy, List.getElem?_append_left (List.getElem?_eq_some_iff.1 hk').1]; exact hk') }⟩
theorem RD.Jw (h : RD W B A X) {k b : Nat} {cs : Array Value} {T : TypeId} (hx : A.x[k]? = some (b, .cells cs T (0, 0))) (i : Nat) (v : Value) : RD (W.setCell ⟨b, i, none⟩ v) B { A with x := A.x.set k (b, .cells (cs.setIfInBounds i v) T (0, 0)) } X := by
 obtain ⟨M, h1, h2⟩ := h; refine ⟨_, h1.set (h2.fx k b _ hx) i v, ?_⟩; exact {
  wl := by rw [ae _ _ (by omega)]; exact h2.wl
  ak := by rw [ae _ _ (by omega)]; exact h2.ak
  hs := by rw [ae _ _ (by omega)]; exact h2.hs
  go := by rw [ae _ _ (by omega)]; exact h2.go
  ld := by rw [ae _ _ (by omega)]; exact h2.ld
  he := fun i v hv => by rw [ae _ _ (by omega)]; exact h2.he i v hv
  wa := fun j p hp => by rw [ae _ _ (by omega)]; exact h2.wa j p hp
  fx := fun m c p hm => by
   rcases bI hm with ⟨rfl, e⟩ | ⟨hne, hm⟩
   ·cases e
    rw [au]
   ·rw [ae _ _ (by omega)]; exact h2.fx m c p hm
  ka := h2.ka
  hl := h2.hl }
theorem RD.sW (h : RD W B A X) (k : Nat) (v : Value) (X' : Xd) (hc : (ku A X).setIfInBounds k v = ku A X') (e1 : X'.ak = X.ak) (e2 : X'.he = X.he) (e3 : X'.go = X.go) (e4 : X'.ld = X.ld) : RD (W.setCell ⟨A.q, k, none⟩ v) B A X' := by
 obtain ⟨M, h1, h2⟩ := h; refine ⟨_, h1.set h2.wl k v, ?_⟩; exact {
  wl := by rw [au, hc]
  ak := by rw [ae _ _ (by omega)]; exact h2.ak
  hs := by rw [ae _ _ (by omega)]; exact h2.hs
  go := by rw [ae _ _ (by omega), e3]; exact h2.go
  ld := by rw [ae _ _ (by omega), e4]; exact h2.ld
  he := fun i v hv => by rw [ae _ _ (by omega), show X'.H i = X.H i by unfold Xd.H; rw [e2]]; exact h2.he i v hv
  wa := fun j p hp => by rw [ae _ _ (by omega)]; exact h2.wa j p hp
  fx := fun k b p hx => by rw [ae _ _ (by omega)]; exact h2.fx k b p hx
  ka := by rw [e1]; exact h2.ka
  hl := by rw [e2]; exact h2.hl }
theorem gW {g n c : Nat} {v : Value} (hg : v = .slice (some ⟨g, 0, none⟩) n c) (hon : Onl g W W') : dm W W' v v := fun b hb hob => by
 rw [hg] at hob; have hne : b ≠ g := fun e => hob _ _ _ rfl e.symm
 exact ⟨World.grownBy.block hon b hb (fun e => hne (by simpa using e)), by rw [hg]; exact hob⟩
theorem RD.Ej (h : RD W B A X) {g n c : Nat} (hg : A.gv = .slice (some ⟨g, 0, none⟩) n c) {l' : List Gtn} (hown : Own W' B 35 5 jF A.gv l') (hon : Onl g W W') : RD W' B A { X with go := l' } := by
 obtain ⟨M, h1, h2⟩ := h; obtain ⟨x, h3, h4⟩ := h1.grow (r := 3) h2.go hown hon.size (gW hg hon); refine ⟨_, h4, ?_⟩; exact {
  wl := by rw [ae _ _ (by omega)]; exact h2.wl
  ak := by rw [ae _ _ (by omega)]; exact h2.ak
  hs := by rw [ae _ _ (by omega)]; exact h2.hs
  go := by rw [au]; exact h3
  ld := by rw [ae _ _ (by omega)]; exact h2.ld
  he := fun i v hv => by rw [ae _ _ (by omega)]; exact h2.he i v hv
  wa := fun j p hp => by rw [ae _ _ (by omega)]; exact h2.wa j p hp
  fx := fun k b p hx => by rw [ae _ _ (by omega)]; exact h2.fx k b p hx
  ka := h2.ka
  hl := h2.hl }
theorem RD.II (h : RD W B A X) {g n c : Nat} (hg : A.lv = .slice (some ⟨g, 0, none⟩) n c) {l' : List Ldd} (hown : Own W' B 50 6 lL A.lv l') (hon : Onl g W W') : RD W' B A { X with ld := l' } := by
 obtain ⟨M, h1, h2⟩ := h; obtain ⟨x, h3, h4⟩ := h1.grow (r := 4) h2.ld hown hon.size (gW hg hon); refine ⟨_, h4, ?_⟩; exact {
  wl := by rw [ae _ _ (by omega)]; exact h2.wl
  ak := by rw [ae _ _ (by omega)]; exact h2.ak
  hs := by rw [ae _ _ (by omega)]; exact h2.hs
  go := by rw [ae _ _ (by omega)]; exact h2.go
  ld := by rw [au]; exact h3
  he := fun i v hv => by rw [ae _ _ (by omega)]; exact h2.he i v hv
  wa := fun j p hp => by rw [ae _ _ (by omega)]; exact h2.wa j p hp
  fx := fun k b p hx => by rw [ae _ _ (by omega)]; exact h2.fx k b p hx
  ka := h2.ka
  hl := h2.hl }
theorem RD.uB (h : RD W B A X) {g n c : Nat} (hg : A.kv = .slice (some ⟨g, 0, none⟩) n c) {j : Nat} {p : Xk × Value} (hp : A.ks[j]? = some p) {k' : Xk} (hk : k'.ws = p.1.ws) (hown : Own W' B 171 14 lK A.kv (A.ks.set j (k', p.2))) (hon : Onl g W W') : RD W' B { A with ks := A.ks.set j (k', p.2) } (X.bT j k') := by
 obtain ⟨M, h1, h2⟩ := h; obtain ⟨x, h3, h4⟩ := h1.grow (r := 1) h2.ak hown hon.size (gW hg hon); refine ⟨_, h4, ?_⟩; exact {
  wl := by rw [ae _ _ (by omega)]; exact h2.wl
  ak := by rw [au]; exact h3
  hs := by rw [ae _ _ (by omega)]; exact h2.hs
  go := by rw [ae _ _ (by omega)]; exact h2.go
  ld := by rw [ae _ _ (by omega)]; exact h2.ld
  he := fun i v hv => by rw [ae _ _ (by omega)]; exact h2.he i v hv
  wa := fun i t ht => by
   rw [ae _ _ (by omega)]; rcases bI ht with ⟨rfl, rfl⟩ | ⟨_, ht⟩
   ·show bV _ _ _ _ p.2 k'.ws
    rw [hk]; exact h2.wa i p hp
   ·exact h2.wa i t ht
  fx := fun k b p hx => by rw [ae _ _ (by omega)]; exact h2.fx k b p hx
  ka := by
   show X.ak.set j k' = (A.ks.set j (k', p.2)).map Prod.fst
   rw [List.map_set, h2.ka]
  hl := h2.hl }
theorem xe {N : Nat} {v v' : Value} {α : Type} {E : TypeId} {k : Nat} {enc : α → List Value} {l : List α} (hown : Own W' N E k enc v' l) (hN : W.heap.size ≤ N) (hb : Below N W W') : dm W W' v v' := fun b hb2 _ => ⟨hb.block b (Nat.lt_of_lt_of_le hb2 hN), hown.df (Nat.lt_of_lt_of_le hb2 hN)⟩
theorem RD.GG (h : RD W B A X) {g n c N : Nat} (hg : A.kv = .slice (some ⟨g, 0, none⟩) n c) {j : Nat} {p : Xk × Value} (hp : A.ks[j]? = some p) {v' : Value} {l' : List Xw} (hown : Own W' N 177 3 oM v' l') (hN : W.heap.size ≤ N) (hb : Below N W W')
 (hown2 : Own (W'.setCell ⟨g, j * 14 + 13, none⟩ v') B 171 14 lK A.kv (A.ks.set j ({ p.1 with ws := l' }, v'))) : RD (W'.setCell ⟨g, j * 14 + 13, none⟩ v') B { A with ks := A.ks.set j ({ p.1 with ws := l' }, v') } (X.bT j { p.1 with ws := l' }) := by
 obtain ⟨M, h1, h2⟩ := h; obtain ⟨x, h3, h4⟩ := h1.grow (r := 6 + 3 * j) (h2.wa j p hp) (Own.jm hown (Nat.le_trans h1.base hN)) (hb.size) (xe hown hN hb); have hak : bV (upM M (6 + 3 * j) x 1) 171 14 lK A.kv A.ks := by rw [ae _ _ (by omega)]; exact h2.ak
 obtain ⟨y, h5, h6⟩ := h4.grow (r := 1) hak hown2 (Onl.set g W' (j * 14 + 13) v').size (gW hg (Onl.set g W' (j * 14 + 13) v')); refine ⟨_, h6, ?_⟩; exact {
  wl := by rw [ae _ _ (by omega), ae _ _ (by omega)]; exact h2.wl
  ak := by rw [au]; exact h5
  hs := by rw [ae _ _ (by omega), ae _ _ (by omega)]; exact h2.hs
  go := by rw [ae _ _ (by omega), ae _ _ (by omega)]; exact h2.go
  ld := by rw [ae _ _ (by omega), ae _ _ (by omega)]; exact h2.ld
  he := fun i v hv => by rw [ae _ _ (by omega), ae _ _ (by omega)]; exact h2.he i v hv
  wa := fun i t ht => by
   rw [ae _ _ (by omega)]; rcases bI ht with ⟨rfl, rfl⟩ | ⟨hne, ht⟩
   ·rw [au]; exact h3
   ·rw [ae _ _ (by omega)]; exact h2.wa i t ht
  fx := fun k b p hx => by rw [ae _ _ (by omega), ae _ _ (by omega)]; exact h2.fx k b p hx
  ka := by
   show X.ak.set j _ = (A.ks.set j _).map Prod.fst
   rw [List.map_set, h2.ka]
  hl := h2.hl }
theorem RD.Ju (h : RD W B A X) {i g n c : Nat} {v : Value} (hv : A.hs[i]? = some v) (hg : v = .slice (some ⟨g, 0, none⟩) n c) {l' : List Xh} (hown : Own W' B 107 6 jG v l') (hon : Onl g W W') : RD W' B A (X.setH i l') := by
 obtain ⟨M, h1, h2⟩ := h; obtain ⟨x, h3, h4⟩ := h1.grow (r := 5 + 3 * i) (h2.he i v hv) hown hon.size (gW hg hon); have hil : i < X.he.length := by rw [← h2.hl]; exact (List.getElem?_eq_some_iff.1 hv).1
 refine ⟨_, h4, ?_⟩; exact {
  wl := by rw [ae _ _ (by omega)]; exact h2.wl
  ak := by rw [ae _ _ (by omega)]; exact h2.ak
  hs := by rw [ae _ _ (by omega)]; exact h2.hs
  go := by rw [ae _ _ (by omega)]; exact h2.go
  ld := by rw [ae _ _ (by omega)]; exact h2.ld
  he := fun m u hu => by
   rw [yw hil]; by_cases e : m = i
   ·subst e; rw [hv] at hu; cases hu
    rw [au, if_pos rfl]; exact h3
   ·rw [ae _ _ (by omega), if_neg e]; exact h2.he m u hu
  wa := fun j p hp => by rw [ae _ _ (by omega)]; exact h2.wa j p hp
  fx := fun k b p hx => by rw [ae _ _ (by omega)]; exact h2.fx k b p hx
  ka := h2.ka
  hl := by show A.hs.length = (X.he.set i l').length; rw [List.length_set]; exact h2.hl }
theorem RD.Jv (h : RD W B A X) {i g n c N : Nat} {v v' : Value} (hv : A.hs[i]? = some v) (hg : A.hh = .slice (some ⟨g, 0, none⟩) n c) {l' : List Xh} (hown : Own W' N 107 6 jG v' l') (hN : W.heap.size ≤ N) (hb : Below N W W')
 (hown2 : Own (W'.setCell ⟨g, i, none⟩ v') B 103 1 zO A.hh (A.hs.set i v')) : RD (W'.setCell ⟨g, i, none⟩ v') B { A with hs := A.hs.set i v' } (X.setH i l') := by
 obtain ⟨M, h1, h2⟩ := h; have hil : i < X.he.length := by rw [← h2.hl]; exact (List.getElem?_eq_some_iff.1 hv).1
 obtain ⟨x, h3, h4⟩ := h1.grow (r := 5 + 3 * i) (h2.he i v hv) (Own.jm hown (Nat.le_trans h1.base hN)) hb.size (xe hown hN hb); have hhs : bV (upM M (5 + 3 * i) x 2) 103 1 zO A.hh A.hs := by rw [ae _ _ (by omega)]; exact h2.hs
 obtain ⟨y, h5, h6⟩ := h4.grow (r := 2) hhs hown2 (Onl.set g W' i v').size (gW hg (Onl.set g W' i v')); refine ⟨_, h6, ?_⟩; exact {
  wl := by rw [ae _ _ (by omega), ae _ _ (by omega)]; exact h2.wl
  ak := by rw [ae _ _ (by omega), ae _ _ (by omega)]; exact h2.ak
  hs := by rw [au]; exact h5
  go := by rw [ae _ _ (by omega), ae _ _ (by omega)]; exact h2.go
  ld := by rw [ae _ _ (by omega), ae _ _ (by omega)]; exact h2.ld
  he := fun m u hu => by
   rw [ae _ _ (by omega), yw hil]; rcases bI hu with ⟨rfl, rfl⟩ | ⟨hne, hu⟩
   ·rw [au, if_pos rfl]; exact h3
   ·rw [ae _ _ (by omega), if_neg hne]; exact h2.he m u hu
  wa := fun j p hp => by rw [ae _ _ (by omega), ae _ _ (by omega)]; exact h2.wa j p hp
  fx := fun k b p hx => by rw [ae _ _ (by omega), ae _ _ (by omega)]; exact h2.fx k b p hx
  ka := h2.ka
  hl := by show (A.hs.set i v').length = (X.he.set i l').length; rw [List.length_set, List.length_set]; exact h2.hl }
end
end Go.Proofs.YtgohddfnhofjhaaGreatDoor

/- The caches in memory: what one step of each kind changes. -/
import Derived.Test.YtgohddfnhofjhaaGreatDoorK09
import Derived.Sort.Walk0
import Derived.Test.YtgohddfnhofjhaaGreatDoorK08
import Derived.Test.YtgohddfnhofjhaaGreatDoorK03
import Derived.Test.YtgohddfnhofjhaaGreatDoorK01
set_option maxRecDepth 100000
set_option maxHeartbeats 4000000
namespace Go.Proofs.YtgohddfnhofjhaaGreatDoor
open Go.RowKit
theorem gy.look1 {w : World} {b n : Nat} {f : ByteArray → Hld} {ks : List ByteArray} (h : gy w b n f ks) (k : ByteArray) (hm : k ∈ ks) :
 (Instr.lookup 81 (.map (some b)) (.string k) false).run Tryz.prog w = .ok (o9 (f k)) w := by
 obtain ⟨g1, g2, D, h1, h2, h3, h4, h5⟩ := h; obtain ⟨v, ps, hr, hv⟩ := h1.lookup nI Tryz.underlying81 (Iz w) (qY default) (nJ (g2 k hm)); obtain ⟨c, rfl, hc⟩ := nU hv; rw [h3 k hm] at hc; rw [rH hc]; exact hr
def lgB (f : ByteArray → Hld) (y x : ByteArray) : Bool := decide ((f y).us < (f x).us) || ((f y).us == (f x).us && Op.bytesLess y.toList x.toList)
theorem FV {f : ByteArray → Hld} {x y z : ByteArray} (h : lgB f x y = true) (g : lgB f y z = true) : lgB f x z = true := by
 unfold lgB at *; rw [bytesLess_eq] at *; simp only [Bool.or_eq_true, Bool.and_eq_true, decide_eq_true_eq, beq_iff_eq] at *
 rcases h with h | ⟨h, h'⟩ <;> rcases g with g | ⟨g, g'⟩
 ·exact .inl (by omega)
 ·exact .inl (by omega)
 ·exact .inl (by omega)
 ·exact .inr ⟨by omega, List.lt_trans h' g'⟩
def zY (f : ByteArray → Hld) (ks : List ByteArray) (x : ByteArray) : Prop := x ∈ ks ∧ ∀ y, y ∈ ks → lgB f y x = false
def zX (f : ByteArray → Hld) (ks left : List ByteArray) (x : ByteArray) (first : Bool) : Prop := (first = true ∧ left = ks) ∨ (first = false ∧ x ∈ ks ∧ ∀ y, y ∈ ks → ¬ y ∈ left → lgB f y x = false)
theorem zX.fin {f : ByteArray → Hld} {ks : List ByteArray} {x : ByteArray} {first : Bool} (h : zX f ks [] x first) (hne : ks ≠ []) : zY f ks x := by
 rcases h with ⟨_, h⟩ | ⟨_, h1, h2⟩
 ·exact absurd h.symm hne
 ·exact ⟨h1, fun y hy => h2 y hy (by simp)⟩
theorem wX (f : ByteArray → Hld) (x : ByteArray) : lgB f x x = false := by
 unfold lgB; rw [bytesLess_eq]; simp
theorem zX.take {f : ByteArray → Hld} {ks left : List ByteArray} {x k : ByteArray} {first : Bool} (h : zX f ks left x first) (hk : k ∈ ks) (hx : first = true ∨ lgB f k x = true) : zX f ks (rmv k left) k false := by
 refine .inr ⟨rfl, hk, fun y hy hn => ?_⟩; rw [aU] at hn; by_cases e : y = k
 ·rw [e]; exact wX f k
 ·have hyl : ¬ y ∈ left := fun hl => hn ⟨hl, e⟩
  rcases h with ⟨_, h⟩ | ⟨hf, h1, h2⟩
  ·rw [h] at hyl; exact absurd hy hyl
  ·rcases hx with hx | hx
   ·rw [hf] at hx; cases hx
   ·cases hb : lgB f y k
    ·rfl
    ·have := FV hb hx; rw [h2 y hy hyl] at this; cases this
theorem zX.leave {f : ByteArray → Hld} {ks left : List ByteArray} {x k : ByteArray} (h : zX f ks left x false) (hx : lgB f k x = false) : zX f ks (rmv k left) x false := by
 rcases h with ⟨h, _⟩ | ⟨hf, h1, h2⟩
 ·cases h
 ·refine .inr ⟨rfl, h1, fun y hy hn => ?_⟩; by_cases e : y = k
  ·rw [e]; exact hx
  ·exact h2 y hy (fun hl => hn (aU.2 ⟨hl, e⟩))
theorem Hq (w : World) (a1 a2 a3 a6 : Int) (a4 : Bool) (a5 : ByteArray) : (Instr.field 97 (.agg #[.int .i64 a1, .int .i64 a2, .int .i64 a3, .bool a4, .string a5, .int .i64 a6]) 1).run Tryz.prog w = .ok (.int .i64 a6) w := by kernel_rfl
theorem Hr (w : World) (a1 a2 a3 a6 : Int) (a4 : Bool) (a5 : ByteArray) : (Instr.field 97 (.agg #[.int .i64 a1, .int .i64 a2, .int .i64 a3, .bool a4, .string a5, .int .i64 a6]) 0).run Tryz.prog w = .ok (.agg #[.int .i64 a1, .int .i64 a2, .int .i64 a3, .bool a4, .string a5]) w := by kernel_rfl
def KJ (w : World) (f : ByteArray → Hld) (ks : List ByteArray) : Ending → World → Prop := fun e w' => ∃ x, e = .returned (.string x) ∧ zY f ks x ∧ Below w.heap.size w w'
theorem oW (w : World) (b n : Nat) (f : ByteArray → Hld) (ks : List ByteArray) (hm : gy w b n f ks) (hne : ks ≠ []) :
 Calls Tryz.prog 154 #[.map (some b)] w (KJ w f ks) := by
 have HNE := Lr hne; have hbl := hm.lt; have HMH := Lr hm; obtain ⟨wi, hrg, hrv, hgi, hsi⟩ := hm.range; have HRI : Hid (oN wi b w.heap.size n f ks ks) := Lr hrv; have HBI : Hid (Below w.heap.size w wi) := Lr ((LD _ w).grown hgi (Ls _) (fun i hi => by cases hi)); obtain ⟨R, hR⟩ : ∃ R, R = w.heap.size := ⟨_, rfl⟩
 rw [← hR] at hrg HRI; have HR := Lr hR; have HBL := Lr hbl; clear hne hm hrv hgi hsi hR hbl; unfold KJ
 go_enter Tryz.func154, Tryz.ntmps154
 go_wp2
 go_loopg [3, 4, 5, 6] ks.length (fun gg s3 s4 s5 s6 wr => ∃ (left : List ByteArray) (x : ByteArray) (first : Bool), left.length ≤ gg ∧ s3 = .string x ∧ s4 = .bool first ∧ Aside (oN wr b R n f ks left) ∧ Aside (zX f ks left x first) ∧ Aside (Below w.heap.size w wr))
 case atStart => exact ⟨ks, _, true, Ls _, rfl, rfl, (show Aside _ from HRI.out), (show Aside (zX _ _ _ _ _) from Or.inl ⟨rfl, rfl⟩), (show Aside _ from HBI.out)⟩
 case round =>
  obtain ⟨wq, rfl⟩ : ∃ wq : World, wq = wr := ⟨_, rfl⟩
  obtain ⟨left, x, first, hgl, rfl, rfl, RV, FS, BU⟩ := hrel; rcases RV.out.step 0 with ⟨hnil, hrun⟩ | ⟨v, wn, hv, hrun, hrv, hgr, hsz, hen⟩
  ·have HW : Hid (zY f ks x) := Lr (zX.fin (by have h := FS.out; rw [hnil] at h; exact h) HNE.out); have HB := Lr BU.out; clear hnil BU FS RV
   go_wp2
   go_ret
   exact ⟨x, rfl, HW.out, HB.out⟩
  have hvk := RV.out.2.1 v hv; have hrle := pR hv; have HBV : Hid (Below w.heap.size w wn) := Lr (BU.out.grown hgr (by have := BU.out.size; have := HR.out; omega) (fun j hj => by cases hj; have := HR.out; omega)); obtain ⟨w2, hw2⟩ : ∃ w2, w2 = wn.alloc (.cells #[.int .i64 (f v).an.ve, .int .i64 (f v).an.bo, .int .i64 (f v).an.si, .bool (f v).an.no, .string (f v).an.fr, .int .i64 (f v).us] 97) := ⟨_, rfl⟩
  have HB2 : Hid (Below w.heap.size w w2) := Lr (by rw [hw2]; exact HBV.out.alloc HBV.out.size _); have HM2 : Hid (gy w2 b n f ks) := Lr (HMH.out.same (HB2.out.block b HBL.out)); have HR2 : Hid (oN w2 b R n f ks (rmv v left)) := Lr (by rw [hw2]; exact hrv.kept (World.grownBy_alloc wn _ none) (by simp) (by simp)); have hbk : w2.heap[wn.heap.size]? = some (.cells #[.int .i64 (f v).an.ve, .int .i64 (f v).an.bo, .int .i64 (f v).an.si, .bool (f v).an.no, .string (f v).an.fr, .int .i64 (f v).us] 97 (0, 0)) := by rw [hw2]; exact ag wn _
  have d5 : w2.cell? ⟨wn.heap.size, 5, none⟩ = some (.int .i64 (f v).us) := (cell_of_block (i := 5) hbk).trans rfl; have HW2 := Lr hw2; have HTK := Lr (fun h => FS.out.take (k := v) hvk h); have HLV := Lr (fun (h : first = false) => (show zX f ks left x false by rw [← h]; exact FS.out).leave (k := v)); have HXK : Hid (first = false → x ∈ ks) := Lr (fun h => by
   rcases FS.out with ⟨h1, _⟩ | ⟨_, h1, _⟩
   ·rw [h] at h1; cases h1
   ·exact h1)
  have HLG : Hid (lgB f v x = (decide ((f v).us < (f x).us) || ((f v).us == (f x).us && Op.bytesLess v.toList x.toList))) := Lr rfl; have hen2 : (Instr.entry (.pointer (some ⟨R, 0, none⟩))).run Tryz.prog wn = .ok (.tuple #[.string v, .agg #[.int .i64 (f v).an.ve, .int .i64 (f v).an.bo, .int .i64 (f v).an.si, .bool (f v).an.no, .string (f v).an.fr, .int .i64 (f v).us]]) wn := hen; have hrun2 : (Instr.next (.pointer (some ⟨R, 0, none⟩)) false 0).run Tryz.prog wq = .ok (.tuple #[.bool true, .string v, .agg #[.int .i64 (f v).an.ve, .int .i64 (f v).an.bo, .int .i64 (f v).an.si, .bool (f v).an.no, .string (f v).an.fr, .int .i64 (f v).us]]) wn := hrun; have hle : (rmv v left).length + 1 ≤ left.length := hrle; clear hrv hgr hsz RV FS BU hv hvk hbk hw2 hen hrun hrle HRI
  go_upto_region 5 with (fail)
  rw [← HW2.out]; obtain ⟨NN, hNN⟩ : ∃ NN, NN = wn.heap.size := ⟨_, rfl⟩
  rw [← hNN] at d5 ⊢; clear hNN; cases first
  case true =>
   go_wp2
   go_roundg (rmv v left).length
   case measure => omega
   case rel => exact ⟨rmv v left, v, false, Ls _, rfl, rfl, (show Aside _ from HR2.out), (show Aside _ from HTK.out (Or.inl (by trivial))), (show Aside _ from HB2.out)⟩
  case false =>
   have hfd := Hq; have hlk : (Instr.lookup 81 (.map (some b)) (.string x) false).run Tryz.prog w2 = .ok (.agg #[.int .i64 (f x).an.ve, .int .i64 (f x).an.bo, .int .i64 (f x).an.si, .bool (f x).an.no, .string (f x).an.fr, .int .i64 (f x).us]) w2 := HM2.out.look1 x (HXK.out rfl); generalize (f x).an.ve = x1 at hlk; generalize (f x).an.bo = x2 at hlk; generalize (f x).an.si = x3 at hlk; generalize (f x).an.no = x4 at hlk; generalize (f x).an.fr = x5 at hlk; obtain ⟨ux, hux⟩ : ∃ u, u = (f x).us := ⟨_, rfl⟩
   obtain ⟨uv, huv⟩ : ∃ u, u = (f v).us := ⟨_, rfl⟩
   rw [← hux, ← huv] at HLG; rw [← hux] at hlk; rw [← huv] at d5 ⊢; clear hux huv hrun2 hen2; by_cases h1 : uv < ux
   ·have hb : Hid (lgB f v x = true) := Lr (by rw [HLG.out]; simp [h1])
    go_wp2
    go_roundg (rmv v left).length
    case measure => omega
    case rel => exact ⟨rmv v left, v, false, Ls _, rfl, rfl, (show Aside _ from HR2.out), (show Aside _ from HTK.out (.inr hb.out)), (show Aside _ from HB2.out)⟩
   ·by_cases h2 : uv = ux
    ·have h2b : (uv == ux) = true := by simpa using h2
     cases h3 : Op.bytesLess v.toList x.toList
     ·have hb : Hid (lgB f v x = false) := Lr (by rw [HLG.out]; simp [h1, h3]); clear h2
      go_wp2
      go_roundg (rmv v left).length
      case measure => omega
      case rel => exact ⟨rmv v left, x, false, Ls _, rfl, rfl, (show Aside _ from HR2.out), (show Aside _ from HLV.out (by trivial) hb.out), (show Aside _ from HB2.out)⟩
     ·have hb : Hid (lgB f v x = true) := Lr (by rw [HLG.out]; simp [h2b, h3]); clear h2
      go_wp2
      go_roundg (rmv v left).length
      case measure => omega
      case rel => exact ⟨rmv v left, v, false, Ls _, rfl, rfl, (show Aside _ from HR2.out), (show Aside _ from HTK.out (.inr hb.out)), (show Aside _ from HB2.out)⟩
    ·have h2b : (uv == ux) = false := by simpa using h2
     have hb : Hid (lgB f v x = false) := Lr (by rw [HLG.out]; simp [h1, h2b]); clear h2
     go_wp2
     go_roundg (rmv v left).length
     case measure => omega
     case rel => exact ⟨rmv v left, x, false, Ls _, rfl, rfl, (show Aside _ from HR2.out), (show Aside _ from HLV.out (by trivial) hb.out), (show Aside _ from HB2.out)⟩
abbrev rWl : Nat := 0
abbrev rSs : Nat := 1
abbrev rGo : Nat := 2
abbrev rQu : Nat := 3
abbrev rSt (i : Nat) : Nat := 4 + 5 * i
abbrev rMp (i : Nat) : Nat := 5 + 5 * i
abbrev rSa (i : Nat) : Nat := 6 + 5 * i
abbrev rAk (j : Nat) : Nat := 7 + 5 * j
abbrev rWa (j : Nat) : Nat := 8 + 5 * j
abbrev Mem := Nat → Option (Nat × Obj)
def upM (M : Mem) (r : Nat) (x : Option (Nat × Obj)) : Mem := fun q => if q = r then x else M q
theorem au (M : Mem) (r : Nat) (x : Option (Nat × Obj)) : upM M r x r = x := if_pos rfl
theorem ae (M : Mem) {r q : Nat} (x : Option (Nat × Obj)) (h : q ≠ r) : upM M r x q = M q := if_neg h
structure Mm (W : World) (B : Nat) (M : Mem) : Prop where
 at_ : ∀ r b o, M r = some (b, o) → B ≤ b ∧ W.heap[b]? = some o
 inj : ∀ r q b o o', M r = some (b, o) → M q = some (b, o') → r = q
 base : B ≤ W.heap.size
section
variable {W W' : World} {B : Nat} {M : Mem}
theorem Mm.lt (h : Mm W B M) {r b : Nat} {o : Obj} (hr : M r = some (b, o)) : b < W.heap.size := (Array.getElem?_eq_some_iff.1 (h.at_ r b o hr).2).1
theorem Mm.keep (h : Mm W B M) (hs : W.heap.size ≤ W'.heap.size) (hk : ∀ r b o, M r = some (b, o) → W'.heap[b]? = W.heap[b]?) : Mm W' B M :=
 ⟨fun r b o hr => ⟨(h.at_ r b o hr).1, (hk r b o hr).trans (h.at_ r b o hr).2⟩, h.inj, Nat.le_trans h.base hs⟩
theorem Mm.below (h : Mm W B M) (hb : Below W.heap.size W W') : Mm W' B M := h.keep hb.size fun _ b _ hr => hb.block b (h.lt hr)
theorem Mm.put (h : Mm W B M) (hs : W.heap.size ≤ W'.heap.size) {r b' : Nat} {o' : Obj} (hb : B ≤ b') (ho : W'.heap[b']? = some o') (hk : ∀ q b o, q ≠ r → M q = some (b, o) → W'.heap[b]? = W.heap[b]? ∧ b ≠ b') : Mm W' B (upM M r (some (b', o'))) where
 at_ q b o hq := by
  by_cases e : q = r
  ·subst e; rw [au] at hq; cases hq
   exact ⟨hb, ho⟩
  ·rw [ae _ _ e] at hq; exact ⟨(h.at_ q b o hq).1, (hk q b o e hq).1.trans (h.at_ q b o hq).2⟩
 inj q p b o o' hq hp := by
  by_cases e : q = r
  ·by_cases f : p = r
   ·rw [e, f]
   ·subst e; rw [au] at hq; rw [ae _ _ f] at hp; cases hq
    exact absurd rfl (hk p _ _ f hp).2
  ·rw [ae _ _ e] at hq; by_cases f : p = r
   ·subst f; rw [au] at hp; cases hp
    exact absurd rfl (hk q _ _ e hq).2
   ·rw [ae _ _ f] at hp; exact h.inj q p b o o' hq hp
 base := Nat.le_trans h.base hs
theorem Mm.drop (h : Mm W B M) (hs : W.heap.size ≤ W'.heap.size) {r : Nat} (hk : ∀ q b o, q ≠ r → M q = some (b, o) → W'.heap[b]? = W.heap[b]?) : Mm W' B (upM M r none) where
 at_ q b o hq := by
  by_cases e : q = r
  ·subst e; rw [au] at hq; cases hq
  ·rw [ae _ _ e] at hq; exact ⟨(h.at_ q b o hq).1, (hk q b o e hq).trans (h.at_ q b o hq).2⟩
 inj q p b o o' hq hp := by
  by_cases e : q = r
  ·subst e; rw [au] at hq; cases hq
  ·by_cases f : p = r
   ·subst f; rw [au] at hp; cases hp
   ·rw [ae _ _ e] at hq; rw [ae _ _ f] at hp; exact h.inj q p b o o' hq hp
 base := Nat.le_trans h.base hs
theorem Mm.onl (h : Mm W B M) {r b : Nat} {o o' : Obj} (hr : M r = some (b, o)) (ho : Onl b W W') (hb : W'.heap[b]? = some o') : Mm W' B (upM M r (some (b, o'))) :=
 h.put ho.size (h.at_ r b o hr).1 hb fun q c p hq hc => by
  have hne : c ≠ b := fun e => hq (by subst e; exact h.inj q r c p o hc hr)
  exact ⟨World.grownBy.block ho c (h.lt hc) (fun e => hne (by simpa using e)), hne⟩
theorem Mm.set (h : Mm W B M) {r b : Nat} {cs : Array Value} {T : TypeId} (hr : M r = some (b, .cells cs T (0, 0))) (i : Nat) (v : Value) : Mm (W.setCell ⟨b, i, none⟩ v) B (upM M r (some (b, .cells (cs.setIfInBounds i v) T (0, 0)))) := by
 refine h.onl hr (Onl.set b W i v) ?_; have hc := (h.at_ _ _ _ hr).2; rw [setCell_eq_setRow W b i cs T (0, 0) v hc]; exact setRow_heap W b cs _ T (0, 0) hc
theorem Mm.new (h : Mm W B M) (r : Nat) (o : Obj) : Mm (W.alloc o) B (upM M r (some (W.heap.size, o))) :=
 h.put (by simp) h.base (ag W o) fun q b p _ hq => ⟨Below.heap_alloc W o b (h.lt hq), Nat.ne_of_lt (h.lt hq)⟩
def bV {α : Type} (x : Option (Nat × Obj)) (E : TypeId) (k : Nat) (enc : α → List Value) (v : Value) (l : List α) : Prop :=
 (v = .slice none 0 0 ∧ l = [] ∧ x = none) ∨ ∃ g cap cur, v = .slice (some ⟨g, 0, none⟩) l.length cap ∧ x = some (g, .cells cur E (0, 0)) ∧ l.length ≤ cap ∧ cap ≤ maxLen ∧ cur.size = cap * k ∧ cur.toList.take (l.length * k) = l.flatMap enc
theorem bV.own {α : Type} (h : Mm W B M) {r k : Nat} {E : TypeId} {enc : α → List Value} {v : Value} {l : List α} (ho : bV (M r) E k enc v l) (hk : ∀ x, (enc x).length = k) : Own W B E k enc v l := by
 rcases ho with ⟨rfl, rfl, _⟩ | ⟨g, cap, cur, hv, hx, h1, h2, h3, h4⟩
 ·exact Own.nil
 ·obtain ⟨hb, hc⟩ := h.at_ _ _ _ hx; exact ⟨ay hk l, .inr ⟨g, cap, cur, hv, hb, hc, h1, h2, h3, h4⟩⟩
theorem bV.off {α : Type} (h : Mm W B M) {r q k b : Nat} {E : TypeId} {enc : α → List Value} {v : Value} {l : List α} {o : Obj} (ho : bV (M r) E k enc v l) (hq : M q = some (b, o)) (hne : q ≠ r) : df b v := by
 rcases ho with ⟨rfl, _⟩ | ⟨g, cap, cur, rfl, hx, _⟩
 ·exact df.nil b
 ·exact df.mk (fun e => hne (by subst e; exact h.inj q r g o _ hq hx))
theorem bV.BB {α : Type} {k : Nat} {E : TypeId} {enc : α → List Value} {v : Value} {l : List α} (h : Own W B E k enc v l) : (v = .slice none 0 0 ∧ bV none E k enc v l) ∨ ∃ g o cap, v = .slice (some ⟨g, 0, none⟩) l.length cap ∧ B ≤ g ∧ W.heap[g]? = some o ∧ bV (some (g, o)) E k enc v l := by
 obtain ⟨h1, h2⟩ := h; rcases h2 with ⟨rfl, h2⟩ | ⟨g, cap, cur, rfl, hg, hh, hn, hm, hs, ht⟩
 ·exact .inl ⟨rfl, .inl ⟨rfl, List.length_eq_zero_iff.1 h2, rfl⟩⟩
 ·exact .inr ⟨g, _, cap, rfl, hg, hh, .inr ⟨g, cap, cur, rfl, rfl, hn, hm, hs, ht⟩⟩
theorem Mm.grow {α : Type} (h : Mm W B M) {r k : Nat} {E : TypeId} {enc enc' : α → List Value} {v v' : Value} {l l' : List α} (ho : bV (M r) E k enc v l) (hown : Own W' B E k enc' v' l') (hs : W.heap.size ≤ W'.heap.size) (hk : dm W W' v v') :
 ∃ x, bV x E k enc' v' l' ∧ Mm W' B (upM M r x) := by
 have hoff : ∀ q b o, q ≠ r → M q = some (b, o) → W'.heap[b]? = W.heap[b]? ∧ df b v' := fun q b o hq hb => hk b (h.lt hb) (bV.off h ho hb hq)
 rcases bV.BB hown with ⟨rfl, h1⟩ | ⟨g, o, cap, rfl, hg, hh, h1⟩
 ·exact ⟨none, h1, h.drop hs fun q b o hq hb => (hoff q b o hq hb).1⟩
 ·exact ⟨_, h1, h.put hs hg hh fun q b p hq hb => ⟨(hoff q b p hq hb).1, fun e => (hoff q b p hq hb).2 _ _ _ rfl e.symm⟩⟩
theorem Mm.queue (h : Mm W B M) {a a' : Nat → Nat} {Q : Nat} {cs : Array Value} {T : TypeId} {v v' : Value} {l l' : List Evn} (ho : bV (M rQu) 133 8 (fV a) v l) (hw : M rWl = some (Q, .cells cs T (0, 0))) (hq : QAt Q B a' W' v' l') (hc : oO Q W W' v v') :
 ∃ x, bV x 133 8 (fV a') v' l' ∧ Mm W' B (upM (upM M rQu x) rWl (some (Q, .cells (cs.setIfInBounds 5 v') T (0, 0)))) := by
 have hQ := h.lt hw; have hoff : ∀ q b o, q ≠ rQu → q ≠ rWl → M q = some (b, o) → W'.heap[b]? = W.heap[b]? ∧ df b v' ∧ b ≠ Q := fun q b o hq1 hq2 hb => by
  have hbQ : b ≠ Q := fun e => hq2 (by subst e; exact h.inj q rWl b o _ hb hw)
  obtain ⟨k1, k2⟩ := hc.other b (h.lt hb) hbQ (bV.off h ho hb hq1); exact ⟨k1, k2, hbQ⟩
 have hown := hc.own cs T (0, 0) (h.at_ _ _ _ hw).2; have hbw := (h.at_ _ _ _ hw).1; have key : ∀ x : Option (Nat × Obj), (∀ b o, x = some (b, o) → B ≤ b ∧ W'.heap[b]? = some o ∧ b ≠ Q ∧ ∀ q c p, q ≠ rQu → q ≠ rWl → M q = some (c, p) → c ≠ b) → Mm W' B (upM (upM M rQu x) rWl (some (Q, .cells (cs.setIfInBounds 5 v') T (0, 0)))) := fun x hx =>
  ⟨fun r b o hr => by
   by_cases e : r = rWl
   ·subst e; rw [au] at hr; cases hr
    exact ⟨hbw, hown⟩
   ·rw [ae _ _ e] at hr; by_cases f : r = rQu
    ·subst f; rw [au] at hr; exact ⟨(hx b o hr).1, (hx b o hr).2.1⟩
    ·rw [ae _ _ f] at hr; exact ⟨(h.at_ r b o hr).1, (hoff r b o f e hr).1.trans (h.at_ r b o hr).2⟩,
   fun r q b o o' hr hq => by
    by_cases e : r = rWl
    ·by_cases e2 : q = rWl
     ·rw [e, e2]
     ·exfalso
      subst e; rw [au] at hr; cases hr
      rw [ae _ _ e2] at hq; by_cases f : q = rQu
      ·subst f; rw [au] at hq; exact (hx Q o' hq).2.2.1 rfl
      ·rw [ae _ _ f] at hq; exact (hoff q Q o' f e2 hq).2.2 rfl
    ·rw [ae _ _ e] at hr; by_cases e2 : q = rWl
     ·exfalso
      subst e2; rw [au] at hq; cases hq
      by_cases f : r = rQu
      ·subst f; rw [au] at hr; exact (hx Q o hr).2.2.1 rfl
      ·rw [ae _ _ f] at hr; exact (hoff r Q o f e hr).2.2 rfl
     ·rw [ae _ _ e2] at hq; by_cases f : r = rQu
      ·by_cases f2 : q = rQu
       ·rw [f, f2]
       ·exfalso
        subst f; rw [au] at hr; rw [ae _ _ f2] at hq; exact (hx b o hr).2.2.2 q b o' f2 e2 hq rfl
      ·rw [ae _ _ f] at hr; by_cases f2 : q = rQu
       ·exfalso
        subst f2; rw [au] at hq; exact (hx b o' hq).2.2.2 r b o f e hr rfl
       ·rw [ae _ _ f2] at hq; exact h.inj r q b o o' hr hq,
   Nat.le_trans h.base hc.size⟩
 rcases bV.BB hq.own with ⟨rfl, h1⟩ | ⟨g, o, cap, rfl, hg, hh, h1⟩
 ·exact ⟨none, h1, key none (fun b o hx => by cases hx)⟩
 ·refine ⟨_, h1, key _ (fun b o' hx => ?_)⟩; cases hx
  exact ⟨hg, hh, fun e => hq.off _ _ _ rfl e, fun q c p hq1 hq2 hc1 e => (hoff q c p hq1 hq2 hc1).2.1 _ _ _ rfl e.symm⟩
end
structure Ldd where
 ca : Int
 fr : Int
 sl : Int
 wt : Int
 ak : Int
 bs : Int
instance : Inhabited Ldd := ⟨⟨0, 0, 0, 0, 0, 0⟩⟩
structure Gtn where
 ti : Int
 ve : Int
 bo : Int
 fr : ByteArray
 ho : Int
instance : Inhabited Gtn := ⟨⟨0, 0, 0, ⟨#[]⟩, 0⟩⟩
def jF (x : Gtn) : List Value := [.int .i64 x.ti, .int .i64 x.ve, .int .i64 x.bo, .string x.fr, .int .i64 x.ho]
theorem dH (x : Gtn) : (jF x).length = 5 := rfl
structure Wtr where
 ge : Nat
 ak : Option Nat
instance : Inhabited Wtr := ⟨⟨0, none⟩⟩
def jb (a : Nat → Nat) (x : Wtr) : List Value := [.int .i64 (x.ge : Nat), .pointer (x.ak.map fun j => ⟨a j, 0, none⟩)]
theorem ik (a : Nat → Nat) (x : Wtr) : (jb a x).length = 2 := rfl
def oH (a : Nat → Nat) (j : Nat) : List Value := [.pointer (some ⟨a j, 0, none⟩)]
theorem bH (a : Nat → Nat) (x : Nat) : (oH a x).length = 1 := rfl
structure Sto where
 ch : Cch
 pa : Int
 ks : List ByteArray
 hm : ByteArray → Hld
 ar : List Nat
 ld : Ldd
instance : Inhabited Sto := ⟨⟨default, 0, [], fun _ => default, [], default⟩⟩
structure Day where
 st : List Sto
 qu : List Evn
 ak : List Akn
 wa : Nat → List Wtr
 go : List Gtn
 no : Int
 pu : Nat
def Day.K (D : Day) (j : Nat) : Akn := D.ak.getD j default
structure Adr where
 q : Nat
 d0 : Value
 d1 : Value
 d2 : Value
 d3 : Value
 sv : Value
 gv : Value
 qv : Value
 sb : Nat → Nat
 mb : Nat → Nat
 ab : Nat → Nat
 av : Nat → Value
 wv : Nat → Value
 x : List (Nat × Obj)
def upF {α : Type} (f : Nat → α) (i : Nat) (x : α) : Nat → α := fun j => if j = i then x else f j
theorem aZ {α : Type} (f : Nat → α) (i : Nat) (x : α) : upF f i x i = x := if_pos rfl
theorem aS {α : Type} (f : Nat → α) {i j : Nat} (x : α) (h : j ≠ i) : upF f i x j = f j := if_neg h
def qo (A : Adr) (D : Day) : Array Value := #[A.d0, A.d1, A.d2, A.d3, A.sv, A.qv, .int .i64 (D.ak.length : Nat), A.gv, .int .i64 D.no]
def cellsS (A : Adr) (i : Nat) (s : Sto) : Array Value := #[.string s.ch.na, .string s.ch.pa, .int .i64 s.ch.de, .int .i64 s.ch.ro, .int .i64 s.pa, .map (some (A.mb i)), A.av i, .int .i64 s.ld.ca, .int .i64 s.ld.fr, .int .i64 s.ld.sl, .int .i64 s.ld.wt, .int .i64 s.ld.ak, .int .i64 s.ld.bs]
def cellsA (A : Adr) (j : Nat) (k : Akn) : Array Value := #[.int .i64 (k.ca : Nat), .int .i64 (j : Nat), .int .i64 k.ma, .string k.ke, .bool k.kp, A.wv j]
def Gl (o : Obj) (n : Nat) (f : ByteArray → Hld) (ks : List ByteArray) : Prop := ∀ (W : World) (b : Nat), W.heap[b]? = some o → gy W b n f ks
theorem Gl.of {W : World} {b n : Nat} {o : Obj} {f : ByteArray → Hld} {ks : List ByteArray} (h : gy W b n f ks) (ho : W.heap[b]? = some o) : Gl o n f ks := fun W' b' hb => by
 obtain ⟨g1, g2, D, ⟨es, cl, h1, h2⟩, h3⟩ := h; rw [ho] at h1; exact ⟨g1, g2, D, ⟨es, cl, hb.trans h1, h2⟩, h3⟩
structure Le (A : Adr) (D : Day) (M : Mem) : Prop where
 wl : M rWl = some (A.q, .cells (qo A D) 68 (0, 0))
 ss : bV (M rSs) 80 1 (oH A.sb) A.sv (List.range D.st.length)
 go : bV (M rGo) 35 5 jF A.gv D.go
 qu : bV (M rQu) 133 8 (fV A.ab) A.qv D.qu
 st : ∀ i s, D.st[i]? = some s → M (rSt i) = some (A.sb i, .cells (cellsS A i s) 84 (0, 0))
 mp : ∀ i s, D.st[i]? = some s → ∃ o, M (rMp i) = some (A.mb i, o) ∧ Gl o D.pu s.hm s.ks
 sa : ∀ i s, D.st[i]? = some s → bV (M (rSa i)) 131 1 (oH A.ab) (A.av i) s.ar
 ak : ∀ j k, D.ak[j]? = some k → M (rAk j) = some (A.ab j, .cells (cellsA A j k) 142 (0, 0))
 wa : ∀ j k, D.ak[j]? = some k → bV (M (rWa j)) 139 2 (jb A.ab) (A.wv j) (D.wa j)
 fx : ∀ (k b : Nat) (o : Obj), A.x[k]? = some (b, o) → M (rSt (D.st.length + k)) = some (b, o)
def PD (W : World) (B : Nat) (A : Adr) (D : Day) : Prop := ∃ M, Mm W B M ∧ Le A D M
section
variable {W W' : World} {B : Nat} {A : Adr} {D : Day}
theorem PD.below (h : PD W B A D) (hb : Below W.heap.size W W') : PD W' B A D := by
 obtain ⟨M, h1, h2⟩ := h; exact ⟨M, h1.below hb, h2⟩
theorem PD.base (h : PD W B A D) : B ≤ W.heap.size := by
 obtain ⟨M, h1, h2⟩ := h; exact h1.base
theorem PD.qb (h : PD W B A D) : B ≤ A.q ∧ W.heap[A.q]? = some (.cells (qo A D) 68 (0, 0)) := by
 obtain ⟨M, h1, h2⟩ := h; exact h1.at_ _ _ _ h2.wl
theorem PD.sb (h : PD W B A D) {i : Nat} {s : Sto} (hs : D.st[i]? = some s) : B ≤ A.sb i ∧ W.heap[A.sb i]? = some (.cells (cellsS A i s) 84 (0, 0)) := by
 obtain ⟨M, h1, h2⟩ := h; exact h1.at_ _ _ _ (h2.st i s hs)
theorem PD.ab (h : PD W B A D) {j : Nat} {k : Akn} (hk : D.ak[j]? = some k) : B ≤ A.ab j ∧ W.heap[A.ab j]? = some (.cells (cellsA A j k) 142 (0, 0)) := by
 obtain ⟨M, h1, h2⟩ := h; exact h1.at_ _ _ _ (h2.ak j k hk)
theorem af {b : Nat} {cs : Array Value} {T : TypeId} (h : W.heap[b]? = some (.cells cs T (0, 0))) (i : Nat) {v : Value} (hv : cs[i]? = some v) : W.cell? ⟨b, i, none⟩ = some v := (cell_of_block h).trans hv
theorem cO {b : Nat} {cs : Array Value} {T : TypeId} (h : W.heap[b]? = some (.cells cs T (0, 0))) (i : Nat) : W.frozen? ⟨b, i, none⟩ = false := by simp [World.frozen?, h]
theorem PD.map (h : PD W B A D) {i : Nat} {s : Sto} (hs : D.st[i]? = some s) : B ≤ A.mb i ∧ gy W (A.mb i) D.pu s.hm s.ks := by
 obtain ⟨M, h1, h2⟩ := h; obtain ⟨o, h3, h4⟩ := h2.mp i s hs; obtain ⟨h5, h6⟩ := h1.at_ _ _ _ h3; exact ⟨h5, h4 W _ h6⟩
theorem PD.stores (h : PD W B A D) : Own W B 80 1 (oH A.sb) A.sv (List.range D.st.length) := by
 obtain ⟨M, h1, h2⟩ := h; exact bV.own h1 h2.ss (bH _)
theorem PD.Hf (h : PD W B A D) : Own W B 35 5 jF A.gv D.go := by
 obtain ⟨M, h1, h2⟩ := h; exact bV.own h1 h2.go dH
theorem PD.asks (h : PD W B A D) {i : Nat} {s : Sto} (hs : D.st[i]? = some s) : Own W B 131 1 (oH A.ab) (A.av i) s.ar := by
 obtain ⟨M, h1, h2⟩ := h; exact bV.own h1 (h2.sa i s hs) (bH _)
theorem PD.wait (h : PD W B A D) {j : Nat} {k : Akn} (hk : D.ak[j]? = some k) : Own W B 139 2 (jb A.ab) (A.wv j) (D.wa j) := by
 obtain ⟨M, h1, h2⟩ := h; exact bV.own h1 (h2.wa j k hk) (ik _)
theorem PD.queue (h : PD W B A D) : QAt A.q B A.ab W A.qv D.qu := by
 obtain ⟨M, h1, h2⟩ := h; refine ⟨bV.own h1 h2.qu (dJ _), bV.off h1 h2.qu h2.wl (by decide), ⟨_, _, (h1.at_ _ _ _ h2.wl).2, rfl⟩, h1.base⟩
theorem PD.fr (h : PD W B A D) {k b : Nat} {o : Obj} (hx : A.x[k]? = some (b, o)) : W.heap[b]? = some o := by
 obtain ⟨M, h1, h2⟩ := h; exact (h1.at_ _ _ _ (h2.fx k b o hx)).2
theorem PD.jf (h : PD W B A D) (o : Obj) : PD (W.alloc o) B { A with x := A.x ++ [(W.heap.size, o)] } D := by
 obtain ⟨M, h1, h2⟩ := h; refine ⟨_, h1.new (rSt (D.st.length + A.x.length)) o, ?_⟩; have hS : ∀ (i : Nat) (s : Sto), D.st[i]? = some s → i < D.st.length := fun i s hs => (List.getElem?_eq_some_iff.1 hs).1
 exact {
  wl := by rw [ae _ _ (by unfold rSt rWl; omega)]; exact h2.wl
  ss := by rw [ae _ _ (by unfold rSt rSs; omega)]; exact h2.ss
  go := by rw [ae _ _ (by unfold rSt rGo; omega)]; exact h2.go
  qu := by rw [ae _ _ (by unfold rSt rQu; omega)]; exact h2.qu
  st := fun i s hs => by have := hS i s hs; rw [ae _ _ (by unfold rSt; omega)]; exact h2.st i s hs
  mp := fun i s hs => by rw [ae _ _ (by unfold rMp rSt; omega)]; exact h2.mp i s hs
  sa := fun i s hs => by rw [ae _ _ (by unfold rSa rSt; omega)]; exact h2.sa i s hs
  ak := fun i s hs => by rw [ae _ _ (by unfold rAk rSt; omega)]; exact h2.ak i s hs
  wa := fun i s hs => by rw [ae _ _ (by unfold rWa rSt; omega)]; exact h2.wa i s hs
  fx := fun k b p hx => by
   by_cases e : k = A.x.length
   ·subst e; have hx' : (A.x ++ [(W.heap.size, o)])[A.x.length]? = some (b, p) := hx; rw [List.getElem?_append_right (Ls _)] at hx'; simp at hx'
    rw [au, hx'.1, hx'.2]
   ·have hx' : (A.x ++ [(W.heap.size, o)])[k]? = some (b, p) := hx; have hk := (List.getElem?_eq_some_iff.1 hx').1; simp at hk
    rw [List.getElem?_append_left (by omega)] at hx'; rw [ae _ _ (by unfold rSt; omega)]; exact h2.fx k b p hx' }
theorem PD.lM (h : PD W B A D) {x : List (Nat × Obj)} (hx : ∃ y, A.x = x ++ y) : PD W B { A with x := x } D := by
 obtain ⟨M, h1, h2⟩ := h; obtain ⟨y, hy⟩ := hx; exact ⟨M, h1, { h2 with fx := fun k b o hk => h2.fx k b o (by
  have hk' : x[k]? = some (b, o) := hk; rw [hy, List.getElem?_append_left (List.getElem?_eq_some_iff.1 hk').1]; exact hk') }⟩
theorem PD.J8 (h : PD W B A D) {j : Nat} (hj : j < D.ak.length) : rU W A.ab D.K j ∧ df (A.ab j) A.qv ∧ A.ab j ≠ A.q := by
 obtain ⟨k, hk⟩ : ∃ k, D.ak[j]? = some k := ⟨D.ak[j], by simp [hj]⟩
 have hK : D.K j = k := by unfold Day.K; rw [Lt, hk]; rfl
 have hb := (h.ab hk).2; obtain ⟨M, h1, h2⟩ := h; refine ⟨⟨?_, ?_, ?_⟩, ?_, fun e => ?_⟩
 ·rw [hK]; exact af hb 0 rfl
 ·exact af hb 1 rfl
 ·rw [hK]; exact af hb 3 rfl
 ·exact bV.off h1 h2.qu (h2.ak j k hk) (by unfold rAk rQu; omega)
 ·have h3 := h2.ak j k hk; rw [e] at h3; have := h1.inj _ _ _ _ _ h3 h2.wl; unfold rAk rWl at this; omega
end
theorem bI {α : Type} {l : List α} {i j : Nat} {x y : α} (h : (l.set i x)[j]? = some y) : (j = i ∧ y = x) ∨ (j ≠ i ∧ l[j]? = some y) := by
 by_cases e : j = i
 ·subst e; rw [List.getElem?_set_self'] at h; cases hl : l[j]? with
  | none => rw [hl] at h; cases h
  | some z => rw [hl] at h; cases h; exact .inl ⟨rfl, rfl⟩
 ·rw [List.getElem?_set_ne (Ne.symm e)] at h; exact .inr ⟨e, h⟩
theorem dL {α : Type} {l : List α} {j : Nat} {x y : α} (h : (l ++ [x])[j]? = some y) : (j = l.length ∧ y = x) ∨ (j < l.length ∧ l[j]? = some y) := by
 by_cases e : j < l.length
 ·rw [List.getElem?_append_left e] at h; exact .inr ⟨e, h⟩
 ·have hj : j < (l ++ [x]).length := (List.getElem?_eq_some_iff.1 h).1; simp at hj
  obtain rfl : j = l.length := by omega
  simp at h
  exact .inl ⟨rfl, h.symm⟩
theorem xN {α β : Type} {l : List α} {f g : α → List β} (h : ∀ y, y ∈ l → f y = g y) : l.flatMap f = l.flatMap g := by
 induction l with
 | nil => rfl
 | cons a l ih => rw [List.flatMap_cons, List.flatMap_cons, h a (by simp), ih (fun y hy => h y (by simp [hy]))]
theorem bV.congr {α : Type} {x : Option (Nat × Obj)} {E : TypeId} {k : Nat} {enc enc' : α → List Value} {v : Value} {l : List α} (h : bV x E k enc v l) (he : ∀ y, y ∈ l → enc y = enc' y) : bV x E k enc' v l := by
 rcases h with h | ⟨g, cap, cur, h1, h2, h3, h4, h5, h6⟩
 ·exact .inl h
 ·refine .inr ⟨g, cap, cur, h1, h2, h3, h4, h5, ?_⟩; rw [h6]; exact xN he
section
variable {W W' : World} {B : Nat} {A : Adr} {D : Day}
theorem PD.IG (h : PD W B A D) (t : Int) : PD (W.setCell ⟨A.q, 8, none⟩ (.int .i64 t)) B A { D with no := t } := by
 obtain ⟨M, h1, h2⟩ := h; refine ⟨_, h1.set h2.wl 8 (.int .i64 t), ?_⟩; exact {
  wl := by rw [au]; rfl
  ss := by rw [ae _ _ (by decide)]; exact h2.ss
  go := by rw [ae _ _ (by decide)]; exact h2.go
  qu := by rw [ae _ _ (by decide)]; exact h2.qu
  st := fun i s hs => by rw [ae _ _ (by unfold rSt rWl; omega)]; exact h2.st i s hs
  mp := fun i s hs => by rw [ae _ _ (by unfold rMp rWl; omega)]; exact h2.mp i s hs
  sa := fun i s hs => by rw [ae _ _ (by unfold rSa rWl; omega)]; exact h2.sa i s hs
  ak := fun i s hs => by rw [ae _ _ (by unfold rAk rWl; omega)]; exact h2.ak i s hs
  wa := fun i s hs => by rw [ae _ _ (by unfold rWa rWl; omega)]; exact h2.wa i s hs
  fx := fun kk b o hx => by rw [ae _ _ (by unfold rSt rWl; omega)]; exact h2.fx kk b o hx }
theorem PD.pM (h : PD W B A D) {i : Nat} {s : Sto} (hs : D.st[i]? = some s) (k : Nat) (v : Value) (s' : Sto) (hc : (cellsS A i s).setIfInBounds k v = cellsS A i s') (e1 : s'.ks = s.ks) (e2 : s'.hm = s.hm) (e3 : s'.ar = s.ar) :
 PD (W.setCell ⟨A.sb i, k, none⟩ v) B A { D with st := D.st.set i s' } := by
 obtain ⟨M, h1, h2⟩ := h; refine ⟨_, h1.set (h2.st i s hs) k v, ?_⟩; rw [hc]; exact {
  wl := by rw [ae _ _ (by unfold rSt rWl; omega)]; exact h2.wl
  ss := by
   rw [ae _ _ (by unfold rSt rSs; omega)]; show bV _ _ _ _ _ (List.range (D.st.set i s').length)
   rw [List.length_set]; exact h2.ss
  go := by rw [ae _ _ (by unfold rSt rGo; omega)]; exact h2.go
  qu := by rw [ae _ _ (by unfold rSt rQu; omega)]; exact h2.qu
  st := fun j t ht => by
   rcases bI ht with ⟨rfl, rfl⟩ | ⟨hne, ht⟩
   ·rw [au]
   ·rw [ae _ _ (by unfold rSt; omega)]; exact h2.st j t ht
  mp := fun j t ht => by
   rw [ae _ _ (by unfold rSt rMp; omega)]; rcases bI ht with ⟨rfl, rfl⟩ | ⟨hne, ht⟩
   ·rw [e1, e2]; exact h2.mp j s hs
   ·exact h2.mp j t ht
  sa := fun j t ht => by
   rw [ae _ _ (by unfold rSt rSa; omega)]; rcases bI ht with ⟨rfl, rfl⟩ | ⟨hne, ht⟩
   ·rw [e3]; exact h2.sa j s hs
   ·exact h2.sa j t ht
  ak := fun j k hk => by rw [ae _ _ (by unfold rSt rAk; omega)]; exact h2.ak j k hk
  wa := fun j k hk => by rw [ae _ _ (by unfold rSt rWa; omega)]; exact h2.wa j k hk
  fx := fun kk b o hx => by show upM _ _ _ (rSt ((D.st.set i s').length + kk)) = _; have := (List.getElem?_eq_some_iff.1 hs).1; rw [List.length_set, ae _ _ (by unfold rSt; omega)]; exact h2.fx kk b o hx }
theorem PD.GH (h : PD W B A D) {v' : Value} {l' : List Evn} (hq : QAt A.q B A.ab W' v' l') (hc : oO A.q W W' A.qv v') : PD W' B { A with qv := v' } { D with qu := l' } := by
 obtain ⟨M, h1, h2⟩ := h; obtain ⟨x, h3, h4⟩ := h1.queue h2.qu h2.wl hq hc; refine ⟨_, h4, ?_⟩; exact {
  wl := by rw [au]; rfl
  ss := by rw [ae _ _ (by decide), ae _ _ (by decide)]; exact h2.ss
  go := by rw [ae _ _ (by decide), ae _ _ (by decide)]; exact h2.go
  qu := by rw [ae _ _ (by decide), au]; exact h3
  st := fun i s hs => by rw [ae _ _ (by unfold rSt rWl; omega), ae _ _ (by unfold rSt rQu; omega)]; exact h2.st i s hs
  mp := fun i s hs => by rw [ae _ _ (by unfold rMp rWl; omega), ae _ _ (by unfold rMp rQu; omega)]; exact h2.mp i s hs
  sa := fun i s hs => by rw [ae _ _ (by unfold rSa rWl; omega), ae _ _ (by unfold rSa rQu; omega)]; exact h2.sa i s hs
  ak := fun i s hs => by rw [ae _ _ (by unfold rAk rWl; omega), ae _ _ (by unfold rAk rQu; omega)]; exact h2.ak i s hs
  wa := fun i s hs => by rw [ae _ _ (by unfold rWa rWl; omega), ae _ _ (by unfold rWa rQu; omega)]; exact h2.wa i s hs
  fx := fun kk b o hx => by rw [ae _ _ (by unfold rSt rWl; omega), ae _ _ (by unfold rSt rQu; omega)]; exact h2.fx kk b o hx }
theorem PD.sU (h : PD W B A D) {i n : Nat} {s : Sto} (hs : D.st[i]? = some s) {f : ByteArray → Hld} {ks : List ByteArray} (hm : gy W' (A.mb i) n f ks) (hn : D.pu ≤ n) (hg : Onl (A.mb i) W W') :
 PD W' B A { D with st := D.st.set i { s with ks := ks, hm := f }, pu := n } := by
 obtain ⟨M, h1, h2⟩ := h; obtain ⟨o, h3, h4⟩ := h2.mp i s hs; obtain ⟨o', ho'⟩ : ∃ o', W'.heap[A.mb i]? = some o' := ⟨_, Array.getElem?_eq_getElem hm.lt⟩
 refine ⟨_, h1.onl h3 hg ho', ?_⟩; have hmono : ∀ {o : Obj} {g : ByteArray → Hld} {l : List ByteArray}, Gl o D.pu g l → Gl o n g l := fun hx W b hb => (hx W b hb).mono hn
 exact {
  wl := by rw [ae _ _ (by unfold rMp rWl; omega)]; exact h2.wl
  ss := by
   rw [ae _ _ (by unfold rMp rSs; omega)]; show bV _ _ _ _ _ (List.range (D.st.set i _).length)
   rw [List.length_set]; exact h2.ss
  go := by rw [ae _ _ (by unfold rMp rGo; omega)]; exact h2.go
  qu := by rw [ae _ _ (by unfold rMp rQu; omega)]; exact h2.qu
  st := fun j t ht => by
   rw [ae _ _ (by unfold rSt rMp; omega)]; rcases bI ht with ⟨rfl, rfl⟩ | ⟨hne, ht⟩
   ·exact h2.st j s hs
   ·exact h2.st j t ht
  mp := fun j t ht => by
   rcases bI ht with ⟨rfl, rfl⟩ | ⟨hne, ht⟩
   ·rw [au]; exact ⟨_, rfl, Gl.of hm ho'⟩
   ·rw [ae _ _ (by unfold rMp; omega)]; obtain ⟨o2, h5, h6⟩ := h2.mp j t ht; exact ⟨o2, h5, hmono h6⟩
  sa := fun j t ht => by
   rw [ae _ _ (by unfold rMp rSa; omega)]; rcases bI ht with ⟨rfl, rfl⟩ | ⟨hne, ht⟩
   ·exact h2.sa j s hs
   ·exact h2.sa j t ht
  ak := fun j k hk => by rw [ae _ _ (by unfold rMp rAk; omega)]; exact h2.ak j k hk
  wa := fun j k hk => by rw [ae _ _ (by unfold rMp rWa; omega)]; exact h2.wa j k hk
  fx := fun kk b o hx => by show upM _ _ _ (rSt ((D.st.set i _).length + kk)) = _; rw [List.length_set, ae _ _ (by unfold rSt rMp; omega)]; exact h2.fx kk b o hx }
theorem PD.IJ (h : PD W B A D) {i : Nat} {s : Sto} (hs : D.st[i]? = some s) {v' : Value} {l' : List Nat} (hown : Own W' B 131 1 (oH A.ab) v' l') (hsz : W.heap.size ≤ W'.heap.size) (hk : dm W W' (A.av i) v') :
 PD (W'.setCell ⟨A.sb i, 6, none⟩ v') B { A with av := upF A.av i v' } { D with st := D.st.set i { s with ar := l' } } := by
 obtain ⟨M, h1, h2⟩ := h; obtain ⟨x, h3, h4⟩ := h1.grow (r := rSa i) (h2.sa i s hs) hown hsz hk; have h5 := h4.set (r := rSt i) (b := A.sb i) (cs := cellsS A i s) (T := 84) (by rw [ae _ _ (by unfold rSa rSt; omega)]; exact h2.st i s hs) 6 v'; refine ⟨_, h5, ?_⟩; exact {
  wl := by rw [ae _ _ (by unfold rSt rWl; omega), ae _ _ (by unfold rSa rWl; omega)]; exact h2.wl
  ss := by
   rw [ae _ _ (by unfold rSt rSs; omega), ae _ _ (by unfold rSa rSs; omega)]; show bV _ _ _ _ _ (List.range (D.st.set i _).length)
   rw [List.length_set]; exact h2.ss
  go := by rw [ae _ _ (by unfold rSt rGo; omega), ae _ _ (by unfold rSa rGo; omega)]; exact h2.go
  qu := by rw [ae _ _ (by unfold rSt rQu; omega), ae _ _ (by unfold rSa rQu; omega)]; exact h2.qu
  st := fun j t ht => by
   rcases bI ht with ⟨rfl, rfl⟩ | ⟨hne, ht⟩
   ·rw [au]; show _ = some (A.sb j, Obj.cells (cellsS { A with av := upF A.av j v' } j { s with ar := l' }) _ _)
    unfold cellsS; simp only [aZ]
    rfl
   ·rw [ae _ _ (by unfold rSt; omega), ae _ _ (by unfold rSt rSa; omega)]; show _ = some (A.sb j, Obj.cells (cellsS { A with av := upF A.av i v' } j t) _ _)
    unfold cellsS; simp only [aS _ _ hne]
    exact h2.st j t ht
  mp := fun j t ht => by
   rw [ae _ _ (by unfold rSt rMp; omega), ae _ _ (by unfold rSa rMp; omega)]; rcases bI ht with ⟨rfl, rfl⟩ | ⟨hne, ht⟩
   ·exact h2.mp j s hs
   ·exact h2.mp j t ht
  sa := fun j t ht => by
   rw [ae _ _ (by unfold rSt rSa; omega)]; rcases bI ht with ⟨rfl, rfl⟩ | ⟨hne, ht⟩
   ·rw [au]; show bV x _ _ _ (upF A.av j v' j) l'
    rw [aZ]; exact h3
   ·rw [ae _ _ (by unfold rSa; omega)]; show bV _ _ _ _ (upF A.av i v' j) _
    rw [aS _ _ hne]; exact h2.sa j t ht
  ak := fun j k hk => by rw [ae _ _ (by unfold rSt rAk; omega), ae _ _ (by unfold rSa rAk; omega)]; exact h2.ak j k hk
  wa := fun j k hk => by rw [ae _ _ (by unfold rSt rWa; omega), ae _ _ (by unfold rSa rWa; omega)]; exact h2.wa j k hk
  fx := fun kk b o hx => by show upM _ _ _ (rSt ((D.st.set i _).length + kk)) = _; have := (List.getElem?_eq_some_iff.1 hs).1; rw [List.length_set, ae _ _ (by unfold rSt; omega), ae _ _ (by unfold rSt rSa; omega)]; exact h2.fx kk b o hx }
theorem PD.GG (h : PD W B A D) {j : Nat} {k : Akn} (hk : D.ak[j]? = some k) {v' : Value} {l' : List Wtr} (hown : Own W' B 139 2 (jb A.ab) v' l') (hsz : W.heap.size ≤ W'.heap.size) (hkp : dm W W' (A.wv j) v') :
 PD (W'.setCell ⟨A.ab j, 5, none⟩ v') B { A with wv := upF A.wv j v' } { D with wa := upF D.wa j l' } := by
 obtain ⟨M, h1, h2⟩ := h; obtain ⟨x, h3, h4⟩ := h1.grow (r := rWa j) (h2.wa j k hk) hown hsz hkp; have h5 := h4.set (r := rAk j) (b := A.ab j) (cs := cellsA A j k) (T := 142) (by rw [ae _ _ (by unfold rAk rWa; omega)]; exact h2.ak j k hk) 5 v'; refine ⟨_, h5, ?_⟩; exact {
  wl := by rw [ae _ _ (by unfold rAk rWl; omega), ae _ _ (by unfold rWa rWl; omega)]; exact h2.wl
  ss := by rw [ae _ _ (by unfold rAk rSs; omega), ae _ _ (by unfold rWa rSs; omega)]; exact h2.ss
  go := by rw [ae _ _ (by unfold rAk rGo; omega), ae _ _ (by unfold rWa rGo; omega)]; exact h2.go
  qu := by rw [ae _ _ (by unfold rAk rQu; omega), ae _ _ (by unfold rWa rQu; omega)]; exact h2.qu
  st := fun i s hs => by rw [ae _ _ (by unfold rSt rAk; omega), ae _ _ (by unfold rSt rWa; omega)]; exact h2.st i s hs
  mp := fun i s hs => by rw [ae _ _ (by unfold rMp rAk; omega), ae _ _ (by unfold rMp rWa; omega)]; exact h2.mp i s hs
  sa := fun i s hs => by rw [ae _ _ (by unfold rSa rAk; omega), ae _ _ (by unfold rSa rWa; omega)]; exact h2.sa i s hs
  ak := fun i t ht => by
   by_cases e : i = j
   ·subst e; rw [hk] at ht; cases ht
    rw [au]; show _ = some (A.ab i, Obj.cells (cellsA { A with wv := upF A.wv i v' } i k) _ _)
    unfold cellsA; simp only [aZ]
    rfl
   ·rw [ae _ _ (by unfold rAk; omega), ae _ _ (by unfold rAk rWa; omega)]; show _ = some (A.ab i, Obj.cells (cellsA { A with wv := upF A.wv j v' } i t) _ _)
    unfold cellsA; simp only [aS _ _ e]
    exact h2.ak i t ht
  wa := fun i t ht => by
   rw [ae _ _ (by unfold rAk rWa; omega)]; by_cases e : i = j
   ·subst e; rw [au]; show bV x _ _ _ (upF A.wv i v' i) (upF D.wa i l' i)
    rw [aZ, aZ]; exact h3
   ·rw [ae _ _ (by unfold rWa; omega)]; show bV _ _ _ _ (upF A.wv j v' i) (upF D.wa j l' i)
    rw [aS _ _ e, aS _ _ e]; exact h2.wa i t ht
  fx := fun kk b o hx => by rw [ae _ _ (by unfold rSt rAk; omega), ae _ _ (by unfold rSt rWa; omega)]; exact h2.fx kk b o hx }
theorem PD.Ej (h : PD W B A D) {g n c : Nat} (hg : A.gv = .slice (some ⟨g, 0, none⟩) n c) {l' : List Gtn} (hown : Own W' B 35 5 jF A.gv l') (hon : Onl g W W') (hsz : W.heap.size ≤ W'.heap.size) : PD W' B A { D with go := l' } := by
 obtain ⟨M, h1, h2⟩ := h; obtain ⟨x, h3, h4⟩ := h1.grow (r := rGo) h2.go hown hsz (fun b hb hob => by
  rw [hg] at hob; have hne : b ≠ g := fun e => hob _ _ _ rfl e.symm
  exact ⟨World.grownBy.block hon b hb (fun e => hne (by simpa using e)), by rw [hg]; exact hob⟩)
 refine ⟨_, h4, ?_⟩; exact {
  wl := by rw [ae _ _ (by decide)]; exact h2.wl
  ss := by rw [ae _ _ (by decide)]; exact h2.ss
  go := by rw [au]; exact h3
  qu := by rw [ae _ _ (by decide)]; exact h2.qu
  st := fun i s hs => by rw [ae _ _ (by unfold rSt rGo; omega)]; exact h2.st i s hs
  mp := fun i s hs => by rw [ae _ _ (by unfold rMp rGo; omega)]; exact h2.mp i s hs
  sa := fun i s hs => by rw [ae _ _ (by unfold rSa rGo; omega)]; exact h2.sa i s hs
  ak := fun i s hs => by rw [ae _ _ (by unfold rAk rGo; omega)]; exact h2.ak i s hs
  wa := fun i s hs => by rw [ae _ _ (by unfold rWa rGo; omega)]; exact h2.wa i s hs
  fx := fun kk b o hx => by rw [ae _ _ (by unfold rSt rGo; omega)]; exact h2.fx kk b o hx }
structure Jk (D : Day) : Prop where
 qu : ∀ e, e ∈ D.qu → e.ak < D.ak.length
 ar : ∀ (i : Nat) (s : Sto), D.st[i]? = some s → ∀ j, j ∈ s.ar → j < D.ak.length
 wa : ∀ j, j < D.ak.length → ∀ x, x ∈ D.wa j → ∀ a, x.ak = some a → a < D.ak.length
theorem PD.JI (h : PD W B A D) (hn : Jk D) (k : Akn) :
 PD ((W.alloc (.cells #[.int .i64 (k.ca : Nat), .int .i64 (D.ak.length : Nat), .int .i64 k.ma, .string k.ke, .bool k.kp, .slice none 0 0] 142)).setCell ⟨A.q, 6, none⟩ (.int .i64 ((D.ak.length + 1 : Nat) : Int))) B
  { A with ab := upF A.ab D.ak.length W.heap.size, wv := upF A.wv D.ak.length (.slice none 0 0) } { D with ak := D.ak ++ [k], wa := upF D.wa D.ak.length [] } := by
 obtain ⟨M, h1, h2⟩ := h; obtain ⟨j, hj⟩ : ∃ j, j = D.ak.length := ⟨_, rfl⟩
 have g1 := h1.drop (W' := W) (Ls _) (r := rWa j) (fun _ _ _ _ _ => rfl); have g2 := g1.new (rAk j) (.cells #[.int .i64 (k.ca : Nat), .int .i64 (D.ak.length : Nat), .int .i64 k.ma, .string k.ke, .bool k.kp, .slice none 0 0] 142 (0, 0)); have g3 := g2.set (r := rWl) (b := A.q) (cs := qo A D) (T := 68) (by rw [ae _ _ (by unfold rWl rAk; omega), ae _ _ (by unfold rWl rWa; omega)]; exact h2.wl) 6 (.int .i64 ((D.ak.length + 1 : Nat) : Int)); refine ⟨_, g3, ?_⟩; have hE : ∀ i, i < D.ak.length → upF A.ab D.ak.length W.heap.size i = A.ab i := fun i hi => aS _ _ (by omega)
 rw [← hj] at hE ⊢; exact {
  wl := by
   rw [au]; show _ = some (A.q, Obj.cells (qo _ _) _ _)
   unfold qo; simp only [List.length_append, List.length_singleton, ← hj]
   rfl
  ss := by rw [ae _ _ (by decide), ae _ _ (by unfold rSs rAk; omega), ae _ _ (by unfold rSs rWa; omega)]; exact h2.ss
  go := by rw [ae _ _ (by decide), ae _ _ (by unfold rGo rAk; omega), ae _ _ (by unfold rGo rWa; omega)]; exact h2.go
  qu := by
   rw [ae _ _ (by decide), ae _ _ (by unfold rQu rAk; omega), ae _ _ (by unfold rQu rWa; omega)]; exact h2.qu.congr fun e he => zo (hE _ (by rw [hj]; exact hn.qu e he)).symm
  st := fun i s hs => by rw [ae _ _ (by unfold rSt rWl; omega), ae _ _ (by unfold rSt rAk; omega), ae _ _ (by unfold rSt rWa; omega)]; exact h2.st i s hs
  mp := fun i s hs => by rw [ae _ _ (by unfold rMp rWl; omega), ae _ _ (by unfold rMp rAk; omega), ae _ _ (by unfold rMp rWa; omega)]; exact h2.mp i s hs
  sa := fun i s hs => by
   rw [ae _ _ (by unfold rSa rWl; omega), ae _ _ (by unfold rSa rAk; omega), ae _ _ (by unfold rSa rWa; omega)]; exact (h2.sa i s hs).congr fun e he => by
    show oH A.ab e = oH (upF A.ab j W.heap.size) e
    unfold oH; rw [hE e (by rw [hj]; exact hn.ar i s hs e he)]
  ak := fun i t ht => by
   rw [ae _ _ (by unfold rAk rWl; omega)]; rcases dL ht with ⟨e, rfl⟩ | ⟨hi, ht⟩
   ·rw [← hj] at e; subst e; rw [au]; show _ = some (upF A.ab i W.heap.size i, Obj.cells (cellsA _ i t) _ _)
    unfold cellsA; simp only [aZ]
   ·rw [← hj] at hi; rw [ae _ _ (by unfold rAk; omega), ae _ _ (by unfold rAk rWa; omega)]; show _ = some (upF A.ab j W.heap.size i, Obj.cells (cellsA _ i t) _ _)
    unfold cellsA; simp only [aS _ _ (Nat.ne_of_lt hi)]
    exact h2.ak i t ht
  wa := fun i t ht => by
   rw [ae _ _ (by unfold rWa rWl; omega), ae _ _ (by unfold rWa rAk; omega)]; rcases dL ht with ⟨e, rfl⟩ | ⟨hi, ht⟩
   ·rw [← hj] at e; subst e; rw [au]; show bV _ _ _ _ (upF A.wv i (.slice none 0 0) i) (upF D.wa i [] i)
    rw [aZ, aZ]; exact .inl ⟨rfl, rfl, rfl⟩
   ·rw [← hj] at hi; rw [ae _ _ (by unfold rWa; omega)]; show bV _ _ _ _ (upF A.wv j _ i) (upF D.wa j [] i)
    rw [aS _ _ (Nat.ne_of_lt hi), aS _ _ (Nat.ne_of_lt hi)]; exact (h2.wa i t ht).congr fun x hx => by
     show jb A.ab x = jb (upF A.ab j W.heap.size) x
     unfold jb; cases hxa : x.ak with
     | none => rfl
     | some a =>
      have := hn.wa i (by rw [← hj]; exact hi) x hx a hxa; simp only [Option.map_some]
      rw [hE a (by rw [hj]; exact this)]
  fx := fun kk b o hx => by rw [ae _ _ (by unfold rSt rWl; omega), ae _ _ (by unfold rSt rAk; omega), ae _ _ (by unfold rSt rWa; omega)]; exact h2.fx kk b o hx }
end
end Go.Proofs.YtgohddfnhofjhaaGreatDoor

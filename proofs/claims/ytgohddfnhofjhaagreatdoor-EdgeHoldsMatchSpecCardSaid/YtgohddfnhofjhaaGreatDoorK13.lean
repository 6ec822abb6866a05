/- What happens, step by step: the machine of the program, plain. -/
import Derived.Test.YtgohddfnhofjhaaGreatDoorK12
import Derived.Test.YtgohddfnhofjhaaGreatDoorK04
import Derived.Test.YtgohddfnhofjhaaGreatDoorK07
import Derived.Test.YtgohddfnhofjhaaGreatDoorK01
set_option maxRecDepth 100000
namespace Go.Proofs.YtgohddfnhofjhaaGreatDoor
open Go.RowKit
structure zZ (w0 : World) (B : Nat) (A : Adr) (C : List Cch) (R : List Crl) (E : List Rel) (P : List Pur) : Prop where
 le : w0.heap.size ≤ B
 c : Sl w0 4 su A.d0 C
 r : Sl w0 4 xU A.d1 R
 e : Sl w0 4 zn A.d2 E
 p : Sl w0 2 xW A.d3 P
 rb : ∀ x, x ∈ R → (0 ≤ x.li ∧ x.li ≤ 1000000000) ∧ (0 ≤ x.st ∧ x.st ≤ 1000000000) ∧ (0 ≤ x.go ∧ x.go ≤ 1000000000)
 eb : ∀ x, x ∈ E → 0 ≤ x.si ∧ x.si ≤ 1000000000
theorem zZ.adr {w0 : World} {B n : Nat} {A A' : Adr} {C : List Cch} {R : List Crl} {E : List Rel} {P : List Pur} (h : zZ w0 B A C R E P) (hA : bu A A' n) : zZ w0 B A' C R E P :=
 ⟨h.le, by rw [hA.d0]; exact h.c, by rw [hA.d1]; exact h.r, by rw [hA.d2]; exact h.e, by rw [hA.d3]; exact h.p, h.rb, h.eb⟩
theorem uM {R : List Crl} (rb : ∀ x, x ∈ R → (0 ≤ x.li ∧ x.li ≤ 1000000000) ∧ (0 ≤ x.st ∧ x.st ≤ 1000000000) ∧ (0 ≤ x.go ∧ x.go ≤ 1000000000)) (o : Option Nat) : (0 ≤ (lV R o).li ∧ (lV R o).li ≤ 1000000000) ∧ (0 ≤ (lV R o).st ∧ (lV R o).st ≤ 1000000000) ∧ (0 ≤ (lV R o).go ∧ (lV R o).go ≤ 1000000000) := by
 have hd : (0 ≤ (default : Crl).li ∧ (default : Crl).li ≤ 1000000000) ∧ (0 ≤ (default : Crl).st ∧ (default : Crl).st ≤ 1000000000) ∧ (0 ≤ (default : Crl).go ∧ (default : Crl).go ≤ 1000000000) := ⟨⟨by decide, by decide⟩, ⟨by decide, by decide⟩, ⟨by decide, by decide⟩⟩
 cases o with
 | none => exact hd
 | some j =>
  have e : lV R (some j) = R.getD j default := rfl; rw [e, Lt]; cases h : R[j]? with
  | none => exact hd
  | some x => exact rb x (List.mem_of_getElem? h)
theorem Di {a b : Nat → Nat} {f : Wtr} (h : ∀ j, f.ak = some j → a j = b j) : jb a f = jb b f := by
 unfold jb; cases hf : f.ak with
 | none => rfl
 | some j => simp only [Option.map_some]; rw [h j hf]
theorem kC.same {D : Day} {A A' : Adr} {f : Wtr} (h : kC D f) (hA : bu A A' D.ak.length) : jb A'.ab f = jb A.ab f :=
 Di fun j hj => hA.ab j (by unfold kC at h; rw [hj] at h; exact h)
theorem CQ (w : World) (B : Nat) (A : Adr) (D : Day) (n : Nat) (f : Wtr) (x : Ans) (h : PD w B A D) (hF : Fit n D) (hn : n ≤ 800000) (hf : kC D f) :
 Calls Tryz.prog 72 #[.pointer (some ⟨A.q, 0, none⟩), .agg (jb A.ab f).toArray, zW x] w fun e w' => ∃ A', e = .returned (.tuple #[]) ∧ PD w' B A' (D.aQ f x) ∧ bu A A' D.ak.length ∧ Below B w w' ∧ A'.wv = A.wv := by
 obtain ⟨ge, ak⟩ := f; cases ak with
 | none =>
  have hg : ge < D.go.length := hf; have H := CV w B A D ge (D.G ge) x h (Day.I7 hg); exact H.mono fun e w' ⟨h1, h2, h3⟩ => ⟨A, h1, h2, bu.refl A _, h3, rfl⟩
 | some j =>
  have hj : j < D.ak.length := hf; have hc := (hF.kk j _ (Day.oJ hj)).1; have hs := Day.at_ hc; have hb := (hF.st _ _ hs).de; exact CW w B A D ge j (D.K j).ca (D.S (D.K j).ca) x h hF.num hj rfl hs (Nat.le_trans hF.qu (by omega)) ⟨hF.no.1, Int.le_trans hF.no.2 (by decide)⟩ ⟨by omega, by omega⟩
theorem qZ (w : World) (B : Nat) (A : Adr) (D : Day) (n : Nat) (f : Wtr) (x : Ans) (h : PD w B A D) (hF : Fit n D) (hn : n ≤ 800000) (hf : kC D f) :
 Calls Tryz.prog 72 #[.pointer (some ⟨A.q, 0, none⟩), .agg (jb A.ab f).toArray, zW x] w fun e w' => ∃ A', e = .returned (.tuple #[]) ∧ PD w' B A' (D.aQ f x) ∧ bu A A' D.ak.length ∧ Below B w w' :=
 (CQ w B A D n f x h hF hn hf).mono fun _ _ ⟨A', h1, h2, h3, h4, _⟩ => ⟨A', h1, h2, h3, h4⟩
theorem vT (w : World) (B : Nat) (A : Adr) (D : Day) (n i : Nat) (s : Sto) (key : ByteArray) (kept : Bool) (h : PD w B A D) (hF : Fit n D) (hn : n ≤ 800000) (hs : D.st[i]? = some s) :
 Calls Tryz.prog 111 #[.pointer (some ⟨A.q, 0, none⟩), .int .i64 (i : Nat), .string key, .bool kept] w fun e w' => ∃ A', e = .returned (.pointer (some ⟨A'.ab D.ak.length, 0, none⟩)) ∧ PD w' B A' (D.mG i s key kept) ∧ bu A A' D.ak.length ∧ Below B w w' := by
 have hb := hF.st _ _ hs; have h1 := hb.de; have h2 := hb.ak; have h3 := hb.ar; exact Ic w B A D i s key kept h hF.num hs (Nat.le_trans hF.qu (by omega)) (Nat.le_trans hF.ak (by omega)) (by omega) ⟨hF.no.1, Int.le_trans hF.no.2 (by decide)⟩ ⟨by omega, by omega⟩ ⟨h2.1, by omega⟩
theorem vX (w : World) (B : Nat) (A : Adr) (D : Day) (n i : Nat) (s : Sto) (key : ByteArray) (h : PD w B A D) (hF : Fit n D) (hn : n ≤ 800000) (hs : D.st[i]? = some s) (hk : onL key s.ks = true) :
 Calls Tryz.prog 113 #[.pointer (some ⟨A.q, 0, none⟩), .pointer (some ⟨A.sb i, 0, none⟩), .string key] w fun e w' => e = .returned (zW (mV s key)) ∧ PD w' B A (D.takeD i s key) ∧ Below B w w' := by
 have H := take_any w B A D i s key h hs (bF.1 hk) (by have := hF.pu; unfold maxLen; omega); rw [Ih hk] at H; exact H
theorem Ah (w0 w : World) (B : Nat) (A : Adr) (D : Day) (C : List Cch) (R : List Crl) (E : List Rel) (P : List Pur) (n i : Nat) (s : Sto) (key : ByteArray) (h : PD w B A D) (hF : Fit n D) (hs : D.st[i]? = some s) (hE : zZ w0 B A C R E P) (hw : Below w0.heap.size w0 w) :
 Calls Tryz.prog 114 #[.pointer (some ⟨A.q, 0, none⟩), .pointer (some ⟨A.sb i, 0, none⟩), .string key] w fun e w' => e = .returned (.pointer ((rV D s.ar key (fQ P key D.no)).map fun j => ⟨A.ab j, 0, none⟩)) ∧ Below w.heap.size w w' :=
 Gq w B A D P i s key h hs (hF.num.ar i s hs) (hE.p.below hw (Ls _))
def iI (p : Cch → Bool) (l : List Cch) : Int := if l.findIdx p = l.length then -1 else (l.findIdx p : Nat)
theorem ut {p : Cch → Bool} {l : List Cch} {k : Nat} {x : Cch} (hx : l[k]? = some x) (h : p x = true) (hn : ∀ (j : Nat) y, l[j]? = some y → j < k → p y = false) : iI p l = k ∧ l.findIdx p = k := by
 obtain ⟨hk, rfl⟩ := List.getElem?_eq_some_iff.1 hx; have e : l.findIdx p = k := by
  rw [List.findIdx_eq hk]; exact ⟨h, fun j hj => hn j _ (Lu (by omega)) hj⟩
 exact ⟨by rw [iI, e, if_neg (by omega)], e⟩
theorem iZ {p : Cch → Bool} {l : List Cch} (hn : ∀ (j : Nat) y, l[j]? = some y → p y = false) : iI p l = -1 ∧ l.findIdx p = l.length := by
 have e : l.findIdx p = l.length := by
  rw [List.findIdx_eq_length]; intro x hx; obtain ⟨j, hj, rfl⟩ := List.mem_iff_getElem.1 hx; exact hn j _ (Lu hj)
 exact ⟨by rw [iI, if_pos e], e⟩
theorem oz (p : Cch → Bool) (l : List Cch) : decide (0 ≤ iI p l) = l.any p := by
 unfold iI; by_cases h : l.findIdx p = l.length
 ·rw [if_pos h]; rw [List.findIdx_eq_length] at h; have : l.any p = false := by rw [List.any_eq_false]; intro x hx; simp [h x hx]
  simp [this]
 ·rw [if_neg h]; have hlt : l.findIdx p < l.length := by have := List.findIdx_le_length (p := p) (xs := l); omega
  have : l.any p = true := List.any_eq_true.2 ⟨_, List.getElem_mem hlt, List.findIdx_getElem⟩; simp [this]
theorem JW (g : Nat) (lb : Array Value) (p : Cch → Bool) (w : World) (l : List Cch) (v : Value) (hl : Sl w 4 su v l)
 (eg : ∀ args w, (callFunc g args).run Tryz.prog w = .ok (.enter g args) w)
 (hp : ∀ W x, x ∈ l → Below w.heap.size w W → Calls Tryz.prog g (#[.agg #[.string x.na, .string x.pa, .int .i64 x.de, .int .i64 x.ro]] ++ lb) W fun e w' => e = .returned (.bool (p x)) ∧ Below W.heap.size W w') :
 Calls Tryz.prog 66 #[v, .func (.func g) #[] lb] w fun e w' => e = .returned (.int .i64 (iI p l)) ∧ Below w.heap.size w w' := by
 obtain ⟨ao, cap, rfl, hcap, hmax, hnil, hel⟩ := hl; unfold maxLen at hmax
 go_enter Tryz.func66, Tryz.ntmps66
 go_wp2
 go_loopg [5, 8] l.length (fun gg _ s8 wr => ∃ kk : Nat, kk ≤ l.length ∧ l.length - kk ≤ gg ∧ s8 = .int .i64 kk ∧ Aside (Below w.heap.size w wr) ∧ Aside (∀ j x, l[j]? = some x → j < kk → p x = false))
 case atStart => exact ⟨0, Nat.zero_le _, by omega, rfl, LD _ w, fun j x _ hj => absurd hj (Nat.not_lt_zero _)⟩
 case round =>
  obtain ⟨kk, hkk, hg, rfl, BW, A⟩ := hrel; by_cases hlt : kk < l.length
  ·have hltz : (kk : Int) < (l.length : Int) := by omega
   obtain ⟨x, hx⟩ : ∃ x, l[kk]? = some x := ⟨l[kk], by simp [hlt]⟩
   obtain ⟨b, off, rfl, hc⟩ := hel kk x hx; have hlt0 := LC w _ (hc 0 _ rfl); have c0 : wr.cell? ⟨b, off + kk * 4, none⟩ = some (.string x.na) := by have h := (BW.out.cell (p := ⟨b, off + kk * 4 + 0, none⟩) hlt0).trans (hc 0 _ rfl); simpa using h
   have c1 := (BW.out.cell (p := ⟨b, off + kk * 4 + 1, none⟩) hlt0).trans (hc 1 _ rfl); have c2 := (BW.out.cell (p := ⟨b, off + kk * 4 + 2, none⟩) hlt0).trans (hc 2 _ rfl); have c3 := (BW.out.cell (p := ⟨b, off + kk * 4 + 3, none⟩) hlt0).trans (hc 3 _ rfl); have hcall := hp wr x (List.mem_of_getElem? hx) BW.out; have HX : Hid (l[kk]? = some x) := hx; clear hx hc hel hp; cases hq : p x with
   | true =>
    rw [hq] at hcall; have hv := Lr (ut HX.out hq A.out).1
    go_wp2_with (go_at_fn g; refine hcall.mono ?_; rintro e w' ⟨rfl, hb'⟩)
    go_ret
    exact ⟨ah hv.out.symm, BW.out.bf hb'⟩
   | false =>
    rw [hq] at hcall
    go_wp2_with (go_at_fn g; refine hcall.mono ?_; rintro e w' ⟨rfl, hb'⟩)
    go_roundg (l.length - (kk + 1))
    case measure => omega
    case rel =>
     refine ⟨kk + 1, by omega, by omega, by go_num, BW.out.bf hb', (show Aside _ from fun j y hy hj => ?_)⟩; by_cases e : j = kk
     ·subst e; have := HX.out.symm.trans hy; simp at this; subst this; exact hq
     ·exact A.out j y hy (by omega)
  ·have hltz : ¬ (kk : Int) < (l.length : Int) := by omega
   have hv := Lr (iZ (p := p) (l := l) fun j y hy => A.out j y hy (by have := (List.getElem?_eq_some_iff.1 hy).1; omega)).1; clear hel
   go_wp2
   go_ret
   exact ⟨ah hv.out.symm, BW.out⟩
theorem KH (g : Nat) (lb : Array Value) (p : Cch → Bool) (w : World) (l : List Cch) (v : Value) (hl : Sl w 4 su v l)
 (eg : ∀ args w, (callFunc g args).run Tryz.prog w = .ok (.enter g args) w)
 (hp : ∀ W x, x ∈ l → Below w.heap.size w W → Calls Tryz.prog g (#[.agg #[.string x.na, .string x.pa, .int .i64 x.de, .int .i64 x.ro]] ++ lb) W fun e w' => e = .returned (.bool (p x)) ∧ Below W.heap.size W w') :
 Calls Tryz.prog 49 #[v, .func (.func g) #[] lb] w fun e w' => e = .returned (.bool (l.any p)) ∧ Below w.heap.size w w' := by
 have hc := JW g lb p w l v hl eg hp; have ha := Lr (oz p l); clear hp hl
 go_enter Tryz.func49, Tryz.ntmps49
 go_wp2_with (go_at_call 66; refine hc.mono ?_; rintro e w' ⟨rfl, hb'⟩)
 go_ret
 exact ⟨az ha.out, hb'⟩
def fC (C : List Cch) (n : ByteArray) : Int := iI (fun o => isC o n) C
theorem JM (n : ByteArray) (y : Cch) (B : Nat) (W : World) (hc : W.cell? ⟨B, 0, none⟩ = some (.string n)) :
 Calls Tryz.prog 68 #[.agg #[.string y.na, .string y.pa, .int .i64 y.de, .int .i64 y.ro], .pointer (some ⟨B, 0, none⟩)] W fun e w' => e = .returned (.bool (isC y n)) ∧ Below W.heap.size W w' := by
 have hlt := LC W _ hc; have hv : Hid ((y.na.toList == n.toList) = isC y n) := Lr rfl
 go_enter Tryz.func68, Tryz.ntmps68
 go_wp2
 go_ret
 exact ⟨az hv.out, (LD _ _).alloc (Ls _) _⟩
theorem JL (x y : Cch) (B : Nat) (W : World) (hc : W.cell? ⟨B, 1, none⟩ = some (.string x.pa)) :
 Calls Tryz.prog 67 #[.agg #[.string y.na, .string y.pa, .int .i64 y.de, .int .i64 y.ro], .pointer (some ⟨B, 0, none⟩)] W fun e w' => e = .returned (.bool (isC y x.pa)) ∧ Below W.heap.size W w' := by
 have hlt : B < W.heap.size := LC W _ hc; have hv : Hid ((y.na.toList == x.pa.toList) = isC y x.pa) := Lr rfl
 go_enter Tryz.func67, Tryz.ntmps67
 go_wp2
 go_ret
 exact ⟨az hv.out, (LD _ _).alloc (Ls _) _⟩
theorem pV (w : World) (q : Nat) (C : List Cch) (vc : Value) (name : ByteArray) (h0 : w.cell? ⟨q, 0, none⟩ = some vc) (hC : Sl w 4 su vc C) :
 Calls Tryz.prog 38 #[.pointer (some ⟨q, 0, none⟩), .string name] w fun e w' => e = .returned (.int .i64 (fC C name)) ∧ Below w.heap.size w w' := by
 obtain ⟨w2, hw2⟩ : ∃ w2, w2 = w.alloc (.cells #[.string name] 9) := ⟨_, rfl⟩
 have hb2 : Below w.heap.size w w2 := by rw [hw2]; exact (LD _ w).alloc (Ls _) _
 have hnb : w2.heap[w.heap.size]? = some (.cells #[.string name] 9 (0, 0)) := by rw [hw2]; exact ag w _
 have HID := Lr (JW 68 #[.pointer (some ⟨w.heap.size, 0, none⟩)] (fun o => isC o name) w2 C vc (hC.below hb2 (Ls _)) (enters_of Tryz.func68 (by kernel_rfl) rfl) (fun W y _ hb => JM name y w.heap.size W (by
  rw [hb.cell (p := ⟨w.heap.size, 0, none⟩) (Array.getElem?_eq_some_iff.1 hnb).1]; exact af hnb 0 rfl)))
 have q0 : w2.cell? ⟨q, 0, none⟩ = some vc := (hb2.cell (p := ⟨q, 0, none⟩) (LC w _ h0)).trans h0; have HW2 := Lr hw2; have HB2 := Lr hb2; have HV : Hid (iI (fun o => isC o name) C = fC C name) := Lr rfl; clear hw2 hb2 hnb hC h0
 go_enter Tryz.func38, Tryz.ntmps38
 go_upto_region 1 with (fail)
 rw [← HW2.out]
 go_wp2_with fail
 refine HID.out.mono ?_; rintro e w3 ⟨rfl, hb3⟩; have HB3 := Lr (HB2.out.bf hb3); clear hb3
 go_wp2_with fail
 go_ret
 exact ⟨ah HV.out, HB3.out⟩
def gK (C : List Cch) (c : Cch) : Sto := ⟨c, fC C c.pa, [], fun _ => default, [], ⟨0, 0, 0, 0, 0, 0⟩⟩
def xY (st : List Sto) (many : Nat) : Day := ⟨st, [], [], fun _ => [], List.replicate many ⟨0, 0, 0, ⟨#[]⟩, 0⟩, 0, 0⟩
section
variable {W W5 : World} {B : Nat} {A : Adr} {D : Day}
theorem PD.start {q g many : Nat} {d0 d1 d2 d3 : Value} (hB : B ≤ W.heap.size) (hq : B ≤ q ∧ W.heap[q]? = some (.cells #[d0, d1, d2, d3, .slice none 0 0, .slice none 0 0, .int .i64 0, .slice (some ⟨g, 0, none⟩) many many, .int .i64 0] 68 (0, 0))) (hg : B ≤ g ∧ W.heap[g]? = some (.cells ((List.replicate many (⟨0, 0, 0, ⟨#[]⟩, 0⟩ : Gtn)).flatMap jF).toArray 35 (0, 0))) (hne : q ≠ g) (hm : many ≤ 1000) :
 ∃ A, PD W B A (xY [] many) ∧ A.q = q ∧ A.d0 = d0 ∧ A.d1 = d1 ∧ A.d2 = d2 ∧ A.d3 = d3 ∧ A.x = [] ∧ A.sv = .slice none 0 0 := by
 refine ⟨⟨q, d0, d1, d2, d3, .slice none 0 0, .slice (some ⟨g, 0, none⟩) many many, .slice none 0 0, fun _ => 0, fun _ => 0, fun _ => 0, fun _ => .slice none 0 0, fun _ => .slice none 0 0, []⟩, ⟨fun r => if r = rWl then some (q, .cells #[d0, d1, d2, d3, .slice none 0 0, .slice none 0 0, .int .i64 0, .slice (some ⟨g, 0, none⟩) many many, .int .i64 0] 68 (0, 0)) else if r = rGo then some (g, .cells ((List.replicate many (⟨0, 0, 0, ⟨#[]⟩, 0⟩ : Gtn)).flatMap jF).toArray 35 (0, 0)) else none, ⟨?_, ?_, hB⟩, ?_⟩, rfl, rfl, rfl, rfl, rfl, rfl, rfl⟩
 ·intro r b o h; split at h
  ·cases h; exact hq
  ·split at h
   ·cases h; exact hg
   ·cases h
 ·intro r s b o o' h h'; split at h
  ·rename_i e; cases h
   split at h'
   ·rename_i e'; rw [e, e']
   ·split at h'
    ·cases h'; exact absurd rfl hne
    ·cases h'
  ·split at h
   ·rename_i e; cases h
    split at h'
    ·cases h'; exact absurd rfl hne
    ·split at h'
     ·rename_i e'; rw [e, e']
     ·cases h'
   ·cases h
 ·have hl : ((List.replicate many (⟨0, 0, 0, ⟨#[]⟩, 0⟩ : Gtn)).flatMap jF).length = many * 5 := by
   rw [ay dH]; simp
  exact {
   wl := by rw [if_pos rfl]; rfl
   ss := .inl ⟨rfl, rfl, by rw [if_neg (by decide), if_neg (by decide)]⟩
   go := by
    rw [if_neg (by decide), if_pos rfl]; refine .inr ⟨g, many, _, ?_, rfl, ?_, ?_, ?_, ?_⟩
    ·show Value.slice (some ⟨g, 0, none⟩) many many = .slice (some ⟨g, 0, none⟩) (List.replicate many _).length many
     rw [List.length_replicate]
    ·show (List.replicate many _).length ≤ many; simp
    ·unfold maxLen; omega
    ·simp [hl]
    ·show List.take ((List.replicate many _).length * 5) _ = _
     rw [List.length_replicate]; simp only []
     rw [List.take_of_length_le (by simp [hl])]
     rfl
   qu := .inl ⟨rfl, rfl, by rw [if_neg (by decide), if_neg (by decide)]⟩
   st := fun i s h => by cases h
   mp := fun i s h => by cases h
   sa := fun i s h => by cases h
   ak := fun i s h => by cases h
   wa := fun i s h => by cases h
   fx := fun k b o h => by cases h }
theorem PD.JD (h : PD W B A D) : df A.q A.sv := by
 obtain ⟨M, h1, h2⟩ := h; exact bV.off h1 h2.ss h2.wl (by decide)
theorem PD.Ko (h : PD W B A D) (hx : A.x = []) (s : Sto) (h1 : s.ks = []) (h2 : s.ar = []) {W2 : World} {mb sb : Nat} {mo : Obj} (hW2 : Below W.heap.size W W2) (hm : mb = W.heap.size ∧ W2.heap[mb]? = some mo ∧ Gl mo D.pu s.hm s.ks) (hs : sb = W.heap.size + 1 ∧ W2.heap[sb]? = some (.cells #[.string s.ch.na, .string s.ch.pa, .int .i64 s.ch.de, .int .i64 s.ch.ro, .int .i64 s.pa, .map (some mb), .slice none 0 0, .int .i64 s.ld.ca, .int .i64 s.ld.fr, .int .i64 s.ld.sl, .int .i64 s.ld.wt, .int .i64 s.ld.ak, .int .i64 s.ld.bs] 84 (0, 0))) {v5 : Value}
 (hown : Own W5 B 80 1 (oH (upF A.sb D.st.length sb)) v5 (List.range (D.st.length + 1))) (hsz : W2.heap.size ≤ W5.heap.size) (hk : dm W2 W5 A.sv v5) :
 ∃ A', PD (W5.setCell ⟨A.q, 4, none⟩ v5) B A' { D with st := D.st ++ [s] } ∧ A'.q = A.q ∧ A'.d0 = A.d0 ∧ A'.d1 = A.d1 ∧ A'.d2 = A.d2 ∧ A'.d3 = A.d3 ∧ A'.x = [] ∧ A'.sv = v5 := by
 obtain ⟨M, g1, g2⟩ := h; obtain ⟨i, hi⟩ : ∃ i, i = D.st.length := ⟨_, rfl⟩
 rw [← hi] at hown; have k1 := g1.below hW2; have hnew : ∀ r b o, M r = some (b, o) → b < W.heap.size := fun r b o hr => g1.lt hr
 have k2 : Mm W2 B (upM M (rMp i) (some (mb, mo))) := k1.put (Ls _) (by rw [hm.1]; exact g1.base) hm.2.1 (fun q b o _ hq => ⟨rfl, by have := hnew q b o hq; omega⟩); obtain ⟨so, hso⟩ : ∃ so : Array Value, so = #[.string s.ch.na, .string s.ch.pa, .int .i64 s.ch.de, .int .i64 s.ch.ro, .int .i64 s.pa, .map (some mb), .slice none 0 0, .int .i64 s.ld.ca, .int .i64 s.ld.fr, .int .i64 s.ld.sl, .int .i64 s.ld.wt, .int .i64 s.ld.ak, .int .i64 s.ld.bs] := ⟨_, rfl⟩
 rw [← hso] at hs; have k3 : Mm W2 B (upM (upM M (rMp i) (some (mb, mo))) (rSt i) (some (sb, .cells so 84 (0, 0)))) := k2.put (Ls _) (by have := g1.base; omega) hs.2 (fun q b o hne hq => ⟨rfl, by
  by_cases e : q = rMp i
  ·subst e; rw [au] at hq; cases hq
   omega
  ·rw [ae _ _ e] at hq; have := hnew q b o hq; omega⟩)
 have ha : (upM (upM M (rMp i) (some (mb, mo))) (rSt i) (some (sb, .cells so 84 (0, 0)))) rSs = M rSs := by rw [ae _ _ (by unfold rSt rSs; omega), ae _ _ (by unfold rMp rSs; omega)]
 obtain ⟨x, k4, k5⟩ := k3.grow (r := rSs) (by rw [ha]; exact g2.ss) hown hsz hk; have k4d := k5.drop (W' := W5) (Ls _) (r := rSa i) (fun _ _ _ _ _ => rfl); have k6 := k4d.set (r := rWl) (b := A.q) (cs := qo A D) (T := 68) (by rw [ae _ _ (by unfold rWl rSa; omega), ae _ _ (by decide), ae _ _ (by unfold rWl rSt; omega), ae _ _ (by unfold rWl rMp; omega)]; exact g2.wl) 4 v5; have hS : ∀ (j : Nat) (t : Sto), D.st[j]? = some t → j < i := fun j t ht => by rw [hi]; exact (List.getElem?_eq_some_iff.1 ht).1
 refine ⟨{ A with sv := v5, sb := upF A.sb i sb, mb := upF A.mb i mb, av := upF A.av i (.slice none 0 0) }, ⟨_, k6, ?_⟩, rfl, rfl, rfl, rfl, rfl, hx, rfl⟩; exact {
  wl := by rw [au]; rfl
  ss := by
   rw [ae _ _ (by decide), ae _ _ (by unfold rSs rSa; omega), au]; show bV x _ _ _ v5 (List.range (D.st ++ [s]).length)
   rw [List.length_append, ← hi]; exact (show List.range (i + 1) = List.range (D.st.length + 1) by rw [hi]) ▸ k4
  go := by rw [ae _ _ (by decide), ae _ _ (by unfold rGo rSa; omega), ae _ _ (by decide), ae _ _ (by unfold rSt rGo; omega), ae _ _ (by unfold rMp rGo; omega)]; exact g2.go
  qu := by rw [ae _ _ (by decide), ae _ _ (by unfold rQu rSa; omega), ae _ _ (by decide), ae _ _ (by unfold rSt rQu; omega), ae _ _ (by unfold rMp rQu; omega)]; exact g2.qu
  st := fun j t ht => by
   rw [ae _ _ (by unfold rSt rWl; omega), ae _ _ (by unfold rSt rSa; omega), ae _ _ (by unfold rSt rSs; omega)]; rcases dL ht with ⟨e, rfl⟩ | ⟨hj, ht⟩
   ·rw [← hi] at e; subst e; rw [au, hso]; show _ = some (upF A.sb j sb j, Obj.cells (cellsS _ j t) _ _)
    unfold cellsS; simp only [aZ]
   ·rw [← hi] at hj; rw [ae _ _ (by unfold rSt; omega), ae _ _ (by unfold rSt rMp; omega)]; show _ = some (upF A.sb i sb j, Obj.cells (cellsS _ j t) _ _)
    unfold cellsS; simp only [aS _ _ (Nat.ne_of_lt hj)]
    exact g2.st j t ht
  mp := fun j t ht => by
   rw [ae _ _ (by unfold rMp rWl; omega), ae _ _ (by unfold rMp rSa; omega), ae _ _ (by unfold rMp rSs; omega), ae _ _ (by unfold rMp rSt; omega)]; rcases dL ht with ⟨e, rfl⟩ | ⟨hj, ht⟩
   ·rw [← hi] at e; subst e; rw [au]; refine ⟨mo, ?_, hm.2.2⟩; show _ = some (upF A.mb j mb j, _)
    rw [aZ]
   ·rw [← hi] at hj; rw [ae _ _ (by unfold rMp; omega)]; show ∃ o, _ = some (upF A.mb i mb j, o) ∧ _
    rw [aS _ _ (Nat.ne_of_lt hj)]; exact g2.mp j t ht
  sa := fun j t ht => by
   rw [ae _ _ (by unfold rSa rWl; omega)]; rcases dL ht with ⟨e, rfl⟩ | ⟨hj, ht⟩
   ·rw [← hi] at e; subst e; rw [au]; show bV none _ _ _ (upF A.av j _ j) t.ar
    rw [aZ, h2]; exact .inl ⟨rfl, rfl, rfl⟩
   ·rw [← hi] at hj; rw [ae _ _ (by unfold rSa; omega), ae _ _ (by unfold rSa rSs; omega), ae _ _ (by unfold rSa rSt; omega), ae _ _ (by unfold rSa rMp; omega)]; show bV _ _ _ _ (upF A.av i _ j) t.ar
    rw [aS _ _ (Nat.ne_of_lt hj)]; exact g2.sa j t ht
  ak := fun j k hk => by rw [ae _ _ (by unfold rAk rWl; omega), ae _ _ (by unfold rAk rSa; omega), ae _ _ (by unfold rAk rSs; omega), ae _ _ (by unfold rAk rSt; omega), ae _ _ (by unfold rAk rMp; omega)]; exact g2.ak j k hk
  wa := fun j k hk => by rw [ae _ _ (by unfold rWa rWl; omega), ae _ _ (by unfold rWa rSa; omega), ae _ _ (by unfold rWa rSs; omega), ae _ _ (by unfold rWa rSt; omega), ae _ _ (by unfold rWa rMp; omega)]; exact g2.wa j k hk
  fx := fun k b o hk => by
   have hk' : A.x[k]? = some (b, o) := hk; rw [hx] at hk'; cases hk' }
end
inductive Mod where
 | out | pur | bak | get | arr
structure Cfg where
 m : Mod
 D : Day
 g : Nat
 p : Nat
def hdE (D : Day) : Evn := hat D.qu 0
def wU (D : Day) (lim : Int) : Int := if 0 < D.qu.length then min (lim + 1) (hdE D).ti else lim + 1
def uD (D : Day) (L : List Gt) (g : Nat) (lim : Int) : Int := if g < L.length then min (wU D lim) (L.getD g default).ti else wU D lim
def kP (D : Day) (L : List Gt) (P : List Pur) (g p : Nat) (lim : Int) : Int := if p < P.length then min (uD D L g lim) (P.getD p default).ti else uD D L g lim
section
variable (C : List Cch) (R : List Crl) (E : List Rel) (P : List Pur) (L : List Gt) (lim : Int)
def gU (c : Cfg) : Prop := c.p < P.length ∧ (P.getD c.p default).ti = c.D.no
def iH (c : Cfg) : Prop := c.g < L.length ∧ (L.getD c.g default).ti = c.D.no
def di (c : Cfg) : Prop := 0 < c.D.qu.length ∧ (hdE c.D).ti = c.D.no
instance (c : Cfg) : Decidable (gU P c) := by unfold gU; infer_instance
instance (c : Cfg) : Decidable (iH L c) := by unfold iH; infer_instance
instance (c : Cfg) : Decidable (di c) := by unfold di; infer_instance
def Ir (c : Cfg) : Nat := (fC C (L.getD c.g default).ca).toNat
def Cfg.next (c : Cfg) : Option Cfg :=
 match c.m with
 | .out => if lim < kP c.D L P c.g c.p lim then none else some { c with m := .pur, D := c.D.IP (kP c.D L P c.g c.p lim) }
 | .pur => if gU P c then some { c with D := c.D.FP (P.getD c.p default).ke, p := c.p + 1 } else some { c with m := .bak }
 | .bak => if di c ∧ (hdE c.D).bk = true then some { c with D := c.D.bM.jH R P (hdE c.D).ak (hdE c.D).an } else some { c with m := .get }
 | .get => if iH L c then some { c with D := c.D.dX R P (Ir C L c) (c.D.S (Ir C L c)) (L.getD c.g default).ke ⟨c.g, none⟩, g := c.g + 1 } else some { c with m := .arr }
 | .arr => if di c then some { c with D := c.D.bM.sF R E P (hdE c.D).ak } else some { c with m := .out }
def due (c : Cfg) : Prop :=
 match c.m with
 | .out => False
 | .pur => gU P c ∨ di c ∨ iH L c
 | .bak => di c ∨ iH L c
 | .get => di c ∨ iH L c
 | .arr => di c
structure uA (I : Nat → Cfg → Prop) : Prop where
 fit : ∀ k c, I k c → ∃ n, n ≤ 310000 ∧ Fit n c.D
 step : ∀ k c c', I k c → c.next C R E P L lim = some c' → ∃ k', I k' c' ∧ k' ≤ k ∧ (c'.m = c.m → k' < k)
 back : ∀ k c, I k c → c.m = .bak → di c → (hdE c.D).bk = true → (hdE c.D).ak ∈ (c.D.S (c.D.K (hdE c.D).ak).ca).ar
 get : ∀ k c, I k c → c.m = .get → iH L c → ∃ i : Nat, fC C (L.getD c.g default).ca = (i : Int) ∧ i < c.D.st.length ∧ (L.getD c.g default).ke.size ≤ 300 ∧ c.g < c.D.go.length
 par : ∀ k c, I k c → c.m = .arr → di c → (c.D.S (c.D.K (hdE c.D).ak).ca).pa < c.D.st.length
 pos : ∀ k c, I k c → c.g ≤ L.length ∧ c.p ≤ P.length ∧ c.D.st.length ≤ 1000
theorem rF {I : Nat → Cfg → Prop} (h : uA C R E P L lim I) {k k0 : Nat} {c c' : Cfg} (hI : I k c) (hk : k ≤ k0) (hd : c.m ≠ .out → k < k0 ∨ due P L c) (hn : c.next C R E P L lim = some c') :
 ∃ k', I k' c' ∧ k' ≤ k0 ∧ (k' < k0 ∨ due P L c') := by
 obtain ⟨k', h1, h2, h3⟩ := h.step k c c' hI hn; refine ⟨k', h1, by omega, ?_⟩; obtain ⟨m, D, g, p⟩ := c; cases m with
 | out =>
  right
  unfold Cfg.next at hn
  dsimp only at hn
  split at hn
  ·cases hn
  ·rename_i hlim; cases hn
   show gU P _ ∨ di _ ∨ iH L _
   unfold gU di iH; show (p < P.length ∧ (P.getD p default).ti = kP D L P g p lim) ∨ (0 < D.qu.length ∧ (hdE D).ti = kP D L P g p lim) ∨ (g < L.length ∧ (L.getD g default).ti = kP D L P g p lim)
   revert hlim
   unfold kP uD wU; split <;> split <;> split <;> omega
 | pur =>
  have hd := hd (by simp); unfold Cfg.next at hn
  dsimp only at hn
  split at hn
  ·cases hn
   exact .inl (by have := h3 rfl; omega)
  ·rename_i hp; cases hn
   rcases hd with hd | hd
   ·exact .inl (by omega)
   ·rcases hd with hd | hd
    ·exact absurd hd hp
    ·exact .inr hd
 | bak =>
  have hd := hd (by simp); unfold Cfg.next at hn
  dsimp only at hn
  split at hn
  ·cases hn
   exact .inl (by have := h3 rfl; omega)
  ·cases hn
   rcases hd with hd | hd
   ·exact .inl (by omega)
   ·exact .inr hd
 | get =>
  have hd := hd (by simp); unfold Cfg.next at hn
  dsimp only at hn
  split at hn
  ·cases hn
   exact .inl (by have := h3 rfl; omega)
  ·rename_i hp; cases hn
   rcases hd with hd | hd
   ·exact .inl (by omega)
   ·rcases hd with hd | hd
    ·exact .inr hd
    ·exact absurd hd hp
 | arr =>
  have hd := hd (by simp); unfold Cfg.next at hn
  dsimp only at hn
  split at hn
  ·cases hn
   exact .inl (by have := h3 rfl; omega)
  ·rename_i hp; cases hn
   rcases hd with hd | hd
   ·exact .inl (by omega)
   ·exact absurd hd hp
end
def Day.uC (D : Day) (key : ByteArray) (i : Nat) : Day := { D with st := ((D.st.take i).map fun s => { s with ks := rmv key s.ks }) ++ D.st.drop i }
theorem Day.Bf (D : Day) (key : ByteArray) : D.uC key 0 = D := by unfold Day.uC; simp
theorem Day.Ep (D : Day) (key : ByteArray) : D.uC key D.st.length = D.FP key := by unfold Day.uC Day.FP; simp
theorem Day.qJ {D : Day} {key : ByteArray} {i : Nat} : (D.uC key i).st.length = D.st.length := by unfold Day.uC; simp; omega
theorem Day.GL {D : Day} {key : ByteArray} {i : Nat} (h : i < D.st.length) : (D.uC key i).st[i]? = some (D.S i) := by
 unfold Day.uC; show (_ ++ _)[i]? = _
 rw [List.getElem?_append_right (by simp; omega)]; rw [List.length_map, List.length_take, Nat.min_eq_left (Nat.le_of_lt h), Nat.sub_self, List.getElem?_drop, Nat.add_zero]; exact Day.at_ h
theorem Day.Bg {D : Day} {key : ByteArray} {i : Nat} (h : i < D.st.length) : { D.uC key i with st := (D.uC key i).st.set i { D.S i with ks := rmv key (D.S i).ks }, pu := D.pu } = D.uC key (i + 1) := by
 unfold Day.uC; simp only [Day.mk.injEq, and_true]
 have hs := Day.at_ h; have e : D.st.drop i = D.S i :: D.st.drop (i + 1) := by
  rw [List.drop_eq_getElem_cons h]
  congr 1
  rw [Lu h] at hs; exact Option.some.inj hs
 rw [e, List.take_add_one, hs, List.map_append, List.append_assoc, List.set_append_right _ _ (by simp; omega)]; simp [Nat.min_eq_left (Nat.le_of_lt h)]
theorem xx {K : Nat → Akn} {l : List Evn} (h : l ≠ []) {e : Evn} (he : e ∈ (hpop (bfr K) l).2) : e ∈ l := (jT h).subset (List.mem_cons_of_mem _ he)
theorem EP {K : Nat → Akn} {l : List Evn} (h : l ≠ []) : (hpop (bfr K) l).2.length + 1 = l.length := by
 have := (jT (lt := bfr K) h).length_eq
 simpa using this
theorem Fit.pop {n : Nat} {D : Day} (h : Fit n D) (hq : 0 < D.qu.length) : Fit n D.bM := by
 have hne : D.qu ≠ [] := List.length_pos_iff.1 hq; have hl := EP (K := D.K) hne; exact { h with
  num := ⟨fun e he => h.num.qu e (xx hne he), h.num.ar, h.num.wa⟩
  qu := by show (hpop (bfr D.K) D.qu).2.length ≤ n; have := h.qu; omega
  qa := fun e he => h.qa e (xx hne he) }
theorem Day.EG {D : Day} {R : List Crl} {P : List Pur} {i : Nat} {s : Sto} {key : ByteArray} {x : Ans} : (D.keepD R P i s key x).no = D.no := by
 unfold Day.keepD; split
 ·rfl
 ·split <;> rfl
theorem Day.Fz {D : Day} {R : List Crl} {P : List Pur} {j : Nat} {x : Ans} : (D.jH R P j x).no = D.no := by
 have h := (iW x (D.wa j) (D.bz (D.K j).ca (lg (D.S (D.K j).ca) j x.si))).no; unfold Day.jH
 dsimp only
 split
 ·rw [Day.EG]; exact h
 ·exact h
theorem nR {D : Day} {f : Wtr} {h : Int} : (D.dQ f h).no = D.no := by
 unfold Day.dQ; cases f.ak <;> rfl
theorem Day.yj {D : Day} {R : List Crl} {P : List Pur} {i : Nat} {s : Sto} {key : ByteArray} {f : Wtr} : (D.dX R P i s key f).no = D.no := by
 unfold Day.dX; split
 ·unfold Day.BH; rw [nR]; rfl
 ·split
  ·unfold Day.uq; rw [nR, iY]; rfl
  ·split
   ·rw [nR]; unfold Day.lQ; split
    ·unfold Day.jk; rw [iY]; rfl
    ·show (Day.jk _ _ _ _ _).no = _
     unfold Day.jk; rw [iY]; rfl
   ·split
    ·unfold Day.uU; rw [nR]; rfl
    ·unfold Day.BH; rw [nR]; rfl
theorem Day.Ie {D : Day} {R : List Crl} {E : List Rel} {P : List Pur} {j : Nat} : (D.sF R E P j).no = D.no := by
 unfold Day.sF; split
 ·exact Day.yj
 ·exact iY
theorem dU {D : Day} (hq : 0 < D.qu.length) : hdE D ∈ D.qu := nV hq
end Go.Proofs.YtgohddfnhofjhaaGreatDoor

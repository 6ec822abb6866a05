/- Best of keys: what a cache finds at most: plain. -/
import Derived.Test.YtgohddfnhofjhaaGreatDoorK07
import Derived.Test.YtgohddfnhofjhaaGreatDoorK02
import Derived.Laws.OwnMore
import Derived.Lib.SlicesS
import Derived.Test.YtgohddfnhofjhaaGreatDoorK01
set_option maxRecDepth 100000
set_option maxHeartbeats 2000000
namespace Go.Proofs.YtgohddfnhofjhaaGreatDoor
open Go.RowKit
theorem oO.onl {Q g n c : Nat} {w w1 w2 : World} {v : Value} (h : oO Q w w1 v (.slice (some ⟨g, 0, none⟩) n c)) (hQ : Q < w.heap.size) (ho : Onl g w1 w2) : oO Q w w2 v (.slice (some ⟨g, 0, none⟩) n c) where
 other b h1 h2 h3 := by
  obtain ⟨p1, p2⟩ := h.other b h1 h2 h3; have : b ≠ g := fun e => p2 _ _ _ rfl e.symm
  exact ⟨(World.grownBy.block ho b (Nat.lt_of_lt_of_le h1 h.size) (fun e => this (by simpa using e))).trans p1, p2⟩
 off := h.off
 own cs T fr hc := by
  have : Q ≠ g := fun e => h.off _ _ _ rfl e.symm
  exact (World.grownBy.block ho Q (Nat.lt_of_lt_of_le hQ h.size) (fun e => this (by simpa using e))).trans (h.own cs T fr hc)
 size := Nat.le_trans h.size ho.size
 os := (World.grownBy.os ho).trans h.os
 tape := (World.grownBy.tape ho).trans h.tape
 output := (World.grownBy.output ho).trans h.output
theorem oO.refl {Q B : Nat} {a : Nat → Nat} {w : World} {v : Value} {l : List Evn} (h : QAt Q B a w v l) : oO Q w w v v where
 other _ _ _ h3 := ⟨rfl, h3⟩
 off := h.off
 own cs T fr hc := by
  obtain ⟨cs', T', h1, h2⟩ := h.blk; rw [h1] at hc; simp only [Option.some.injEq, Obj.cells.injEq] at hc
  obtain ⟨rfl, rfl, rfl⟩ := hc; rw [h1]
  congr 2
  have hlt := (Array.getElem?_eq_some_iff.1 h2).1; apply Array.ext_getElem?; intro i; by_cases e : i = 5
  ·subst e; rw [Array.getElem?_setIfInBounds_self_of_lt hlt, h2]
  ·rw [Array.getElem?_setIfInBounds_ne (Ne.symm e)]
 size := Ls _
 os := rfl
 tape := rfl
 output := rfl
theorem lJ (w : World) (Q B : Nat) (a : Nat → Nat) (K : Nat → Akn) (v : Value) (l : List Evn) (e : Evn) (h : QAt Q B a w v l) (hl : l.length ≤ 999999) (ha : ∀ x, x ∈ l ++ [e] → rU w a K x.ak ∧ df (a x.ak) v ∧ a x.ak ≠ Q) :
 Calls Tryz.prog 115 #[.iface 135 (.pointer (some ⟨Q, 5, none⟩)), .iface 133 (.agg (fV a e).toArray)] w fun r w' => r = .returned (.tuple #[]) ∧ ∃ v', QAt Q B a w' v' (hpush (bfr K) l e) ∧ oO Q w w' v v' := by
 have HP := Lr (zl w Q B a v l e h (by omega)); have HA := Lr ha; have HQL := Lr h.lt; have h1 := fun w => JK w Q
 have h2 := fun w => JJ w Q
 have h3 := fun w => KE w Q
 have hE : Hid (hpush (bfr K) l e = hup (bfr K) (l.length + 1) l.length (l ++ [e])) := Lr rfl; clear h ha; obtain ⟨X, hX⟩ : ∃ X, X = (fV a e).toArray := ⟨_, rfl⟩
 rw [← hX] at HP ⊢; clear hX
 go_enter Tryz.func115, Tryz.ntmps115
 go_wp2_with fail
 refine HP.out.mono ?_; rintro r w1 ⟨rfl, v1, hq1, hc1⟩; have hne : l ++ [e] ≠ [] := by simp
 obtain ⟨g, cap, rfl, -, -, -, -, -, -⟩ := Own.gZ (dJ a) hq1.own hne; have hlen : (l ++ [e]).length = l.length + 1 := by simp
 rw [hlen] at hq1 hc1; have HQ1 := Lr hq1; have HC1 := Lr hc1; have hm1 := KF hq1.cell.1; have e1 : ((l.length + 1 : Nat) : Int) - 1 = (l.length : Int) := by omega
 have HU := Lr (IA w1 Q B g (l.length + 1) cap a K (l ++ [e]) l.length hq1 (by simp) (by simp; omega) (by simp) (fun x hx => by
  obtain ⟨k1, k2, k3⟩ := HA.out x hx; obtain ⟨p1, p2⟩ := hc1.other _ k1.lt k3 k2; exact ⟨k1.blk p1, fun e => p2 _ _ _ rfl e.symm⟩))
 clear hq1 hc1 hne hlen
 go_wp2_with fail
 refine (len_any w1 _ _ _).mono ?_; rintro r w2 ⟨rfl, rfl⟩
 go_wp2_with fail
 refine HU.out.mono ?_; rintro r w3 ⟨rfl, hq3, ho3⟩; have HQ3 := Lr hq3; have HC3 := Lr (HC1.out.onl HQL.out ho3); clear hq3 ho3 hm1
 go_wp2_with fail
 go_end0
 exact ⟨rfl, _, by rw [hE.out]; exact HQ3.out, HC3.out⟩
theorem uZ (w : World) (Q B : Nat) (a : Nat → Nat) (K : Nat → Akn) (v : Value) (l : List Evn) (h : QAt Q B a w v l) (hl : l.length ≤ 1000000) (h0 : 0 < l.length) (ha : ∀ x, x ∈ l → rU w a K x.ak ∧ df (a x.ak) v ∧ a x.ak ≠ Q) :
 Calls Tryz.prog 69 #[.iface 135 (.pointer (some ⟨Q, 5, none⟩))] w fun r w' => r = .returned (.iface 133 (.agg (fV a (hpop (bfr K) l).1).toArray)) ∧ ∃ v', QAt Q B a w' v' (hpop (bfr K) l).2 ∧ oO Q w w' v v' := by
 have hne : l ≠ [] := fun e => by rw [e] at h0; simp at h0
 obtain ⟨g, cap, rfl, -, -, -, -, -, -⟩ := Own.gZ (dJ a) h.own hne; obtain ⟨k, hk⟩ : ∃ k, k = l.length - 1 := ⟨_, rfl⟩
 have HC0 := Lr (oO.refl h); have HQL := Lr h.lt; have hm0 := KF h.cell.1; have hs0 := GV h.cell.1; have HSW := Lr (swap_any w B g cap a l 0 k h.own (by omega) (by omega)); have HD := Lr (fun (W : World) (ho : Own W B 133 8 (fV a) (.slice (some ⟨g, 0, none⟩) l.length cap) (hsw l 0 k)) (hn : Onl g w W) => Fa W Q B g l.length cap a K (hsw l 0 k) k (h.onl hn ho) (by rw [bg]) (by rw [bg]; exact hl) (by omega) h0 (fun x hx => by
  obtain ⟨k1, k2, k3⟩ := ha x (qW h0 (by omega) hx); have hg : a x.ak ≠ g := fun e => k2 _ _ _ rfl e.symm
  exact ⟨k1.onl hn hg, hg⟩))
 have HPL : Hid (hdn (bfr K) k (hsw l 0 k).length 0 (hsw l 0 k) = dD (bfr K) l) := Lr (by rw [bg, hk]; rfl); have HLEN : Hid ((dD (bfr K) l).length = l.length) := Lr (by unfold dD; rw [vg, bg]); have HPP : Hid ((hpop (bfr K) l).1 = hat (dD (bfr K) l) (l.length - 1) ∧ (hpop (bfr K) l).2 = (dD (bfr K) l).take (l.length - 1)) := Lr ⟨rfl, rfl⟩; rw [HPL.out] at HD; have e1 : (l.length : Int) - 1 = (k : Int) := by omega
 have h1 := fun w => KT w Q
 have h2 := fun w => KR w Q
 have h3 := fun w => KE w Q
 have h4 := fun w => GN w Q
 obtain ⟨X, hX⟩ : ∃ X, X = (fV a (hpop (bfr K) l).1).toArray := ⟨_, rfl⟩
 rw [← hX]; have HX := Lr hX; clear hk h ha hne hX
 go_enter Tryz.func69, Tryz.ntmps69
 go_wp2_with fail
 refine (len_any w _ _ _).mono ?_; rintro r w0 ⟨rfl, rfl⟩
 go_wp2_with fail
 refine HSW.out.mono ?_; rintro r w1 ⟨rfl, ho1, hn1⟩; have HD1 := Lr (HD.out w1 ho1 hn1); have HN1 := Lr hn1; clear ho1 hn1 hm0 hs0
 go_wp2_with fail
 refine HD1.out.mono ?_; rintro r w2 ⟨⟨bb, rfl⟩, hq2, hn2⟩; have HC2 := Lr (HC0.out.onl HQL.out (HN1.out.trans hn2)); have HPO := CZ w2 Q B a _ _ hq2 (by rw [HLEN.out]; exact hl) (by rw [HLEN.out]; exact h0); rw [HLEN.out, ← HPP.out.1, ← HPP.out.2, ← HX.out] at HPO; have HPO := Lr HPO; clear hq2 hn2
 go_wp2_with fail
 refine HPO.out.mono ?_; rintro r w3 ⟨rfl, v3, hq3, hc3⟩; have HQ3 := Lr hq3; have HC3 := Lr (HC2.out.trans hc3); clear hq3 hc3
 go_wp2_with fail
 go_ret
 exact ⟨rfl, _, HQ3.out, HC3.out⟩
def rmv (x : ByteArray) (H : List ByteArray) : List ByteArray := H.filter fun y => !decide (y = x)
theorem aU {x y : ByteArray} {H : List ByteArray} : y ∈ rmv x H ↔ y ∈ H ∧ y ≠ x := by
 unfold rmv; rw [List.mem_filter]; simp
theorem AZ {x : ByteArray} {H : List ByteArray} (h : ¬ x ∈ H) : rmv x H = H := by
 unfold rmv; rw [List.filter_eq_self]; intro a ha; simp only [Bool.not_eq_true', decide_eq_false_iff_not]
 exact fun e => h (by rw [← e]; exact ha)
theorem qI (x a : ByteArray) (H : List ByteArray) : rmv x (a :: H) = if a = x then rmv x H else a :: rmv x H := by
 unfold rmv; rw [List.filter_cons]; by_cases e : a = x <;> simp [e]
theorem pR {x : ByteArray} : ∀ {H : List ByteArray}, x ∈ H → (rmv x H).length + 1 ≤ H.length
 | a :: r, h => by
  have hle : (rmv x r).length ≤ r.length := List.length_filter_le _ _; rw [qI]; by_cases e : a = x
  ·rw [if_pos e]; simp only [List.length_cons]; omega
  ·rw [if_neg e]; have := pR (H := r) ((List.mem_cons.1 h).resolve_left fun c => e c.symm); simp only [List.length_cons]; omega
theorem Ba {x : ByteArray} : ∀ {H : List ByteArray}, H.Nodup → x ∈ H → (rmv x H).length = H.length - 1
 | a :: r, hn, h => by
  rw [List.nodup_cons] at hn; rw [qI]; by_cases e : a = x
  ·subst e; rw [if_pos rfl, AZ hn.1]; simp
  ·rw [if_neg e]; have hx : x ∈ r := (List.mem_cons.1 h).resolve_left fun c => e c.symm
   have := Ba hn.2 hx; have := List.length_pos_of_mem hx; simp only [List.length_cons]; omega
theorem bJ {x : ByteArray} {H : List ByteArray} (h : H.Nodup) : (rmv x H).Nodup := h.filter _
end Go.Proofs.YtgohddfnhofjhaaGreatDoor

/- nameOf, the comparison of two parts, and the stable sort of at most 20 parts. -/
import Derived.Test.YtgohddfnhofjhaaGreatDoorK31
import Derived.Laws.StructEq
import Derived.Shelf.SlSortCmp.Insertion
import Derived.Test.YtgohddfnhofjhaaGreatDoorProg
import Derived.Test.YtgohddfnhofjhaaGreatDoorK06
import Derived.Lib.OwnBridge
import Derived.Test.YtgohddfnhofjhaaGreatDoorK01
set_option maxRecDepth 100000
set_option maxHeartbeats 1000000
namespace Go.Proofs.YtgohddfnhofjhaaGreatDoor
open Go.RowKit
theorem ug (a : Xh) (l : List Xh) (x : Xh) : uX (a :: l) x = if lsK x a = true then a :: uX l x else x :: a :: l := by
 unfold uX atH; by_cases h : lsK x a = true
 ·rw [if_pos h, List.takeWhile_cons_of_pos h]; rfl
 ·rw [if_neg h, List.takeWhile_cons_of_neg h]; rfl
theorem nN (x : Xh) : ∀ l : List Xh, (uX l x).Perm (x :: l)
 | [] => List.Perm.refl _
 | a :: l => by
  rw [ug]; split
  ·exact ((nN x l).cons a).trans (List.Perm.swap x a l)
  ·exact List.Perm.refl _
def KeL (a b : Xh) : Prop := pq a.ke b.ke < 0
theorem BX {x y : Xh} : lsK x y = true ↔ KeL y x := by
 unfold lsK KeL pq; rw [bytesLess_eq, ByteArray.toList_eq, ByteArray.toList_eq, decide_eq_true_eq]; exact DD.symm
theorem KeL.tr {a b c : Xh} (h1 : KeL a b) (h2 : KeL b c) : KeL a c := Fj h1 h2
theorem xq (x : Xh) : ∀ l : List Xh, l.Pairwise KeL → (∀ y, y ∈ l → y.ke ≠ x.ke) → (uX l x).Pairwise KeL
 | [], _, _ => List.pairwise_singleton _ _
 | a :: l, h, hn => by
  obtain ⟨h1, h2⟩ := List.pairwise_cons.1 h; rw [ug]; split
  ·rename_i hl; refine List.pairwise_cons.2 ⟨fun y hy => ?_, xq x l h2 fun y hy => hn y (List.mem_cons_of_mem _ hy)⟩; rcases List.mem_cons.1 ((nN x l).mem_iff.1 hy) with rfl | hy
   ·exact BX.1 hl
   ·exact h1 y hy
  ·rename_i hl; have hx : KeL x a := by
    have h3 : ¬ KeL a x := fun e => hl (BX.2 e)
    unfold KeL at h3 ⊢; have h4 := fO a.ke x.ke; have h5 : pq a.ke x.ke ≠ 0 := fun e => hn a (List.mem_cons_self ..) (jY e)
    omega
   refine List.pairwise_cons.2 ⟨fun y hy => ?_, h⟩; rcases List.mem_cons.1 hy with rfl | hy
   ·exact hx
   ·exact hx.tr (h1 y hy)
theorem I8 : ∀ (H l : List Xh), l.Pairwise KeL → ((l ++ H).map Xh.ke).Nodup → (H.foldl uX l).Pairwise KeL ∧ (H.foldl uX l).Perm (l ++ H)
 | [], l, h, _ => ⟨h, by rw [List.append_nil]; exact List.Perm.refl _⟩
 | x :: H, l, h, hn => by
  have hp : (uX l x ++ H).Perm (l ++ x :: H) := ((nN x l).append_right H).trans List.perm_middle.symm; have hx : ∀ y, y ∈ l → y.ke ≠ x.ke := fun y hy e => by
   rw [List.map_append, List.map_cons] at hn; exact (List.nodup_append.1 hn).2.2 y.ke (List.mem_map_of_mem hy) x.ke (List.mem_cons_self ..) e
  obtain ⟨h1, h2⟩ := I8 H (uX l x) (xq x l h hx) ((hp.map Xh.ke).nodup_iff.2 hn); exact ⟨h1, h2.trans hp⟩
theorem vZ {α : Type} {r : α → α → Prop} (asy : ∀ a b, r a b → ¬ r b a) : ∀ {l m : List α}, l.Pairwise r → m.Pairwise r → l.Perm m → l = m
 | [], m, _, _, h => (List.nil_perm.1 h).symm
 | a :: l, [], _, _, h => absurd h.length_eq (by simp)
 | a :: l, b :: m, h1, h2, h => by
  obtain ⟨h1a, h1l⟩ := List.pairwise_cons.1 h1; obtain ⟨h2b, h2m⟩ := List.pairwise_cons.1 h2; have e : a = b := by
   have ha : a ∈ b :: m := h.mem_iff.1 (List.mem_cons_self ..); have hb : b ∈ a :: l := h.mem_iff.2 (List.mem_cons_self ..); rcases List.mem_cons.1 ha with e | ha
   ·exact e
   ·rcases List.mem_cons.1 hb with e | hb
    ·exact e.symm
    ·exact absurd (h1a _ hb) (asy _ _ (h2b _ ha))
  subst e; rw [vZ asy h1l h2m (List.Perm.cons_inv h)]
theorem KeL.asy (a b : Xh) (h : KeL a b) : ¬ KeL b a := fun h2 => by
 unfold KeL at h h2; have := fO a.ke b.ke; omega
def uF (f : ByteArray → Hld) (k : ByteArray) : Xh := ⟨k, (f k).an, (f k).us⟩
theorem Gz {w : World} {f : ByteArray → Hld} {v : Value} {l : List ByteArray} (h : Sl w 4 (fB f) v l) : Sl w 4 aC v (l.map (uF f)) := by
 obtain ⟨ao, cap, h1, h2, h3, h4, h5⟩ := h; refine ⟨ao, cap, by rw [List.length_map]; exact h1, by rw [List.length_map]; exact h2, h3, h4, fun i x hx => ?_⟩; rw [List.getElem?_map] at hx; cases hl : l[i]? with
 | none => rw [hl] at hx; cases hx
 | some k =>
  rw [hl] at hx; cases hx
  exact h5 i k hl
theorem EQ {C : List Cch} {X : Xd} {n : ByteArray} {f : ByteArray → Hld} {l : List ByteArray} (h : Jj C X n f l) : l.map (uF f) = lF (X.H (fC C n).toNat) := by
 have hnl : l.Nodup := h.inc.imp fun {a b} hab e => by
  subst e; have := fO a a; omega
 have hn : ((X.H (fC C n).toNat).map Xh.ke).Nodup := h.pm.nodup_iff.1 hnl; obtain ⟨h1, h2⟩ := I8 (X.H (fC C n).toNat) [] List.Pairwise.nil hn; have e : (X.H (fC C n).toNat).map (fun x => uF f x.ke) = X.H (fC C n).toNat := by
  conv => rhs; rw [← List.map_id (X.H (fC C n).toNat)]
  exact List.map_congr_left fun x hx => by unfold uF; rw [h.eq x hx]; rfl
 refine vZ KeL.asy ?_ h1 ?_
 ·exact List.pairwise_map.2 h.inc
 ·refine ((h.pm.map (uF f)).trans ?_).trans h2.symm; rw [List.map_map]; exact List.Perm.of_eq (by rw [List.nil_append]; exact e)
theorem Gy : Tryz.prog.stoodInHeld 59 = false := by kernel_rfl
theorem He : Tryz.prog.eqGuardType Tryz.prog.depth 59 = false := by kernel_rfl
theorem BJ (x : Xh) (w : World) : (binOp .neq 59 (.agg #[.string x.ke, .int .i64 x.an.ve, .int .i64 x.an.bo, .int .i64 x.us]) (.agg #[.string x.ke, .int .i64 x.an.ve, .int .i64 x.an.bo, .int .i64 x.us])).run Tryz.prog w = .ok (.bool false) w := by
 have h1 := Gy; simp [go_sem, h1]
theorem vC (w : World) (l : List Xh) (v u : Value) (hl : Sl w 4 aC v l) (hm : Sl w 4 aC u l) :
 Calls Tryz.prog 29 #[v, u] w fun e w' => e = .returned (.bool true) ∧ Below w.heap.size w w' := by
 obtain ⟨ao, cap, rfl, hcap, hmax, hnil, hel⟩ := hl; obtain ⟨bo, bap, rfl, hbap, hbax, hbil, hem⟩ := hm; unfold maxLen at hmax hbax
 go_enter Tryz.func29, Tryz.ntmps29
 go_wp2
 go_loopg [5, 13] l.length (fun gg _ s13 wr => ∃ kk : Nat, kk ≤ l.length ∧ l.length - kk ≤ gg ∧ s13 = .int .i64 kk ∧ (∃ n, wr = w.drewN n))
 case atStart => exact ⟨0, Nat.zero_le _, by omega, rfl, ⟨0, rfl⟩⟩
 case round =>
  obtain ⟨kk, hkk, hg, rfl, ⟨n, rfl⟩⟩ := hrel; by_cases hlt : kk < l.length
  ·have hltz : (kk : Int) < (l.length : Int) := by omega
   obtain ⟨x, hx⟩ : ∃ x, l[kk]? = some x := ⟨l[kk], by simp [hlt]⟩
   obtain ⟨b, off, rfl, hc⟩ := hel kk x hx; obtain ⟨b', off', rfl, hd⟩ := hem kk x hx; have c0 : w.cell? ⟨b, off + kk * 4, none⟩ = _ := hc 0 _ rfl; have d0 : w.cell? ⟨b', off' + kk * 4, none⟩ = _ := hd 0 _ rfl; have c1 := hc 1 _ rfl; have c2 := hc 2 _ rfl; have c3 := hc 3 _ rfl; have d1 := hd 1 _ rfl; have d2 := hd 2 _ rfl; have d3 := hd 3 _ rfl; have hg := He; have hne := fun w => BJ x w
   clear hx hc hd hel hem
   go_upto_region 6 with (fail)
   go_quiet (fail)
   go_wp2
   go_roundg (l.length - (kk + 1))
   case measure => omega
   case rel => exact ⟨kk + 1, by omega, by omega, by go_num, ⟨_, rfl⟩⟩
  ·have hltz : ¬ (kk : Int) < (l.length : Int) := by omega
   clear hel hem
   go_wp2
   go_ret
   exact ⟨rfl, below_drewN (LD _ _) _⟩
end Go.Proofs.YtgohddfnhofjhaaGreatDoor
namespace Go.Proofs
open Go.Shelf
def Tryz.laysIns_ren : Go.Shelf.Ren := ⟨fun | 20 => 138 | n => n, fun | 24 => 9 | 22 => 114 | 3 => 3 | 25 => 99 | 4 => 4 | 0 => 0 | n => n, fun | n => n⟩
theorem Tryz.laysIns : Go.Proofs.SlLaysF.n20 Tryz.prog Tryz.laysIns_ren := {
 mixed := by kernel_rfl
 f20 := ⟨Tryz.f138.name, by decide, Tryz.func138.trans (congrArg some (by kernel_rfl))⟩
 t0 := Tryz.underlying0
 a0 := Tryz.isAgg0
 z0 := Tryz.sizeOf0
 v0 := Tryz.zeroValue0
 t3 := Tryz.underlying3
 a3 := Tryz.isAgg3
 z3 := Tryz.sizeOf3
 v3 := Tryz.zeroValue3
 t4 := Tryz.underlying4
 a4 := Tryz.isAgg4
 z4 := Tryz.sizeOf4
 v4 := Tryz.zeroValue4
 t22 := Tryz.underlying114
 a22 := Tryz.isAgg114
 z22 := Tryz.sizeOf114
 v22 := Tryz.zeroValue114
 a24 := Tryz.isAgg9
 z24 := Tryz.sizeOf9
 t25 := Tryz.underlying99
 a25 := Tryz.isAgg99
 z25 := Tryz.sizeOf99
 v25 := Tryz.zeroValue99 }
end Go.Proofs
namespace Go.Proofs.YtgohddfnhofjhaaGreatDoor
open Go.RowKit Go.Lib Go.Sort Go.Shelf
def kR (s : ByteArray) : ByteArray := ⟨(Lib.cut s.data.toList [61]).1.toArray⟩
theorem kS (s : ByteArray) (m : Int) (w : World) (hs : s.size ≤ 1000) (hm : w.cell? ⟨0, 0, none⟩ = some (.int .i64 m)) :
 Calls Tryz.prog 56 #[.string s] w fun e w' => e = .returned (.string (kR s)) ∧ ∃ n, w' = w.drewN n := by
 have h := Dk s ⟨#[61]⟩ m w (by omega) hm; obtain ⟨X, hX⟩ : ∃ X, X = kR s := ⟨_, rfl⟩
 have e : (⟨(Lib.cut s.data.toList (⟨#[61]⟩ : ByteArray).data.toList).1.toArray⟩ : ByteArray) = X := by rw [hX]; rfl
 rw [e] at h; rw [← hX]; generalize (⟨(Lib.cut s.data.toList (⟨#[61]⟩ : ByteArray).data.toList).2.1.toArray⟩ : ByteArray) = Y at h; generalize (Lib.cut s.data.toList (⟨#[61]⟩ : ByteArray).data.toList).2.2 = Z at h; have H := Lr h; clear h hX e
 go_enter Tryz.func56, Tryz.ntmps56
 go_wp2_with (go_at_call 53; refine (H.out).mono ?_; rintro e w2 ⟨rfl, n, rfl⟩)
 go_ret
 exact ⟨rfl, n, rfl⟩
def Pt : Type := { s : ByteArray // s.size ≤ 1000 }
instance : Inhabited Pt := ⟨⟨⟨#[]⟩, by decide⟩⟩
def encPt (x : Pt) : Value := .string x.1
def Iu (a b : ByteArray) : Int := Lib.compareBytes (kR a).data.toList (kR b).data.toList
theorem H7 (a b : ByteArray) (m : Int) (w : World) (ha : a.size ≤ 1000) (hb : b.size ≤ 1000) (hm : w.cell? ⟨0, 0, none⟩ = some (.int .i64 m)) :
 Calls Tryz.prog 58 #[.string a, .string b] w fun e w' => e = .returned (.int .i64 (Iu a b)) ∧ ∃ n, w' = w.drewN n := by
 have h1 := Lr (kS a m w ha hm); have h2 := Lr (fun n => kS b m (w.drewN n) hb hm); have h3 := Lr (fun W => Tryz.strings_Compare (kR a) (kR b) W); obtain ⟨X, hX⟩ : ∃ X, X = kR a := ⟨_, rfl⟩
 obtain ⟨Y, hY⟩ : ∃ Y, Y = kR b := ⟨_, rfl⟩
 obtain ⟨Z, hZ⟩ : ∃ Z, Z = Iu a b := ⟨_, rfl⟩
 have e : Lib.compareBytes X.data.toList Y.data.toList = Z := by rw [hX, hY, hZ]; rfl
 rw [← hX] at h1 h3; rw [← hY] at h2 h3; rw [← hZ]; rw [e] at h3; clear hX hY hZ e hm
 go_enter Tryz.func58, Tryz.ntmps58
 go_wp2_with fail
 refine (h1.out).mono ?_; rintro e w2 ⟨rfl, n, rfl⟩
 go_wp2_with fail
 refine (h2.out n).mono ?_; rintro e w2 ⟨rfl, k, rfl⟩
 go_wp2_with fail
 refine (h3.out _).mono ?_; rintro e w2 ⟨rfl, rfl⟩
 go_wp2
 go_ret
 exact ⟨rfl, n + k, rfl⟩
theorem Dx (w : World) (blk m : Nat) (dk : Array Pt) (os : Array Obj) (hb : 0 < blk) {v : Value} (h0 : 0 < w.heap.size) (h : w.cell? ⟨0, 0, none⟩ = some v) : (sortWorld encPt w blk 0 m dk os).cell? ⟨0, 0, none⟩ = some v := by
 unfold sortWorld; rw [cell?_grow _ _ _ (by rw [size_putRow]; exact h0), cell?_putRow_other _ _ _ _ _ _ (Or.inl (by show (0 : Nat) ≠ blk; omega))]; exact h
theorem Dt (w : World) (m : Int) (blk size : Nat) (hb : 0 < blk) (hm : w.cell? ⟨0, 0, none⟩ = some (.int .i64 m)) :
 CmpReads Tryz.prog 58 #[] encPt (fun a b => Iu a.1 b.1) blk 0 size w := fun k os dk _ x y =>
 H7 x.1 y.1 m _ x.2 y.2 (Dx w blk k dk os hb (LC w _ hm) hm)
def FW (L : List Pt) : List Pt := (Sort.insertionSort (ltOf fun a b : Pt => Iu a.1 b.1) L.toArray 0 L.length).toList
theorem yS {α : Type} [Inhabited α] (lt : α → α → Bool) (a : Nat) : ∀ (j : Nat) (d : Array α), (insInner lt a j d).size = d.size := by
 intro j
 induction j with
 | zero => intro d; rfl
 | succ j ih =>
  intro d; unfold insInner; split
  ·rw [ih, size_swp]
  ·rfl
theorem yI {α : Type} [Inhabited α] (lt : α → α → Bool) (a b : Nat) : ∀ (n i : Nat) (d : Array α), b - i ≤ n → (insOuter lt a b i d).size = d.size := by
 intro n
 induction n with
 | zero => intro i d h; rw [insOuter, if_neg (by omega)]
 | succ n ih =>
  intro i d h; by_cases hi : i < b
  ·rw [insOuter_go _ _ _ _ _ hi, ih _ _ (by omega), yS]
  ·rw [insOuter, if_neg hi]
theorem jR (L : List Pt) : (FW L).length = L.length := by
 unfold FW Sort.insertionSort; rw [Array.length_toList, yI _ _ _ _ _ _ (Ls _)]; simp
abbrev vG (x : Pt) : List Value := [.string x.1]
theorem I9 (L : List Pt) : L.flatMap vG = L.map encPt := by
 induction L with
 | nil => rfl
 | cons x r ih => rw [List.flatMap_cons, ih]; rfl
theorem sJ (w : World) (v : Value) (ao : Option Addr) (n cap : Nat) (Q : World → Prop) (hv : v = .slice ao n cap) (hn : n < 20)
 (HC : Hid (Calls Tryz.prog 138 #[.slice ao n cap, .int .i64 0, .int .i64 n, .func (.func 58) #[] #[]] w fun e w' => e = .returned (.tuple #[]) ∧ Q w')) :
 Calls Tryz.prog 57 #[v, .func (.func 58) #[] #[]] w fun e w' => e = .returned (.tuple #[]) ∧ Q w' := by
 subst hv; have h1 : ¬ (20 : Int) ≤ (n : Int) := by omega
 have h2 : ¬ (20 : Int) < (n : Int) := by omega
 have H1 : Hid (Calls Tryz.prog 89 #[.slice ao n cap, .int .i64 n, .func (.func 58) #[] #[]] w fun e w' => e = .returned (.tuple #[]) ∧ Q w') := Lr (by
  go_enter Tryz.func89, Tryz.ntmps89
  go_wp2_with fail
  refine wp_loop_rounds 1 ?_; rw [rounds_succ]
  go_wp2_with fail
  refine HC.out.mono ?_; rintro e w' ⟨rfl, hq⟩; have HQ := Lr hq; clear hq
  go_wp2_with fail
  refine wp_loop_rounds 1 ?_; rw [rounds_succ]
  go_wp2_with fail
  go_end0
  exact ⟨rfl, HQ.out⟩)
 go_enter Tryz.func57, Tryz.ntmps57
 go_wp2_with fail
 refine H1.out.mono ?_; rintro e w' ⟨rfl, hq⟩; have HQ := Lr hq; clear hq
 go_wp2_with fail
 go_end0
 exact ⟨rfl, HQ.out⟩
theorem yR (w : World) (ao : Option Addr) (cap : Nat) (f : Value) :
 Calls Tryz.prog 138 #[.slice ao 0 cap, .int .i64 0, .int .i64 0, f] w fun e w' => e = .returned (.tuple #[]) ∧ w' = w := by
 go_enter Tryz.func138, Tryz.ntmps138
 go_wp2_with fail
 refine wp_loop_rounds 1 ?_; rw [rounds_succ]
 go_wp2_with fail
 go_end0
 exact ⟨rfl, rfl⟩
theorem EK : FW [] = [] := List.length_eq_zero_iff.1 (jR [])
theorem yD (w : World) (base : Nat) (v : Value) (L : List Pt) (m : Int) (hb0 : 0 < base) (hm : w.cell? ⟨0, 0, none⟩ = some (.int .i64 m)) (h : Own w base 9 1 vG v L) (hn : L.length < 20) :
 Calls Tryz.prog 57 #[v, .func (.func 58) #[] #[]] w fun e w' => e = .returned (.tuple #[]) ∧ Own w' base 9 1 vG v (FW L) ∧ Below base w w' := by
 have eg : ∀ args w, (callFunc 58 args).run Tryz.prog w = .ok (.enter 58 args) w := enters_of Tryz.func58 (by kernel_rfl) rfl; by_cases hL : L = []
 ·subst hL; obtain ⟨ao, cap, rfl, _⟩ := h.sl (fun _ => rfl); rw [EK]; exact sJ w _ ao 0 cap _ rfl (by decide) (Lr ((yR w ao cap _).mono fun e w' ⟨h1, h2⟩ => ⟨h1, by rw [h2]; exact h, by rw [h2]; exact LD _ _⟩))
 unfold Own at h; rw [I9] at h; obtain ⟨g, cap, rfl, hg1, hg2, hnc, hcm, hl, hH⟩ := holds_of_ownsRow h (by
  rintro rfl; rcases h.2 with ⟨_, h2⟩ | ⟨g, cap, cur, hv, _⟩
  ·exact hL (List.length_eq_zero_iff.1 h2)
  ·cases hv)
 have hc := Any.insertionSortCmpFunc_one Tryz.laysIns encPt (fun _ => rfl) (fun a b => Iu a.1 b.1) 58 #[] g 0 cap 0 L.length L.toArray w eg (Dt w m g _ (by omega) hm) hH (Nat.zero_le _) (by simp) (by simp; omega); change Calls Tryz.prog 138 _ _ _ at hc
 have hsz : L.toArray.size = L.length := by simp
 rw [hsz] at hc; have HC : Hid (Calls Tryz.prog 138 #[.slice (some ⟨g, 0, none⟩) L.length cap, .int .i64 0, .int .i64 L.length, .func (.func 58) #[] #[]] w fun e w' => e = .returned (.tuple #[]) ∧ Own w' base 9 1 vG (.slice (some ⟨g, 0, none⟩) L.length cap) (FW L) ∧ Below base w w') := Lr (hc.mono (by
  rintro e w' ⟨rfl, n, rfl⟩; have e2 : Sort.insertionSort (ltOf fun a b : Pt => Iu a.1 b.1) L.toArray 0 L.length = (FW L).toArray := by simp [FW]
  rw [e2]; refine ⟨rfl, ?_, ?_⟩
  ·have h3 := ownsRow_putRow (q := 0) (k := L.length) h (jR L) (Ls _); rw [List.take_of_length_le (Nat.le_of_eq (jR L))] at h3; unfold Own; rw [I9, jR]; exact h3
  ·exact below_drewN (below_putRow (q := 0) (LD base w) hg1) n))
 exact sJ w _ (some ⟨g, 0, none⟩) L.length cap _ rfl hn HC
end Go.Proofs.YtgohddfnhofjhaaGreatDoor

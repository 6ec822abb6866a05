/- The reference's day: keep. (Printed by genkeepx.py.) -/
import Derived.Test.YtgohddfnhofjhaaGreatDoorC23
import Derived.Test.YtgohddfnhofjhaaGreatDoorC24
import Derived.Test.YtgohddfnhofjhaaGreatDoorC02
import Derived.Laws.IdiomCopy
import Derived.Deep.Upon
import Derived.Deep.RegionLaw
import Derived.Deep.MidRow
import Derived.Test.YtgohddfnhofjhaaGreatDoorC15
namespace Go.Proofs.YtgohddfnhofjhaaGreatDoor
open Go.RowKit
theorem infoL : (Tryz.prog.info? 107).map (fun i => (i.zero, i.size, i.bytes)) = some (some (.agg #[.string ⟨#[]⟩, .int .i64 0, .int .i64 0, .int .i64 0, .string ⟨#[]⟩, .int .i64 0]), 6, 64) := by kernel_rfl
theorem slL : SlT Tryz.prog 103 107 6 64 := by
 obtain ⟨i0, hi, hz0, hz1, hz2⟩ := info_parts infoL
 exact ⟨i0, _, Tryz.underlying103, hi, hz0, hz1, hz2, rfl, by decide, by decide⟩
theorem cloneL_any (w : World) (l : List Xh) (v : Value) (hl : Sl w 6 encH v l) (hb : l.length * 64 ≤ 140737488355328) :
 Calls Tryz.prog 100 #[v] w (OwnRet w 107 6 encH l) := by
 have hl0 := Lib.hid hl
 obtain ⟨ao, cap, rfl, hcap, hmax, hnil, hel⟩ := hl
 unfold maxLen at hmax
 have hn := fun w => Lib.run_eql_slice_nil (P := Tryz.prog) w 103 107 ao l.length cap 0 0 Tryz.underlying103
 cases ao with
 | none =>
  obtain rfl : cap = 0 := hnil rfl
  obtain rfl : l = [] := List.length_eq_zero_iff.1 (by omega)
  clear hel hnil hn
  have hn := fun w => Lib.run_eql_slice_nil (P := Tryz.prog) w 103 107 none 0 0 0 0 Tryz.underlying103
  go_enter Tryz.func100, Tryz.ntmps100
  go_wp2
  go_ret
  exact OwnRet.mk Own.nil (Below.refl _ _)
 | some ad =>
  clear hel hnil
  have ho := Lib.hid (show Own (w.alloc (.cells #[] 107)) w.heap.size 107 6 encH (.slice (some ⟨w.heap.size, 0, none⟩) 0 0) [] from World.ownsRow_lit w #[] 0 (Nat.le_refl _) (by simp [maxLen]) rfl)
  go_enter Tryz.func100, Tryz.ntmps100
  go_wp2_with (at_builtin; refine wpList_extendG rfl _ _ 103 rfl slL encH_len (fun _ => rfl) rfl rfl ho.out (hl0.out.below ((Below.refl _ _).alloc (Nat.le_refl _) _) (Nat.le_refl _)) (by simpa using hb) (by simp) ?_; intro v' w1 ho1 hb1; have HO := Lib.hid ho1; have HB := Lib.hid hb1; clear ho1 hb1)
  go_ret
  exact OwnRet.mk (by simpa using HO.out) (((Below.refl _ _).alloc (Nat.le_refl _) _).trans HB.out)
theorem setCells_block {g : Nat} {t : TypeId} : ∀ (vs : List Value) (o : Nat) (w : World) (cur : Array Value), w.heap[g]? = some (.cells cur t (0, 0)) → o + vs.length ≤ cur.size →
 ∃ cur' : Array Value, (w.setCells g o vs).heap[g]? = some (.cells cur' t (0, 0)) ∧ cur'.toList = cur.toList.take o ++ vs ++ cur.toList.drop (o + vs.length)
 | [], o, w, cur, h, _ => ⟨cur, h, by simp⟩
 | v :: r, o, w, cur, h, hl => by
  obtain ⟨c', h1, h2⟩ := setCells_block r (o + 1) (w.setCell ⟨g, o, none⟩ v) (cur.setIfInBounds o v) (heap_setCell_same w g o cur t v h) (by simp at hl ⊢; omega)
  refine ⟨c', h1, ?_⟩
  rw [h2, Array.toList_setIfInBounds]
  have e := list_seg_step cur.toList o v r (by simp at hl ⊢; omega)
  simpa using e
theorem below_setCellsD {B g : Nat} {a : World} (hg : B ≤ g) : ∀ (vs : List Value) (o : Nat) (w : World), Below B a w → Below B a (w.setCells g o vs)
 | [], _, _, h => h
 | v :: r, o, _, h => below_setCellsD (a := a) hg r (o + 1) _ (h.setCell hg v)
theorem take_flat {α : Type} {enc : α → List Value} {k : Nat} (hk : ∀ x, (enc x).length = k) : ∀ (l : List α) (i : Nat), (l.flatMap enc).take (i * k) = (l.take i).flatMap enc
 | [], i => by simp
 | x :: r, 0 => by simp
 | x :: r, i + 1 => by
  rw [List.flatMap_cons, List.take_succ_cons, List.flatMap_cons, Nat.succ_mul, Nat.add_comm, ← hk x, List.take_length_add_append, hk x, take_flat hk r i]
theorem Own.erase {α : Type} {w : World} {base : Nat} {E : TypeId} {k : Nat} {enc : α → List Value} {l : List α} {g cap : Nat} (hk : ∀ x, (enc x).length = k) (h : Own w base E k enc (.slice (some ⟨g, 0, none⟩) l.length cap) l) {i : Nat} (hi : i < l.length) (zs : List Value) (hz : zs.length = k) :
 Own ((w.setCells g (i * k) ((l.drop (i + 1)).flatMap enc)).setCells g ((l.length - 1) * k) zs) base E k enc (.slice (some ⟨g, 0, none⟩) (l.length - 1) cap) (l.eraseIdx i) := by
 obtain ⟨h1, h2⟩ := h
 rcases h2 with ⟨h2, _⟩ | ⟨g', cap', cur, hv, hg, hh, hn, hm, hs, ht⟩
 ·cases h2
 simp only [Value.slice.injEq, Option.some.injEq, Addr.mk.injEq, and_true, true_and] at hv
 obtain ⟨rfl, rfl⟩ := hv
 have hlen : (l.eraseIdx i).length = l.length - 1 := by rw [List.length_eraseIdx]; simp [hi]
 have hd : ((l.drop (i + 1)).flatMap enc).length = (l.length - 1 - i) * k := by rw [flatMap_len hk]; congr 1; simp; omega
 have hmul : i * k + (l.length - 1 - i) * k = (l.length - 1) * k := by rw [← Nat.add_mul]; congr 1; omega
 have hle1 : (l.length - 1) * k + k = l.length * k := by rw [← Nat.succ_mul]; congr 1; omega
 have hle2 : l.length * k ≤ cap * k := Nat.mul_le_mul_right k hn
 obtain ⟨c1, hc1, e1⟩ := setCells_block (g := g) ((l.drop (i + 1)).flatMap enc) (i * k) w cur hh (by rw [hd]; omega)
 have hsz1 : c1.size = cur.size := by
  have : c1.toList.length = cur.toList.length := by rw [e1]; simp only [List.length_append, List.length_take, List.length_drop, hd, Array.length_toList]; omega
  simpa using this
 obtain ⟨c2, hc2, e2⟩ := setCells_block (g := g) zs ((l.length - 1) * k) _ c1 hc1 (by rw [hz]; omega)
 have hsz2 : c2.size = c1.size := by
  have : c2.toList.length = c1.toList.length := by rw [e2]; simp only [List.length_append, List.length_take, List.length_drop, hz, Array.length_toList]; omega
  simpa using this
 refine ⟨by rw [flatMap_len hk], .inr ⟨g, cap, c2, by rw [hlen], hg, hc2, by rw [hlen]; omega, hm, by rw [hsz2, hsz1, hs], ?_⟩⟩
 rw [hlen, e2, List.append_assoc, List.take_append_of_le_length (by simp only [List.length_take, Array.length_toList]; omega), List.take_take, Nat.min_self, e1, ← hmul, ← hd,
  List.take_append_of_le_length (by simp only [List.length_append, List.length_take, Array.length_toList]; omega)]
 have hti : (cur.toList.take (i * k)).length = i * k := by simp only [List.length_take, Array.length_toList]; omega
 rw [List.take_of_length_le (by rw [List.length_append, hti]; exact Nat.le_refl _), List.eraseIdx_eq_take_drop_succ, List.flatMap_append, ← take_flat hk l i, ← ht, List.take_take]
 congr 2
 omega
theorem run_clear_one {P : Program} (w : World) (t e ty : TypeId) (z : Value) (zs : List Value) (ht : P.underlying t = some (.slice e)) (hv : ∀ w, (zeroValue e).run P w = .ok z w) (hz : z.cells = zs.toArray) (h1 : ∀ v, v ∈ zs → v.oneCell' = true) (b o c : Nat)
 (hc : ∀ j, j < zs.length → (w.cell? ⟨b, o + j, none⟩).isSome = true) (hf : ∀ j, j < zs.length → w.frozen? ⟨b, o + j, none⟩ = false) :
 (Builtin.clear_ #[t] ty #[.slice (some ⟨b, o, none⟩) 1 c]).run P w = .ok (.tuple #[]) (w.setCells b o zs) := by
 have hzc : (Builtin.zeroCells z.cells 1).toList = zs := by
  rw [hz]
  apply List.ext_getElem
  ·simp [Builtin.zeroCells]
  ·intro i h1 h2
   simp [Builtin.zeroCells, Nat.mod_eq_of_lt h2, List.getElem?_eq_getElem h2]
 have hst := run_storeCells_cells (P := P) b o zs 0 w (by simpa using hc) (by simpa using hf) h1
 simp only [Nat.add_zero] at hst
 simp [Builtin.clear_, run_underlying ht, hv, hzc, hst]
theorem zeroL (w : World) : (zeroValue 107).run Tryz.prog w = .ok (.agg #[.string ⟨#[]⟩, .int .i64 0, .int .i64 0, .int .i64 0, .string ⟨#[]⟩, .int .i64 0]) w := by kernel_rfl
set_option maxRecDepth 100000 in
set_option maxHeartbeats 4000000 in
theorem delL_any (w : World) (base : Nat) (l : List Xh) (v : Value) (hown : Own w base 107 6 encH v l) (i : Nat) (hi : i < l.length) :
 Calls Tryz.prog 99 #[v, .int .i64 i, .int .i64 ((i : Int) + 1)] w fun e w' => ∃ v', e = .returned v' ∧ Own w' base 107 6 encH v' (l.eraseIdx i) ∧ Below base w w' := by
 obtain ⟨g, cap, rfl, hg, hlt, hcap, hmax, hcell, hfro⟩ := hown.getk encH_len (by intro e; rw [e] at hi; simp at hi)
 unfold maxLen at hmax
 obtain ⟨i0, z0, hund, hi0, hz0, hz1, hz2, hz3, hz4, hz5⟩ := slL
 obtain ⟨news, hnews⟩ : ∃ news, news = (l.drop (i + 1)).flatMap encH := ⟨_, rfl⟩
 have hlen : news.length = (l.length - (i + 1)) * 6 := by rw [hnews, flatMap_len encH_len, List.length_drop]
 have hall : ∀ j u, (l.flatMap encH)[j]? = some u → w.cell? ⟨g, j, none⟩ = some u := fun j u hu => by
  obtain ⟨y, hy, hyu⟩ := flatMap_at encH_len (by decide) hu
  have := hcell _ _ _ _ hy hyu
  rwa [show j / 6 * 6 + j % 6 = j by omega] at this
 have hnew : ∀ t u, news[t]? = some u → w.cell? ⟨g, (i + 1) * 6 + t, none⟩ = some u := fun t u hu => by
  refine hall _ _ ?_
  have e : l.flatMap encH = (l.take (i + 1)).flatMap encH ++ news := by rw [hnews, ← List.flatMap_append, List.take_append_drop]
  have e2 : ((l.take (i + 1)).flatMap encH).length = (i + 1) * 6 := by rw [flatMap_len encH_len, List.length_take, Nat.min_eq_left (by omega)]
  rw [e, List.getElem?_append_right (by omega), e2, Nat.add_sub_cancel_left]
  exact hu
 obtain ⟨A, hA, hsrc⟩ : ∃ A : Addr, (if cap = i + 1 then some (⟨g, 0, none⟩ : Addr) else some ⟨g, (i + 1) * 6, none⟩) = some A ∧ Hid (∀ t u, news[t]? = some u → w.drew.cell? (A.add t) = some u) := by
  by_cases h : cap = i + 1
  ·refine ⟨⟨g, 0, none⟩, by simp [h], Lib.hid fun t u hu => ?_⟩
   have h0 : news.length = 0 := by rw [hlen]; have : l.length - (i + 1) = 0 := by omega
                                   rw [this, Nat.zero_mul]
   rw [List.length_eq_zero_iff.1 h0] at hu
   simp at hu
  ·refine ⟨⟨g, (i + 1) * 6, none⟩, by simp [h], Lib.hid fun t u hu => ?_⟩
   have e : (⟨g, (i + 1) * 6, none⟩ : Addr).add t = ⟨g, (i + 1) * 6 + t, none⟩ := by unfold Addr.add; split <;> simp_all
   rw [e]
   exact hnew t u hu
 have s1 := Lib.hid hlen
 have s2 : Hid (∀ u ∈ news, u.oneCell' = true) := Lib.hid fun u hu => by
  rw [hnews, List.mem_flatMap] at hu
  obtain ⟨y, _, hu⟩ := hu
  exact List.all_eq_true.1 (show (encH y).all Value.oneCell' = true from rfl) u hu
 have hfl : (l.flatMap encH).length = l.length * 6 := flatMap_len encH_len l
 have hsome : ∀ j, j < l.length * 6 → (w.cell? ⟨g, j, none⟩).isSome = true := fun j hj => by
  rw [hall j _ (List.getElem?_eq_getElem (by rw [hfl]; exact hj))]; rfl
 have s3 : Hid (∀ t, t < news.length → (w.drew.cell? ⟨g, 0 + i * 6 + t, none⟩).isSome = true ∧ w.drew.frozen? ⟨g, 0 + i * 6 + t, none⟩ = false) := Lib.hid fun t ht => by
  rw [hlen] at ht
  exact ⟨hsome _ (by omega), hfro _⟩
 obtain ⟨W1, hW1⟩ : ∃ W1, W1 = w.drew.setCells g (0 + i * 6) news := ⟨_, rfl⟩
 have hcl : ∀ ty, (Builtin.clear_ #[103] ty #[.slice (some ⟨g, (i + (l.length - (i + 1))) * 6, none⟩) (l.length - (i + (l.length - (i + 1)))) (cap - (i + (l.length - (i + 1))))]).run Tryz.prog W1 = .ok (.tuple #[]) (W1.setCells g ((i + (l.length - (i + 1))) * 6) [.string ⟨#[]⟩, .int .i64 0, .int .i64 0, .int .i64 0, .string ⟨#[]⟩, .int .i64 0]) := by
  intro ty
  rw [show l.length - (i + (l.length - (i + 1))) = 1 by omega]
  refine run_clear_one W1 _ _ ty _ [.string ⟨#[]⟩, .int .i64 0, .int .i64 0, .int .i64 0, .string ⟨#[]⟩, .int .i64 0] hund zeroL rfl (fun v hv => List.all_eq_true.1 (show [.string ⟨#[]⟩, .int .i64 0, .int .i64 0, .int .i64 0, .string ⟨#[]⟩, .int .i64 0].all Value.oneCell' = true from rfl) v hv) g _ _ (fun j hj => ?_) (fun j hj => ?_)
  ·have hj' : j < 6 := hj
   rw [hW1]
   exact World.isSome_setCells g news _ w.drew _ (hsome _ (by omega))
  ·rw [hW1, World.frozen?_setCells]
   exact hfro _
 have X : Aside (Own (W1.setCells g ((i + (l.length - (i + 1))) * 6) [.string ⟨#[]⟩, .int .i64 0, .int .i64 0, .int .i64 0, .string ⟨#[]⟩, .int .i64 0]) base 107 6 encH (.slice (some ⟨g, 0, none⟩) (i + (l.length - (i + 1))) cap) (l.eraseIdx i)) := by
  show Own _ _ _ _ _ _ _
  have h := Own.erase (w := w.drew) encH_len hown hi [.string ⟨#[]⟩, .int .i64 0, .int .i64 0, .int .i64 0, .string ⟨#[]⟩, .int .i64 0] rfl
  rw [← hnews] at h
  rw [hW1, Nat.zero_add, show i + (l.length - (i + 1)) = l.length - 1 by omega]
  exact h
 have Y : Aside (Below base w (W1.setCells g ((i + (l.length - (i + 1))) * 6) [.string ⟨#[]⟩, .int .i64 0, .int .i64 0, .int .i64 0, .string ⟨#[]⟩, .int .i64 0])) := by
  show Below _ _ _
  rw [hW1]
  exact below_setCellsD hg _ _ _ (below_setCellsD hg _ _ _ ((Below.refl base w).drew))
 have hW := Lib.hid hW1
 have hic : i ≤ cap := by omega
 have hjc : i + 1 ≤ cap := by omega
 have hj1 : (0 : Int) ≤ (i : Int) + 1 := by omega
 have hj2 : (i : Int) + 1 ≤ (l.length : Int) := by omega
 clear hW1 hown hcell hfro hall hnew hsome hlen hnews hfl
 go_enter Tryz.func99, Tryz.ntmps99
 go_wp2_with fail
 go_region_law (refine step_append_room rfl (.tmp 22) (.tmp 25) 103 rfl 107 i0 6 hund hi0 hz1 g 0 i cap (by simp [Act.eval, Act.put]) A (l.length - (i + 1)) (cap - (i + 1)) news (by simp [Act.eval, Act.put]) s1.out hsrc.out s2.out (by omega) s3.out ?_; rw [← hW.out])
 go_wp2
 go_ret
 exact ⟨_, rfl, X.out, Y.out⟩
def RowR (N : Nat) (v0 : Value) (l0 : List Xh) (W : World) (v : Value) (m : List Xh) : Prop := (v = v0 ∧ m = l0) ∨ Own W N 107 6 encH v m
section
variable {W W' : World} {B : Nat} {A : Rdr} {X : Xd}
theorem setH_self {i : Nat} : X.setH i (X.H i) = X := by
 unfold Xd.setH
 have e : X.he.set i (X.H i) = X.he := by
  apply List.ext_getElem?
  intro m
  rw [List.getElem?_set]
  split
  ·rename_i e
   subst e
   split
   ·rename_i hl; rw [Xd.H_at hl]
   ·rename_i hl; rw [List.getElem?_eq_none (by omega)]
  ·rfl
 rw [e]
theorem RD.putRow (h : RD W B A X) {i : Nat} {v v' : Value} (hv : A.hs[i]? = some v) {sb n c : Nat} (hg : A.hh = .slice (some ⟨sb, 0, none⟩) n c) (hn : n = A.hs.length) {l' : List Xh} (hrow : RowR W.heap.size v (X.H i) W' v' l') (hb : Below W.heap.size W W') : ∃ A', RD (W'.setCell ⟨sb, i, none⟩ v') B A' (X.setH i l') ∧ RdrLe A A' := by
 have ho2 : Own (W'.setCell ⟨sb, i, none⟩ v') B 103 1 encV A.hh (A.hs.set i v') := by
  have h1 := (h.below hb).rows
  rw [hg] at h1 ⊢
  have h2 := Own.store encV_len (u := v') (y := v') (j := 0) h1 hn hv (by decide) rfl
  simpa using h2
 rcases hrow with ⟨rfl, rfl⟩ | hown
 ·have e1 : A.hs.set i v' = A.hs := by
   apply List.ext_getElem?
   intro m
   rw [List.getElem?_set]
   split
   ·rename_i e
    subst e
    split
    ·exact hv.symm
    ·rename_i hl; rw [List.getElem?_eq_none (by omega)]
   ·rfl
  rw [e1] at ho2
  rw [setH_self]
  obtain ⟨M, h1, h2⟩ := h.below hb
  obtain ⟨y, h5, h6⟩ := h1.grow (r := 2) h2.hs ho2 (Onl.set sb W' i v').size (keep_onl hg (Onl.set sb W' i v'))
  refine ⟨A, ⟨_, h6, ?_⟩, RdrLe.refl A⟩
  exact {
   wl := by rw [upM_other _ _ (by omega)]; exact h2.wl
   ak := by rw [upM_other _ _ (by omega)]; exact h2.ak
   hs := by rw [upM_same]; exact h5
   go := by rw [upM_other _ _ (by omega)]; exact h2.go
   ld := by rw [upM_other _ _ (by omega)]; exact h2.ld
   he := fun m u hu => by rw [upM_other _ _ (by omega)]; exact h2.he m u hu
   wa := fun j p hp => by rw [upM_other _ _ (by omega)]; exact h2.wa j p hp
   fx := fun k b p hx => by rw [upM_other _ _ (by omega)]; exact h2.fx k b p hx
   ka := h2.ka
   hl := h2.hl }
 ·exact ⟨_, h.setHe hv hg hown (Nat.le_refl _) hb ho2, ⟨rfl, rfl, rfl, rfl, rfl, rfl, rfl, rfl, rfl, rfl⟩⟩
theorem RowR.below {N : Nat} {v0 v : Value} {l0 m : List Xh} (h : RowR N v0 l0 W v m) (hb : Below W.heap.size W W') : RowR N v0 l0 W' v m := by
 rcases h with h | h
 ·exact .inl h
 ·exact .inr (h.below hb (Nat.le_refl _))
theorem ans_si {a : Ans} (h : AnsOk a) : 0 ≤ a.si ∧ a.si ≤ 1000000000 := by
 cases hn : a.no
 ·have := h.s1 hn; omega
 ·have := h.s0 hn; omega
theorem totH_bd : ∀ {l : List Xh}, (∀ x, x ∈ l → AnsOk x.an) → 0 ≤ totH l ∧ totH l ≤ (l.length : Int) * 1000000000
 | [], _ => ⟨Int.le_refl _, Int.le_refl _⟩
 | x :: l, h => by
  obtain ⟨h1, h2⟩ := totH_bd (l := l) fun y hy => h y (List.mem_cons_of_mem _ hy)
  have h3 := needA_max (h x (List.mem_cons_self ..))
  have h4 := ans_si (h x (List.mem_cons_self ..))
  rw [totH_cons, List.length_cons]
  omega
theorem RowR.sl (h : RD W B A X) {i : Nat} {v0 v : Value} (hv : A.hs[i]? = some v0) {m : List Xh} {N : Nat} (hr : RowR N v0 (X.H i) W v m) : Sl W 6 encH v m := by
 rcases hr with ⟨rfl, rfl⟩ | hown
 ·exact (h.held hv).sl encH_len
 ·exact hown.sl encH_len
end
structure KeepR (C : List Cch) (R : List Crl) (P : List Pur) (X : Xd) (i : Nat) (key : ByteArray) (a : Ans) : Prop where
 ci : i < C.length
 ih : i < X.he.length
 rb : ∀ y, y ∈ R → (0 ≤ y.li ∧ y.li ≤ 1000000000) ∧ (0 ≤ y.st ∧ y.st ≤ 1000000000) ∧ (0 ≤ y.go ∧ y.go ≤ 1000000000)
 ru : (ruI R key R.length).isSome = true
 pb : pbI P key X.no P.length = purM P key X.no
 a : AnsOk a
 nd : ((X.H i).map Xh.ke).Nodup
 an : ∀ h, h ∈ X.H i → AnsOk h.an
 le : (X.H i).length ≤ 1000000
 ro : 0 ≤ (C.getD i default).ro ∧ (C.getD i default).ro ≤ 1000000000000
set_option linter.unusedSimpArgs false in
set_option maxRecDepth 100000 in
set_option maxHeartbeats 4000000 in
theorem keepX_any (w0 w : World) (B : Nat) (A : Rdr) (X : Xd) (h : RD w B A X) (C : List Cch) (R : List Crl) (E : List Rel) (P : List Pur) (L : List Gt) (hE : EnvR w0 B A C R E P L) (hw : Below w0.heap.size w0 w) (i : Nat) (key : ByteArray) (a : Ans) (hR : KeepR C R P X i key a) :
 Calls Tryz.prog 103 #[.pointer (some ⟨A.q, 0, none⟩), .int .i64 (i : Nat), .string key, aggG a] w (ComeP w B A (X.keepX C R P i key a)) := by
 obtain ⟨w1, hw1⟩ : ∃ w1, w1 = w.alloc (.cells #[.int .i64 a.ve, .int .i64 a.bo, .int .i64 a.si, .string a.fr] 105) := ⟨_, rfl⟩
 obtain ⟨ba, hba⟩ : ∃ ba, ba = w.heap.size := ⟨_, rfl⟩
 have hb1 : Below w.heap.size w w1 := by rw [hw1]; exact (Below.refl _ w).alloc (Nat.le_refl _) _
 have hp1 := h.below hb1
 have hab : w1.heap[ba]? = some (.cells #[.int .i64 a.ve, .int .i64 a.bo, .int .i64 a.si, .string a.fr] 105 (0, 0)) := by rw [hw1, hba]; exact block_new _ _
 have hbl := (Array.getElem?_eq_some_iff.1 hab).1
 have hqb := hp1.qb.2
 have hql := (Array.getElem?_eq_some_iff.1 hqb).1
 have hih := hR.ih
 obtain ⟨v, hv⟩ : ∃ v, A.hs[i]? = some v := ⟨_, List.getElem?_eq_getElem (by rw [h.hl]; exact hih)⟩
 have hne : A.hs ≠ [] := fun e => by rw [e] at hv; cases hv
 obtain ⟨sb, sc, hsv, hs1, hs2, hs3, hs4, hsc, hsf⟩ := Own.getk encV_len hp1.rows hne
 have hsw : sb < w.heap.size := by
  obtain ⟨g', cap', hgv', -, k2, -⟩ := Own.getk encV_len h.rows hne
  rw [hsv] at hgv'
  simp only [Value.slice.injEq, Option.some.injEq, Addr.mk.injEq, and_true] at hgv'
  obtain ⟨rfl, -, -⟩ := hgv'
  exact k2
 have hsq : ¬ sb = A.q := fun e => hp1.offQ.2.1 _ _ _ hsv e
 have hsa : ¬ sb = ba := by omega
 obtain ⟨va, vn, vc, rfl⟩ := Own.slv encH_len (hp1.held hv)
 have q8 : w1.cell? ⟨A.q, 8, none⟩ = some (.slice (some ⟨sb, 0, none⟩) A.hs.length sc) := by rw [cellF hqb 8 rfl, ← hsv]; rfl
 have q11 : w1.cell? ⟨A.q, 11, none⟩ = some (.int .i64 X.no) := cellF hqb 11 rfl
 have sv : w1.cell? ⟨sb, i, none⟩ = some (.slice va vn vc) := by have h := hsc i _ 0 _ hv rfl; simpa using h
 have sf : w1.frozen? ⟨sb, i, none⟩ = false := hsf i
 have hiz : (i : Int) < (A.hs.length : Int) := by have := (List.getElem?_eq_some_iff.1 hv).1; omega
 have hi0 : (0 : Int) ≤ (i : Int) := by omega
 have hwb1 : Below w0.heap.size w0 w1 := hw.thru hb1
 have hr1 := hE.r.below hwb1 (Nat.le_refl _)
 have hpp1 := hE.p.below hwb1 (Nat.le_refl _)
 obtain ⟨co, cc, e0, -, -, -, hcel⟩ := hE.c
 have q0 : w1.cell? ⟨A.q, 0, none⟩ = some (.slice co C.length cc) := by rw [cellF hqb 0 rfl, ← e0]; rfl
 obtain ⟨c, hce⟩ : ∃ c, C[i]? = some c := ⟨_, List.getElem?_eq_getElem hR.ci⟩
 obtain ⟨cb, coff, rfl, hcc2⟩ := hcel i c hce
 have d3 : w1.cell? ⟨cb, coff + i * 4 + 3, none⟩ = some (.int .i64 c.ro) := (hwb1.cell (p := ⟨cb, coff + i * 4 + 3, none⟩) (World.block_lt_of_cell? w0 _ (hcc2 3 _ rfl))).trans (hcc2 3 _ rfl)
 have hcl1 := World.block_lt_of_cell? w1 _ d3
 have hciz : (i : Int) < (C.length : Int) := by have := hR.ci; omega
 have hro := hR.ro
 have HRO : Hid ((C.getD i default).ro = c.ro) := Lib.hid (by rw [getD_at hce])
 rw [HRO.out] at hro
 have HC1 : Hid (∀ W : World, Below w1.heap.size w1 W → (W.cell? ⟨A.q, 8, none⟩ = some (.slice (some ⟨sb, 0, none⟩) A.hs.length sc) ∧ W.cell? ⟨A.q, 11, none⟩ = some (.int .i64 X.no) ∧ W.cell? ⟨ba, 0, none⟩ = some (.int .i64 a.ve) ∧ W.cell? ⟨ba, 1, none⟩ = some (.int .i64 a.bo) ∧ W.cell? ⟨ba, 2, none⟩ = some (.int .i64 a.si) ∧ W.cell? ⟨ba, 3, none⟩ = some (.string a.fr)) ∧ W.cell? ⟨sb, i, none⟩ = some (.slice va vn vc) ∧ W.frozen? ⟨sb, i, none⟩ = false ∧ W.cell? ⟨A.q, 0, none⟩ = some (.slice (some ⟨cb, coff, none⟩) C.length cc) ∧ W.cell? ⟨cb, coff + i * 4 + 3, none⟩ = some (.int .i64 c.ro)) := Lib.hid fun W hW => by
  have hb := (hW.block _ hbl).trans hab
  exact ⟨⟨(hW.cell (p := ⟨A.q, 8, none⟩) hql).trans q8, (hW.cell (p := ⟨A.q, 11, none⟩) hql).trans q11, cellF hb 0 rfl, cellF hb 1 rfl, cellF hb 2 rfl, cellF hb 3 rfl⟩, (hW.cell (p := ⟨sb, i, none⟩) hs2).trans sv, (hW.frozen (p := ⟨sb, i, none⟩) hs2).trans sf, (hW.cell (p := ⟨A.q, 0, none⟩) hql).trans q0, (hW.cell (p := ⟨cb, coff + i * 4 + 3, none⟩) hcl1).trans d3⟩
 have HPL : Hid (∀ W : World, Below w1.heap.size w1 W → Calls Tryz.prog 98 #[.pointer (some ⟨A.q, 0, none⟩), .int .i64 (i : Nat), .string key] W fun e w' => e = .returned (.int .i64 (numO (plI (X.H i) key))) ∧ Below W.heap.size W w') := Lib.hid fun W hW => placeX_any W B A X (hp1.below hW) i key hih
 have HLV : Hid (∀ W : World, Below w1.heap.size w1 W → Calls Tryz.prog 145 #[.pointer (some ⟨A.q, 0, none⟩), .string key, .agg #[.int .i64 a.ve, .int .i64 a.bo, .int .i64 a.si, .string a.fr]] W fun e w' => e = .returned (.tuple #[.int .i64 (untM (rulO R key) a false), .int .i64 (untM (rulO R key) a true)]) ∧ Below W.heap.size W w') := Lib.hid fun W hW => livesX_any W B A X (hp1.below hW) R key a (hr1.below hW (Nat.le_refl _)) hR.rb hR.a.ve hR.a.bo hR.ru
 have HPU : Hid (∀ W : World, Below w1.heap.size w1 W → Calls Tryz.prog 146 #[.pointer (some ⟨A.q, 0, none⟩), .string key] W fun e w' => e = .returned (.int .i64 (purM P key X.no)) ∧ Below W.heap.size W w') := Lib.hid fun W hW => by
  have h1 := purgedX_any W B A X (hp1.below hW) P key (hpp1.below hW (Nat.le_refl _))
  rw [hR.pb] at h1
  exact h1
 have HNN : Hid (plI (X.H i) key = none → X.noKX R P i key a = (decide (a.bo < purM P key X.no) || decide (untM (rulO R key) a true ≤ X.no))) := Lib.hid fun h => noKX_none h
 have HNS : Hid (∀ n x, plI (X.H i) key = some n → (X.H i)[n]? = some x → X.noKX R P i key a = (decide (a.bo < x.an.bo) || (decide (a.bo < purM P key X.no) || decide (untM (rulO R key) a true ≤ X.no)))) := Lib.hid fun n x h hx => noKX_some hR.nd h hx
 have HFX : Hid (∀ (W : World) (v' : Value) (l' : List Xh), RowR w1.heap.size (.slice va vn vc) (X.H i) W v' l' → Below w1.heap.size w1 W → ∀ X' : Xd, X.setH i l' = X' → ComeP w B A X' (.returned (.tuple #[])) (W.setCell ⟨sb, i, none⟩ v')) := Lib.hid fun W v' l' hr hb X' hX => by
  obtain ⟨A', h1, h2⟩ := hp1.putRow hv hsv rfl hr hb
  exact ⟨A', rfl, hX ▸ h1, h2, ((hb1.mono h.base).trans (hb.mono hp1.base)).setCell hs1 _⟩
 have HRS : Hid (∀ (W : World) (u : Value) (m : List Xh), Below w1.heap.size w1 W → RowR w1.heap.size (.slice va vn vc) (X.H i) W u m → Sl W 6 encH u m ∧ ∃ a n c, u = .slice a n c) := Lib.hid fun W u m hb hr => ⟨RowR.sl (hp1.below hb) hv hr, by
  rcases hr with ⟨rfl, -⟩ | ho
  ·exact ⟨_, _, _, rfl⟩
  ·exact Own.slv encH_len ho⟩
 have HDE : Hid (∀ n, plI (X.H i) key = some n → (X.H i).eraseIdx n = delH (X.H i) key ∧ n < (X.H i).length) := Lib.hid fun n hn => ⟨plI_del hR.nd hn, by obtain ⟨x, hx, -⟩ := plI_some hR.nd hn; exact (List.getElem?_eq_some_iff.1 hx).1⟩
 have HDN : Hid (plI (X.H i) key = none → X.H i = delH (X.H i) key) := Lib.hid fun hn => (delH_out (plI_none hn)).symm
 have HPR := Lib.hid hp1
 have HEL : Hid (∀ n x, (X.H i)[n]? = some x → ∀ W : World, Below w1.heap.size w1 W → ∃ b off, va = some ⟨b, off, none⟩ ∧ W.cell? ⟨b, off + n * 6 + 2, none⟩ = some (.int .i64 x.an.bo) ∧ (X.H i).length = vn) := Lib.hid fun n x hx W hW => by
  obtain ⟨ao, cap, e1, -, -, -, hel⟩ := ((hp1.below hW).held hv).sl encH_len
  simp only [Value.slice.injEq] at e1
  obtain ⟨rfl, rfl, rfl⟩ := e1
  obtain ⟨b, off, rfl, hc⟩ := hel n x hx
  exact ⟨b, off, rfl, hc 2 _ rfl, rfl⟩
 have HKR := Lib.hid hR
 have HKN := Lib.hid (fun h => @keepX_no' C R P X i key a h)
 have HB0 := Lib.hid (hb1.mono h.base)
 have HB10 : Hid (Below w1.heap.size w1 w1) := Lib.hid (Below.refl _ _)
 have HWA := Lib.hid (show RD w B A X from h)
 have HW1 := Lib.hid hw1
 have HBA := Lib.hid hba
 have hnm := needA_max hR.a
 obtain ⟨nd, hnd⟩ : ∃ nd, nd = needA a := ⟨_, rfl⟩
 rw [← hnd] at hnm
 have HND := Lib.hid hnd
 have HNM := Lib.hid hnm
 have HNB : Hid (1 ≤ nd ∧ nd ≤ 1000000000) := Lib.hid (by
  have := hR.a
  rw [hnm]
  cases hno : a.no
  ·have := this.s1 hno; omega
  ·have := this.s0 hno; omega)
 obtain ⟨F, hF⟩ : ∃ F, F = plI (X.H i) key := ⟨_, rfl⟩
 rw [← hF] at HPL HNN HNS HDE HDN
 obtain ⟨PB, hPB⟩ : ∃ PB, PB = purM P key X.no := ⟨_, rfl⟩
 rw [← hPB] at HPU HNN HNS
 obtain ⟨U1, hU1⟩ : ∃ U1, U1 = untM (rulO R key) a true := ⟨_, rfl⟩
 rw [← hU1] at HLV HNN HNS
 generalize untM (rulO R key) a false = U0 at HLV
 obtain ⟨NK, hNK⟩ : ∃ NK, NK = X.noKX R P i key a := ⟨_, rfl⟩
 rw [← hNK] at HNN HNS HKN
 have HNK := Lib.hid hNK
 have HF := Lib.hid hF
 clear h hp1 hab hbl hqb hql hih hne hsc hsf hsw hr1 hpp1 e0 hcel hce hcc2 hw1 hba hb1 q8 q11 sv sf q0 d3 hcl1 hwb1 hnd hnm hPB hU1 hNK hF hR hE hs1 hs3 hs4
 have HSVV := Lib.hid hsv
 have HVV := Lib.hid hv
 clear hsv hv
 show Calls Tryz.prog 103 #[.pointer (some ⟨A.q, 0, none⟩), .int .i64 (i : Nat), .string key, .agg #[.int .i64 a.ve, .int .i64 a.bo, .int .i64 a.si, .string a.fr]] w _
 go_enter Tryz.func103, Tryz.ntmps103
 go_upto_region 1 with (fail)
 rw [← HW1.out, ← HBA.out]
 go_upto_region 3 with (first
  | (go_at_call 98; (with_reducible refine (HPL.out _ HB10.out).mono ?_); rintro e w2 ⟨rfl, hb2⟩; have HB2 := Lib.hid hb2; obtain ⟨⟨z8, z11, n0, n1, n2, n3⟩, z5⟩ := HC1.out _ hb2; clear hb2 z5)
  | (go_at_call 145; (with_reducible refine (HLV.out _ HB2.out).mono ?_); rintro e w3 ⟨rfl, hb3⟩; have HB3 := Lib.hid (HB2.out.thru hb3); clear hb3 z8 z11 n0 n1 n2 n3)
  | fail)
 clear HPL HLV HB2
 go_cut [62] (fun s62 W => s62 = .bool NK ∧ Aside (Below w1.heap.size w1 W))
 case first =>
  have HBQ : Hid (Below w1.heap.size w1 w3.drew) := Lib.hid HB3.out.drew
  have HNK1 : Hid (a.bo < PB ∨ U1 ≤ X.no → true = NK) := Lib.hid fun hh => by
   have e : (decide (a.bo < PB) || decide (U1 ≤ X.no)) = true := by
    rcases hh with h | h
    ·rw [decide_eq_true h, Bool.true_or]
    ·rw [decide_eq_true h, Bool.or_true]
   cases hFe : F with
   | none => rw [HNN.out hFe, e]
   | some n =>
    have hnl := (HDE.out n hFe).2
    rw [HNS.out n _ hFe (List.getElem?_eq_getElem hnl), e, Bool.or_true]
  have HNKN : Hid (F = none → Hid (¬ a.bo < PB) → Hid (¬ U1 ≤ X.no) → false = NK) := Lib.hid fun hFe h1 h2 => by rw [HNN.out hFe, decide_eq_false h1.out, decide_eq_false h2.out]; rfl
  have HNKS : Hid (∀ n x, F = some n → (X.H i)[n]? = some x → Hid (¬ a.bo < PB) → Hid (¬ U1 ≤ X.no) → decide (a.bo < x.an.bo) = NK) := Lib.hid fun n x hFe hx h1 h2 => by rw [HNS.out n x hFe hx, decide_eq_false h1.out, decide_eq_false h2.out, Bool.or_false, Bool.or_false]
  refine wp_region_held_drew (S := fun W => Below w1.heap.size w1 W) (by kernel_rfl) HBQ.out (fun hHeld => ?_)
  have HB9 := HBQ
  refine tkI 0 28 hHeld (h := ?_)
  try simp only [pu]
  refine tkI 1 29 hHeld (hy := by (intro w' hSw; have z1 := (HC1.out _ hSw).1.2.2.2.1; go_simp) <;> with_reducible rfl) (h := ?_)
  try simp only [pu]
  refine tkI 2 30 hHeld (h := ?_)
  try simp only [pu]
  refine tkI 3 31 hHeld (h := ?_)
  try simp only [pu]
  refine callIn (f := 146) (args := #[.pointer (some ⟨A.q, 0, none⟩), .string key]) 4 32 rfl rfl (by kernel_rfl) (by rfl) (by go_simp) ?_
  clear hHeld
  refine (HPU.out _ HB9.out).mono ?_
  rintro e w9 ⟨rfl, hb9⟩
  replace HB9 := Lib.hid (HB9.out.thru hb9)
  clear hb9
  have hHeld : Below w1.heap.size w1 w9 := HB9.out
  refine ⟨_, rfl, hHeld, ?_⟩
  try simp only [pu]
  refine tkI 5 33 hHeld (h := ?_)
  try simp only [pu]
  refine tkI 6 34 hHeld (h := ?_)
  try simp only [pu]
  by_cases h1 : a.bo < PB
  ·have hv2 : Hid (true = NK) := Lib.hid (HNK1.out (.inl h1))
   simp only [decide_eq_true h1]
   refine tkO 7 35 hHeld (h := ?_)
   try simp only [pu]
   refine tkO 8 36 hHeld (h := ?_)
   try simp only [pu]
   refine tkO 9 37 hHeld (h := ?_)
   try simp only [pu]
   refine tkO 10 38 hHeld (h := ?_)
   try simp only [pu]
   refine tkO 11 39 hHeld (h := ?_)
   try simp only [pu]
   refine tkO 12 40 hHeld (h := ?_)
   try simp only [pu]
   refine tkI 13 41 hHeld (h := ?_)
   try simp only [pu]
   refine tkI 14 42 hHeld (h := ?_)
   try simp only [pu]
   refine tkO 15 43 hHeld (h := ?_)
   try simp only [pu]
   refine tkO 16 44 hHeld (h := ?_)
   try simp only [pu]
   refine tkO 17 45 hHeld (h := ?_)
   try simp only [pu]
   refine tkO 18 46 hHeld (h := ?_)
   try simp only [pu]
   refine tkO 19 47 hHeld (h := ?_)
   try simp only [pu]
   refine tkO 20 48 hHeld (h := ?_)
   try simp only [pu]
   refine tkO 21 49 hHeld (h := ?_)
   try simp only [pu]
   refine tkO 22 50 hHeld (h := ?_)
   try simp only [pu]
   refine tkO 23 51 hHeld (h := ?_)
   try simp only [pu]
   refine tkO 24 52 hHeld (h := ?_)
   try simp only [pu]
   refine tkO 25 53 hHeld (h := ?_)
   try simp only [pu]
   refine tkO 26 54 hHeld (h := ?_)
   try simp only [pu]
   refine tkO 27 55 hHeld (h := ?_)
   try simp only [pu]
   refine tkO 28 56 hHeld (h := ?_)
   try simp only [pu]
   refine tkO 29 57 hHeld (h := ?_)
   try simp only [pu]
   refine tkO 30 58 hHeld (h := ?_)
   try simp only [pu]
   refine tkO 31 59 hHeld (h := ?_)
   try simp only [pu]
   refine tkO 32 60 hHeld (h := ?_)
   try simp only [pu]
   refine tkO 33 61 hHeld (h := ?_)
   try simp only [pu]
   refine tkI 34 62 hHeld (h := ?_)
   try simp only [pu]
   refine wpAnyH_done (by kernel_rfl) ?_ _
   clear hHeld
   go_wp2_with fail
   go_meet
   exact ⟨by rw [← hv2.out], HB9.out⟩
  ·simp only [decide_eq_false h1]
   refine tkI 7 35 hHeld (h := ?_)
   try simp only [pu]
   refine tkI 8 36 hHeld (h := ?_)
   try simp only [pu]
   refine tkI 9 37 hHeld (h := ?_)
   try simp only [pu]
   refine tkI 10 38 hHeld (hy := by (intro w' hSw; have z1 := (HC1.out _ hSw).1.2.1; go_simp) <;> with_reducible rfl) (h := ?_)
   try simp only [pu]
   refine tkI 11 39 hHeld (h := ?_)
   try simp only [pu]
   refine tkI 12 40 hHeld (h := ?_)
   try simp only [pu]
   refine tkI 13 41 hHeld (h := ?_)
   try simp only [pu]
   refine tkI 14 42 hHeld (h := ?_)
   try simp only [pu]
   by_cases h2 : U1 ≤ X.no
   ·have hv2 : Hid (true = NK) := Lib.hid (HNK1.out (.inr h2))
    simp only [decide_eq_true h2]
    refine tkO 15 43 hHeld (h := ?_)
    try simp only [pu]
    refine tkO 16 44 hHeld (h := ?_)
    try simp only [pu]
    refine tkO 17 45 hHeld (h := ?_)
    try simp only [pu]
    refine tkO 18 46 hHeld (h := ?_)
    try simp only [pu]
    refine tkO 19 47 hHeld (h := ?_)
    try simp only [pu]
    refine tkO 20 48 hHeld (h := ?_)
    try simp only [pu]
    refine tkO 21 49 hHeld (h := ?_)
    try simp only [pu]
    refine tkO 22 50 hHeld (h := ?_)
    try simp only [pu]
    refine tkO 23 51 hHeld (h := ?_)
    try simp only [pu]
    refine tkO 24 52 hHeld (h := ?_)
    try simp only [pu]
    refine tkO 25 53 hHeld (h := ?_)
    try simp only [pu]
    refine tkO 26 54 hHeld (h := ?_)
    try simp only [pu]
    refine tkO 27 55 hHeld (h := ?_)
    try simp only [pu]
    refine tkO 28 56 hHeld (h := ?_)
    try simp only [pu]
    refine tkO 29 57 hHeld (h := ?_)
    try simp only [pu]
    refine tkO 30 58 hHeld (h := ?_)
    try simp only [pu]
    refine tkO 31 59 hHeld (h := ?_)
    try simp only [pu]
    refine tkO 32 60 hHeld (h := ?_)
    try simp only [pu]
    refine tkO 33 61 hHeld (h := ?_)
    try simp only [pu]
    refine tkI 34 62 hHeld (h := ?_)
    try simp only [pu]
    refine wpAnyH_done (by kernel_rfl) ?_ _
    clear hHeld
    go_wp2_with fail
    go_meet
    exact ⟨by rw [← hv2.out], HB9.out⟩
   ·simp only [decide_eq_false h2]
    have h1x := Lib.hid h1
    have h2x := Lib.hid h2
    clear h1 h2
    rcases Option.eq_none_or_eq_some F with hFe | ⟨n, hFe⟩
    ·have hv2 : Hid (false = NK) := Lib.hid (HNKN.out hFe h1x h2x)
     have hnf : numO F = -1 := by rw [hFe]; rfl
     clear hFe
     refine tkI 15 43 hHeld (h := ?_)
     try simp only [pu]
     refine tkI 16 44 hHeld (h := ?_)
     try simp only [pu]
     refine tkI 17 45 hHeld (h := ?_)
     try simp only [pu]
     clear hnf
     refine tkO 18 46 hHeld (h := ?_)
     try simp only [pu]
     refine tkO 19 47 hHeld (h := ?_)
     try simp only [pu]
     refine tkO 20 48 hHeld (h := ?_)
     try simp only [pu]
     refine tkO 21 49 hHeld (h := ?_)
     try simp only [pu]
     refine tkO 22 50 hHeld (h := ?_)
     try simp only [pu]
     refine tkO 23 51 hHeld (h := ?_)
     try simp only [pu]
     refine tkO 24 52 hHeld (h := ?_)
     try simp only [pu]
     refine tkO 25 53 hHeld (h := ?_)
     try simp only [pu]
     refine tkO 26 54 hHeld (h := ?_)
     try simp only [pu]
     refine tkO 27 55 hHeld (h := ?_)
     try simp only [pu]
     refine tkO 28 56 hHeld (h := ?_)
     try simp only [pu]
     refine tkO 29 57 hHeld (h := ?_)
     try simp only [pu]
     refine tkO 30 58 hHeld (h := ?_)
     try simp only [pu]
     refine tkO 31 59 hHeld (h := ?_)
     try simp only [pu]
     refine tkO 32 60 hHeld (h := ?_)
     try simp only [pu]
     refine tkI 33 61 hHeld (h := ?_)
     try simp only [pu]
     refine tkI 34 62 hHeld (h := ?_)
     try simp only [pu]
     refine wpAnyH_done (by kernel_rfl) ?_ _
     clear hHeld
     go_wp2_with fail
     go_meet
     exact ⟨by rw [← hv2.out], HB9.out⟩
    ·have hnl := (HDE.out n hFe).2
     obtain ⟨x, hx⟩ : ∃ x, (X.H i)[n]? = some x := ⟨_, List.getElem?_eq_getElem hnl⟩
     obtain ⟨b, off, rfl, -, rfl⟩ := HEL.out n x hx w1 HB10.out
     have HEB : Hid (∀ W : World, Below w1.heap.size w1 W → W.cell? ⟨b, off + n * 6 + 2, none⟩ = some (.int .i64 x.an.bo)) := Lib.hid fun W hW => by
      obtain ⟨b', off', e, hc, -⟩ := HEL.out n x hx W hW
      simp only [Option.some.injEq, Addr.mk.injEq, and_true] at e
      obtain ⟨rfl, rfl⟩ := e
      exact hc
     have hv2 : Hid (decide (a.bo < x.an.bo) = NK) := Lib.hid (HNKS.out n x hFe hx h1x h2x)
     have hnz : (n : Int) < ((X.H i).length : Int) := by omega
     have hn0 : (0 : Int) ≤ (n : Int) := by omega
     have hnf : numO F = (n : Int) := by rw [hFe]; rfl
     clear hFe hx hnl
     refine tkI 15 43 hHeld (h := ?_)
     try simp only [pu]
     refine tkI 16 44 hHeld (h := ?_)
     try simp only [pu]
     refine tkI 17 45 hHeld (h := ?_)
     try simp only [pu]
     refine tkI 18 46 hHeld (h := ?_)
     try simp only [pu]
     refine tkI 19 47 hHeld (h := ?_)
     try simp only [pu]
     refine tkI 20 48 hHeld (h := ?_)
     try simp only [pu]
     refine tkI 21 49 hHeld (hy := by (intro w' hSw; have z1 := (HC1.out _ hSw).1.1; go_simp) <;> with_reducible rfl) (h := ?_)
     try simp only [pu]
     refine tkI 22 50 hHeld (h := ?_)
     try simp only [pu]
     refine tkI 23 51 hHeld (h := ?_)
     try simp only [pu]
     refine tkI 24 52 hHeld (hy := by (intro w' hSw; have z1 := (HC1.out _ hSw).2.1; go_simp) <;> with_reducible rfl) (h := ?_)
     try simp only [pu]
     refine tkI 25 53 hHeld (h := ?_)
     try simp only [pu]
     refine tkI 26 54 hHeld (h := ?_)
     try simp only [pu]
     refine tkI 27 55 hHeld (h := ?_)
     try simp only [pu]
     refine tkI 28 56 hHeld (h := ?_)
     try simp only [pu]
     clear hnf
     refine tkI 29 57 hHeld (hy := by (intro w' hSw; have z1 := HEB.out _ hSw; go_simp) <;> with_reducible rfl) (h := ?_)
     try simp only [pu]
     refine tkI 30 58 hHeld (h := ?_)
     try simp only [pu]
     refine tkI 31 59 hHeld (hy := by (intro w' hSw; have z1 := (HC1.out _ hSw).1.2.2.2.1; go_simp) <;> with_reducible rfl) (h := ?_)
     try simp only [pu]
     refine tkI 32 60 hHeld (h := ?_)
     try simp only [pu]
     refine tkI 33 61 hHeld (h := ?_)
     try simp only [pu]
     refine tkI 34 62 hHeld (h := ?_)
     try simp only [pu]
     refine wpAnyH_done (by kernel_rfl) ?_ _
     clear hHeld
     go_wp2_with fail
     go_meet
     exact ⟨by rw [← hv2.out], HB9.out⟩
 obtain ⟨rfl, BC⟩ := hcut
 obtain ⟨w4, rfl⟩ : ∃ w4, w4 = wc := ⟨_, rfl⟩
 have HBC := Lib.hid BC.out
 clear BC HPU HNN HNS HB3 HBA
 cases hNKe : NK with
 | true =>
  have hkx := HKN.out hNKe
  have HKX := Lib.hid hkx
  clear hkx hNKe
  go_wp2_with fail
  go_end0
  exact ⟨A, rfl, by rw [HKX.out]; exact HPR.out.below HBC.out, RdrLe.refl A, HB0.out.trans (HBC.out.mono HPR.out.base)⟩
 | false =>
  have HNF : Hid (X.noKX R P i key a = false) := Lib.hid (by rw [← HNK.out]; exact hNKe)
  clear hNKe
  obtain ⟨⟨z8, z11, n0, n1, n2, n3⟩, zv, zf, z0, zd⟩ := HC1.out w4 HBC.out
  go_upto_if 71 with (fail)
  go_cut [8, 11] from 17 (fun s8 s11 W => ∃ a2 m2 c2, s11 = .slice a2 m2 c2 ∧ Aside (RowR w1.heap.size (.slice va vn vc) (X.H i) W (.slice a2 m2 c2) (delH (X.H i) key) ∧ Below w1.heap.size w1 W))
  case first =>
   cases hFe : F with
   | none =>
    have hd := HDN.out hFe
    have HD := Lib.hid hd
    rw [show numO none = -1 from rfl]
    clear hd hFe
    go_wp2_with fail
    go_meet
    exact ⟨_, _, _, rfl, .inl ⟨rfl, HD.out.symm⟩, HBC.out⟩
   | some n =>
    obtain ⟨hd1, hnl⟩ := HDE.out n hFe
    have HD1 := Lib.hid hd1
    have hle := HKR.out.le
    have hcl := cloneL_any w4 (X.H i) (.slice va vn vc) (HRS.out w4 _ _ HBC.out (.inl ⟨rfl, rfl⟩)).1 (by omega)
    have HCL := Lib.hid hcl
    have hwn : IntKind.i64.wrap ((n : Int) + 1) = (n : Int) + 1 := IntWalk.i64_in _ (by omega)
    have HNL := Lib.hid hnl
    rw [show numO (some n) = (n : Int) from rfl]
    clear hcl hd1 hFe hle hnl
    go_wp2_with (first
     | (go_at_call 100; (with_reducible refine HCL.out.mono ?_); rintro e w9 ⟨v9, rfl, ho9, hb9⟩; have HB9 := Lib.hid hb9; have HO9 := Lib.hid ho9; have HDL := Lib.hid (delL_any w9 w4.heap.size (X.H i) v9 ho9 n HNL.out); clear ho9 hb9)
     | (go_at_call 99; (with_reducible refine HDL.out.mono ?_); rintro e w10 ⟨v10, rfl, ho10, hb10⟩; have HB10 := Lib.hid hb10; have HO10 := Lib.hid ho10; clear ho10 hb10; obtain ⟨a10, n10, c10, rfl⟩ := Own.slv encH_len HO10.out)
     | fail)
    go_meet
    exact ⟨_, _, _, rfl, .inr (by rw [← HD1.out]; exact Own.rebase HO10.out HBC.out.size), HBC.out.trans ((HB9.out.trans HB10.out).mono HBC.out.size)⟩
  obtain ⟨a2, m2, c2, rfl, RC⟩ := hcut
  have HRW := Lib.hid RC.out.1
  have HB5 := Lib.hid RC.out.2
  obtain ⟨D0, hD0⟩ : ∃ D0, D0 = delH (X.H i) key := ⟨_, rfl⟩
  rw [← hD0] at HRW
  have HD0 := Lib.hid hD0
  obtain ⟨w5, rfl⟩ : ∃ w5, w5 = wc := ⟨_, rfl⟩
  clear RC hD0 z8 z11 n0 n1 n2 n3 zv zf z0 zd
  have HBD : Hid (Below w1.heap.size w1 w5.drew) := Lib.hid HB5.out.drew
  go_upto_region 7 with (fail)
  refine wp_region_held_drew (S := fun W => Below w1.heap.size w1 W) (by kernel_rfl) HBD.out (fun hHeld => ?_)
  refine tkI 0 78 hHeld (h := ?_)
  try simp only [pu]
  refine tkI 1 79 hHeld (hy := by (intro w' hSw; have z1 := (HC1.out _ hSw).1.2.2.2.2.1; go_simp) <;> with_reducible rfl) (h := ?_)
  try simp only [pu]
  refine tkI 2 80 hHeld (h := ?_)
  try simp only [pu]
  refine tkI 3 81 hHeld (h := ?_)
  try simp only [pu]
  refine tkI 4 82 hHeld (h := ?_)
  try simp only [pu]
  refine tkI 5 83 hHeld (h := ?_)
  try simp only [pu]
  refine tkI 6 84 hHeld (h := ?_)
  try simp only [pu]
  refine tkI 7 85 hHeld (hy := by (intro w' hSw; have z1 := (HC1.out _ hSw).2.2.2.1; go_simp) <;> with_reducible rfl) (h := ?_)
  try simp only [pu]
  refine tkI 8 86 hHeld (h := ?_)
  try simp only [pu]
  refine tkI 9 87 hHeld (h := ?_)
  try simp only [pu]
  refine tkI 10 88 hHeld (h := ?_)
  try simp only [pu]
  refine tkI 11 89 hHeld (hy := by (intro w' hSw; have z1 := (HC1.out _ hSw).2.2.2.2; go_simp) <;> with_reducible rfl) (h := ?_)
  try simp only [pu]
  refine tkI 12 12 hHeld (h := ?_)
  try simp only [pu]
  refine tkI 13 13 hHeld (h := ?_)
  try simp only [pu]
  refine wpAnyH_done (by kernel_rfl) ?_ _
  clear hHeld
  rw [← HNM.out]
  obtain ⟨w6, hw6⟩ : ∃ w6, w6 = w5.drew := ⟨_, rfl⟩
  rw [← hw6] at HBD ⊢
  have HRW6 : Hid (RowR w1.heap.size (.slice va vn vc) (X.H i) w6 (.slice a2 m2 c2) D0) := Lib.hid (by
   rw [hw6]
   rcases HRW.out with h | h
   ·exact .inl h
   ·exact .inr (h.drewN 1))
  clear hw6 HRW
  obtain ⟨⟨z8, z11, n0, n1, n2, n3⟩, zv, zf, z0, zd⟩ := HC1.out w6 HBD.out
  by_cases hrm : c.ro < nd
  ·have hkx := keepX_del (C := C) HNF.out (by rw [HRO.out, ← HND.out]; exact hrm)
   rw [← HD0.out] at hkx
   have HKX := Lib.hid hkx
   clear hkx n0 n1 n2 n3 z11 z0 zd
   go_wp2_with fail
   go_end0
   exact HFX.out _ _ _ HRW6.out HBD.out _ HKX.out.symm
  ·have hkx := keepX_put (C := C) HKR.out.nd HNF.out (by rw [HRO.out, ← HND.out]; exact hrm)
   rw [← HD0.out, HRO.out, ← HND.out] at hkx
   have HKX := Lib.hid hkx
   have HDM : Hid ((∀ x, x ∈ D0 → AnsOk x.an) ∧ D0.length ≤ 1000000) := Lib.hid (by
    rw [HD0.out]
    exact ⟨fun x hx => HKR.out.an x (List.mem_filter.1 hx).1, Nat.le_trans (List.length_filter_le _ _) HKR.out.le⟩)
   have HRMR := Lib.hid hrm
   clear hkx z8 z11 n0 n1 n2 n3 zv zf z0 zd
   go_wp2_with fail
   go_loopg [11, 14, 15, 16] D0.length (fun gg s11 s14 s15 s16 wr => ∃ (m : List Xh) (g : Nat) (va' : Option Addr) (vn' vc' : Nat), g ≤ gg ∧ m.length ≤ g ∧ s11 = .slice va' vn' vc' ∧ Aside (RowR w1.heap.size (.slice va vn vc) (X.H i) wr (.slice va' vn' vc') m) ∧ Aside (Below w1.heap.size w1 wr) ∧ Aside (evL c.ro nd g m = evL c.ro nd D0.length D0 ∧ (∀ x, x ∈ m → AnsOk x.an) ∧ m.length ≤ 1000000))
   case atStart => exact ⟨D0, D0.length, a2, m2, c2, Nat.le_refl _, Nat.le_refl _, rfl, (show Aside _ from HRW6.out), (show Aside _ from HBD.out), (show Aside (_ ∧ _ ∧ _) from ⟨rfl, HDM.out.1, HDM.out.2⟩)⟩
   case round =>
    obtain ⟨wp, rfl⟩ : ∃ wp, wp = wr := ⟨_, rfl⟩
    obtain ⟨m, g, va', vn', vc', hgg, hmg, rfl, RW, BW, EV⟩ := hrel
    have HRP := Lib.hid RW.out
    have HBP := Lib.hid BW.out
    have HEV := Lib.hid EV.out
    have htb := totH_bd HEV.out.2.1
    have hml := HEV.out.2.2
    have htt := totalX_any wp (.slice va' vn' vc') m (HRS.out wp _ m HBP.out HRP.out).1 (fun x hx => ans_si (HEV.out.2.1 x hx)) (fun x hx => needA_max (HEV.out.2.1 x hx)) hml
    obtain ⟨tm, htm⟩ : ∃ tm, tm = totH m := ⟨_, rfl⟩
    rw [← htm] at htt htb
    have HTM := Lib.hid htm
    have HTT := Lib.hid htt
    have hnb := HNB.out
    have hwt : IntKind.i64.wrap (tm + nd) = tm + nd := IntWalk.i64_in _ (by omega)
    have HGG := Lib.hid (And.intro hgg hmg)
    clear RW BW EV htt htm hgg hmg
    by_cases hlt : c.ro < tm + nd
    ·
     have hmne : m ≠ [] := fun e => by
      have h0 := HTM.out
      rw [e] at h0
      have h0' : tm = 0 := h0
      have := HRMR.out
      omega
     have HMNE := Lib.hid hmne
     clear hmne
     go_upto_region 11 with (first | (go_at_call 147; (with_reducible refine HTT.out.mono ?_); rintro e w7 ⟨rfl, hb7⟩; have HB7 := Lib.hid hb7; clear hb7) | fail)
     have HBW7 : Hid (Below w1.heap.size w1 w7) := Lib.hid (HBP.out.thru HB7.out)
     have hrs := (HRS.out w7 _ m HBW7.out (HRP.out.below HB7.out)).1
     have HSL7 := Lib.hid hrs
     obtain ⟨ao, cap, e7, hcap, hmax, -, hel⟩ := hrs
     simp only [Value.slice.injEq] at e7
     obtain ⟨rfl, rfl, rfl⟩ := e7
     have HEM : Hid (∀ (k : Nat) (y : Xh), m[k]? = some y → ∃ b off, va' = some ⟨b, off, none⟩ ∧ b < w7.heap.size ∧ ∀ W : World, Below w7.heap.size w7 W → W.cell? ⟨b, off + k * 6, none⟩ = some (.string y.ke) ∧ W.cell? ⟨b, off + k * 6 + 1, none⟩ = some (.int .i64 y.an.ve) ∧ W.cell? ⟨b, off + k * 6 + 2, none⟩ = some (.int .i64 y.an.bo) ∧ W.cell? ⟨b, off + k * 6 + 3, none⟩ = some (.int .i64 y.an.si) ∧ W.cell? ⟨b, off + k * 6 + 4, none⟩ = some (.string y.an.fr) ∧ W.cell? ⟨b, off + k * 6 + 5, none⟩ = some (.int .i64 y.us)) := Lib.hid fun k y hy => by
      obtain ⟨b, off, rfl, hc⟩ := hel k y hy
      have hl := World.block_lt_of_cell? w7 _ (hc 1 _ rfl)
      refine ⟨b, off, rfl, hl, fun W hW => ⟨?_, (hW.cell (p := ⟨b, off + k * 6 + 1, none⟩) hl).trans (hc 1 _ rfl), (hW.cell (p := ⟨b, off + k * 6 + 2, none⟩) hl).trans (hc 2 _ rfl), (hW.cell (p := ⟨b, off + k * 6 + 3, none⟩) hl).trans (hc 3 _ rfl), (hW.cell (p := ⟨b, off + k * 6 + 4, none⟩) hl).trans (hc 4 _ rfl), (hW.cell (p := ⟨b, off + k * 6 + 5, none⟩) hl).trans (hc 5 _ rfl)⟩⟩
      have h1 := (hW.cell (p := ⟨b, off + k * 6 + 0, none⟩) hl).trans (hc 0 _ rfl)
      simpa using h1
     unfold maxLen at hmax
     clear hel
     go_wp2_with fail
     go_loopg [14, 15, 16, 108] m.length (fun gg s14 s15 s16 s108 wr => ∃ kk : Nat, kk ≤ m.length ∧ m.length - kk ≤ gg ∧ s108 = .int .i64 kk ∧ s14 = .int .i64 (worI m kk : Nat) ∧ Aside (Below w7.heap.size w7 wr))
     case atStart => exact ⟨0, Nat.zero_le _, by omega, rfl, rfl, (show Aside _ from Below.refl _ _)⟩
     case round =>
      obtain ⟨wi, rfl⟩ : ∃ wi, wi = wr := ⟨_, rfl⟩
      obtain ⟨kk, hkk, hgk, rfl, rfl, BI⟩ := hrel
      have HBI := Lib.hid BI.out
      clear BI
      by_cases hlk : kk < m.length
      ·have hlkz : (kk : Int) < (m.length : Int) := by omega
       have hql := worI_lt HMNE.out hkk
       obtain ⟨x, hx⟩ : ∃ x, m[kk]? = some x := ⟨_, List.getElem?_eq_getElem hlk⟩
       obtain ⟨z, hz⟩ : ∃ z, m[worI m kk]? = some z := ⟨_, List.getElem?_eq_getElem hql⟩
       have HW1' : Hid (worI m (kk + 1) = if lgX x z = true then kk else worI m kk) := Lib.hid (by rw [worI, getD_at hx, getD_at hz])
       obtain ⟨q, hq⟩ : ∃ q, q = worI m kk := ⟨_, rfl⟩
       rw [← hq] at hz hql HW1' ⊢
       obtain ⟨b, off, rfl, hbl, hxc⟩ := HEM.out kk x hx
       obtain ⟨b', off', eb, -, hzc⟩ := HEM.out q z hz
       simp only [Option.some.injEq, Addr.mk.injEq, and_true] at eb
       obtain ⟨rfl, rfl⟩ := eb
       obtain ⟨c0, c1, c2', c3, c4, c5⟩ := hxc wi HBI.out
       have hqz : (q : Int) < (m.length : Int) := by omega
       have hq0 : (0 : Int) ≤ (q : Int) := by omega
       obtain ⟨wq, hwq⟩ : ∃ wq, wq = wi.alloc (.cells #[.string x.ke, .int .i64 x.an.ve, .int .i64 x.an.bo, .int .i64 x.an.si, .string x.an.fr, .int .i64 x.us] 107) := ⟨_, rfl⟩
       have HBQ : Hid (Below w7.heap.size w7 wq) := Lib.hid (by rw [hwq]; exact HBI.out.alloc HBI.out.size _)
       obtain ⟨N, hN⟩ : ∃ N, N = wi.heap.size := ⟨_, rfl⟩
       have hnb' : wq.heap[N]? = some (.cells #[.string x.ke, .int .i64 x.an.ve, .int .i64 x.an.bo, .int .i64 x.an.si, .string x.an.fr, .int .i64 x.us] 107 (0, 0)) := by rw [hN, hwq]; exact block_new wi _
       have n0 : wq.cell? ⟨N, 0, none⟩ = some (.string x.ke) := cellF hnb' 0 rfl
       have n5 : wq.cell? ⟨N, 5, none⟩ = some (.int .i64 x.us) := cellF hnb' 5 rfl
       obtain ⟨d0, -, -, -, -, d5⟩ := hzc wq HBQ.out
       have HWQ := Lib.hid hwq
       have HN := Lib.hid hN
       have HLG : Hid (lgX x z = (decide (x.us < z.us) || (decide (x.us = z.us) && Op.bytesLess x.ke.toList z.ke.toList))) := Lib.hid rfl
       clear hx hz hq hxc hzc hwq hN hnb' HEM hql
       go_upto_region 15 with (fail)
       rw [← HWQ.out, ← HN.out]
       clear c0 c1 c2' c3 c4 c5
       have hund : undef = Value.tuple #[] := rfl
       by_cases h1 : x.us < z.us
       ·have hv : Hid (worI m (kk + 1) = kk) := Lib.hid (by rw [HW1'.out, HLG.out, decide_eq_true h1, Bool.true_or, if_pos rfl])
        go_quiet (fail)
        clear hund
        go_wp2_with fail
        go_roundg (m.length - (kk + 1))
        case measure => omega
        case rel => exact ⟨kk + 1, by omega, by omega, by go_num, by rw [hv.out], below_drewN HBQ.out _⟩
       ·by_cases h2 : x.us = z.us
        ·have h2b : (x.us == z.us) = true := beq_iff_eq.2 h2
         cases h3 : Op.bytesLess x.ke.toList z.ke.toList
         ·have hv : Hid (worI m (kk + 1) = q) := Lib.hid (by rw [HW1'.out, HLG.out, decide_eq_false h1, h3, Bool.and_false, Bool.or_false, if_neg (by simp)])
          clear h2
          go_quiet (fail)
          clear hund
          go_wp2_with fail
          go_roundg (m.length - (kk + 1))
          case measure => omega
          case rel => exact ⟨kk + 1, by omega, by omega, by go_num, by rw [hv.out], below_drewN HBQ.out _⟩
         ·have hv : Hid (worI m (kk + 1) = kk) := Lib.hid (by rw [HW1'.out, HLG.out, decide_eq_true h2, h3, Bool.and_true, Bool.or_true, if_pos rfl])
          clear h2
          go_quiet (fail)
          clear hund
          go_wp2_with fail
          go_roundg (m.length - (kk + 1))
          case measure => omega
          case rel => exact ⟨kk + 1, by omega, by omega, by go_num, by rw [hv.out], below_drewN HBQ.out _⟩
        ·have h2b : (x.us == z.us) = false := beq_eq_false_iff_ne.2 h2
         have hv : Hid (worI m (kk + 1) = q) := Lib.hid (by rw [HW1'.out, HLG.out, decide_eq_false h1, decide_eq_false h2, Bool.false_and, Bool.or_false, if_neg (by simp)])
         go_quiet (fail)
         clear hund
         go_wp2_with fail
         go_roundg (m.length - (kk + 1))
         case measure => omega
         case rel => exact ⟨kk + 1, by omega, by omega, by go_num, by rw [hv.out], below_drewN HBQ.out _⟩
      ·obtain rfl : kk = m.length := by omega
       have hlkz : ¬ (m.length : Int) < (m.length : Int) := by omega
       have hql := worI_lt HMNE.out (Nat.le_refl m.length)
       have HMO : Hid (evL c.ro nd (g - 1) (m.eraseIdx (worI m m.length)) = evL c.ro nd D0.length D0 ∧ (∀ x, x ∈ m.eraseIdx (worI m m.length) → AnsOk x.an) ∧ (m.eraseIdx (worI m m.length)).length + 1 = m.length) := Lib.hid (by
        have hg1 := HGG.out.2
        have hmp := List.length_pos_iff.2 HMNE.out
        refine ⟨?_, fun x hx => HEV.out.2.1 x (List.mem_of_mem_eraseIdx hx), by rw [List.length_eraseIdx, if_pos hql]; omega⟩
        rw [← HEV.out.1]
        obtain ⟨g', rfl⟩ : ∃ g', g = g' + 1 := ⟨g - 1, by omega⟩
        rw [evL_more (by rw [← HTM.out]; exact hlt)]
        rfl)
       obtain ⟨q, hq⟩ : ∃ q, q = worI m m.length := ⟨_, rfl⟩
       rw [← hq] at hql HMO ⊢
       have HQL := Lib.hid hql
       have HCL := Lib.hid (cloneL_any wi m (.slice va' m.length vc') (HSL7.out.below HBI.out (Nat.le_refl _)) (by omega))
       have hwn : IntKind.i64.wrap ((q : Int) + 1) = (q : Int) + 1 := IntWalk.i64_in _ (by omega)
       clear hql hq HEM
       go_wp2_with (first
        | (go_at_call 100; (with_reducible refine HCL.out.mono ?_); rintro e w9 ⟨v9, rfl, ho9, hb9⟩; have HB9 := Lib.hid hb9; have HO9 := Lib.hid ho9; have HDL := Lib.hid (delL_any w9 wi.heap.size m v9 ho9 q HQL.out); clear ho9 hb9)
        | (go_at_call 99; (with_reducible refine HDL.out.mono ?_); rintro e w10 ⟨v10, rfl, ho10, hb10⟩; have HB10 := Lib.hid hb10; have HO10 := Lib.hid ho10; clear ho10 hb10; obtain ⟨a10, n10, c10, rfl⟩ := Own.slv encH_len HO10.out)
        | fail)
       have HBWI : Hid (Below w1.heap.size w1 wi) := Lib.hid (HBW7.out.thru HBI.out)
       go_roundg (g - 1)
       case measure => have := HGG.out; have := List.length_pos_iff.2 HMNE.out; omega
       case rel => exact ⟨m.eraseIdx q, g - 1, a10, n10, c10, Nat.le_refl _, by have := HMO.out.2.2; have := HGG.out.2; omega, rfl, (show Aside _ from .inr (Own.rebase HO10.out HBWI.out.size)), (show Aside _ from HBWI.out.trans ((HB9.out.trans HB10.out).mono HBWI.out.size)), (show Aside (_ ∧ _ ∧ _) from ⟨HMO.out.1, HMO.out.2.1, by have := HMO.out.2.2; omega⟩)⟩
    ·
     have HEE : Hid (evL c.ro nd D0.length D0 = m) := Lib.hid (by rw [← HEV.out.1]; exact evL_done (by rw [← HTM.out]; exact hlt))
     go_upto_region 19 with (first | (go_at_call 147; (with_reducible refine HTT.out.mono ?_); rintro e w7 ⟨rfl, hb7⟩; have HB7 := Lib.hid hb7; clear hb7) | fail)
     have HBW7 : Hid (Below w1.heap.size w1 w7) := Lib.hid (HBP.out.thru HB7.out)
     have HN7 : Hid (w1.heap.size ≤ w7.heap.size) := Lib.hid HBW7.out.size
     have HRP7 := Lib.hid (HRP.out.below HB7.out)
     have HSL7 := Lib.hid (HRS.out w7 _ m HBW7.out HRP7.out).1
     have HSS : Hid (∀ W : World, Below w7.heap.size w7 W → W.cell? ⟨A.q, 8, none⟩ = some (.slice (some ⟨sb, 0, none⟩) A.hs.length sc) ∧ W.cell? ⟨A.q, 11, none⟩ = some (.int .i64 X.no) ∧ W.cell? ⟨ba, 0, none⟩ = some (.int .i64 a.ve) ∧ W.cell? ⟨ba, 1, none⟩ = some (.int .i64 a.bo) ∧ W.cell? ⟨ba, 2, none⟩ = some (.int .i64 a.si) ∧ W.cell? ⟨ba, 3, none⟩ = some (.string a.fr)) := Lib.hid fun W hW => (HC1.out W (HBW7.out.thru hW)).1
     have HS1 : Hid (∀ W : World, Below w1.heap.size w7 W → W.cell? ⟨A.q, 8, none⟩ = some (.slice (some ⟨sb, 0, none⟩) A.hs.length sc) ∧ W.cell? ⟨A.q, 11, none⟩ = some (.int .i64 X.no) ∧ W.cell? ⟨ba, 0, none⟩ = some (.int .i64 a.ve) ∧ W.cell? ⟨ba, 1, none⟩ = some (.int .i64 a.bo) ∧ W.cell? ⟨ba, 2, none⟩ = some (.int .i64 a.si) ∧ W.cell? ⟨ba, 3, none⟩ = some (.string a.fr)) := Lib.hid fun W hW => (HC1.out W (HBW7.out.trans hW)).1
     have HKV : Hid (∀ W : World, Below w1.heap.size w7 W → W.cell? ⟨sb, i, none⟩ = some (.slice va vn vc)) := Lib.hid fun W hW => (HC1.out W (HBW7.out.trans hW)).2.1
     have HFZ : Hid (∀ W : World, Below w1.heap.size w7 W → W.frozen? ⟨sb, i, none⟩ = false) := Lib.hid fun W hW => (HC1.out W (HBW7.out.trans hW)).2.2.1
     have HCL : Hid (∀ W : World, Below w7.heap.size w7 W → Calls Tryz.prog 100 #[.slice va' vn' vc'] W (OwnRet W 107 6 encH m)) := Lib.hid fun W hW => cloneL_any W m _ (HSL7.out.below hW (Nat.le_refl _)) (by omega)
     have HBQ : Hid (Below w7.heap.size w7 w7.drew) := Lib.hid (Below.refl _ w7).drew
     have HXA : Hid ((encH ⟨key, a, X.no⟩).all Value.oneCell' = true) := Lib.hid rfl
     have HWL : Hid (m.length * 64 ≤ 140737488355328) := Lib.hid (by omega)
     have HST : Hid (∀ (W : World) (u : Value), (W.cell? ⟨A.q, 8, none⟩ = some (.slice (some ⟨sb, 0, none⟩) A.hs.length sc) ∧ W.cell? ⟨A.q, 11, none⟩ = some (.int .i64 X.no) ∧ W.cell? ⟨ba, 0, none⟩ = some (.int .i64 a.ve) ∧ W.cell? ⟨ba, 1, none⟩ = some (.int .i64 a.bo) ∧ W.cell? ⟨ba, 2, none⟩ = some (.int .i64 a.si) ∧ W.cell? ⟨ba, 3, none⟩ = some (.string a.fr)) → (W.setCell ⟨sb, i, none⟩ u).cell? ⟨A.q, 8, none⟩ = some (.slice (some ⟨sb, 0, none⟩) A.hs.length sc) ∧ (W.setCell ⟨sb, i, none⟩ u).cell? ⟨A.q, 11, none⟩ = some (.int .i64 X.no) ∧ (W.setCell ⟨sb, i, none⟩ u).cell? ⟨ba, 0, none⟩ = some (.int .i64 a.ve) ∧ (W.setCell ⟨sb, i, none⟩ u).cell? ⟨ba, 1, none⟩ = some (.int .i64 a.bo) ∧ (W.setCell ⟨sb, i, none⟩ u).cell? ⟨ba, 2, none⟩ = some (.int .i64 a.si) ∧ (W.setCell ⟨sb, i, none⟩ u).cell? ⟨ba, 3, none⟩ = some (.string a.fr)) := Lib.hid fun W u hS =>
      ⟨(World.cell?_setCell_far W _ _ u hsq).trans hS.1, (World.cell?_setCell_far W _ _ u hsq).trans hS.2.1, (World.cell?_setCell_far W _ _ u hsa).trans hS.2.2.1, (World.cell?_setCell_far W _ _ u hsa).trans hS.2.2.2.1, (World.cell?_setCell_far W _ _ u hsa).trans hS.2.2.2.2.1, (World.cell?_setCell_far W _ _ u hsa).trans hS.2.2.2.2.2⟩
     have HFN : Hid (∀ (W : World) (u : Value), Own W w1.heap.size 107 6 encH u (m ++ [⟨key, a, X.no⟩]) → Below w1.heap.size w7 W → ComeP w B A (X.keepX C R P i key a) (.returned (.tuple #[])) (W.setCell ⟨sb, i, none⟩ u)) := Lib.hid fun W u ho hb => HFX.out W u _ (.inr ho) (HBW7.out.trans hb) _ (by rw [HKX.out, HEE.out])
     clear hlt hwt
     refine wp_region_held_drew (S := fun W => W.cell? ⟨A.q, 8, none⟩ = some (.slice (some ⟨sb, 0, none⟩) A.hs.length sc) ∧ W.cell? ⟨A.q, 11, none⟩ = some (.int .i64 X.no) ∧ W.cell? ⟨ba, 0, none⟩ = some (.int .i64 a.ve) ∧ W.cell? ⟨ba, 1, none⟩ = some (.int .i64 a.bo) ∧ W.cell? ⟨ba, 2, none⟩ = some (.int .i64 a.si) ∧ W.cell? ⟨ba, 3, none⟩ = some (.string a.fr)) (by kernel_rfl) (HSS.out _ HBQ.out) (fun hHeld => ?_)
     refine tkS 0 149 hHeld ?_
     try simp only [pu]
     refine tkS 1 150 hHeld ?_
     try simp only [pu]
     refine tkS 2 151 hHeld ?_
     try simp only [pu]
     refine tkS 3 152 hHeld ?_
     try simp only [pu]
     refine tkS 4 153 hHeld ?_
     try simp only [pu]
     refine tkS 5 154 hHeld ?_
     try simp only [pu]
     refine tkS 7 156 hHeld ?_
     try simp only [pu]
     refine tkS 8 157 hHeld ?_
     try simp only [pu]
     refine tkS 9 158 hHeld ?_
     try simp only [pu]
     refine tkS 10 159 hHeld ?_
     try simp only [pu]
     refine tkS 11 160 hHeld ?_
     try simp only [pu]
     refine tkS 12 161 hHeld ?_
     try simp only [pu]
     refine tkS 13 162 hHeld ?_
     try simp only [pu]
     refine wpAnyH_ready (rs := [6, 14]) (by kernel_rfl) (by simp) (AllReadyH.cons rfl (fun K hK => ?_) (AllReadyH.cons rfl (fun K hK => ?_) AllReadyH.nil))
     ·rw [if_pos (by rfl)]
      go_simp
      go_at_call 100
      refine (HCL.out _ HBQ.out).mono ?_
      rintro e w9 ⟨v9, rfl, ho9, hb9⟩
      have HB9 := Lib.hid (HBQ.out.thru hb9)
      have HO9 := Lib.hid (Own.rebase ho9 (Nat.le_trans HN7.out HBQ.out.size))
      have HB90 := Lib.hid hb9
      clear ho9 hb9
      obtain ⟨aw, nw, cw, rfl⟩ := Own.slv encH_len HO9.out
      refine hK.out _ _ (HSS.out _ HB9.out) (fun hHeld => ?_)
      clear hK K
      try simp only [pu]
      refine wpAnyH_ready (rs := [14]) (by kernel_rfl) (by simp) (AllReadyH.cons rfl (fun K hK => ?_) AllReadyH.nil)
      have HBA := Lib.hid (HB9.out.alloc HB9.out.size (Obj.cells #[.string key, .int .i64 a.ve, .int .i64 a.bo, .int .i64 a.si, .string a.fr, .int .i64 X.no] 107))
      go_simp
      refine hK.out _ _ (HSS.out _ HBA.out) (fun hHeld => ?_)
      clear hK K
      try simp only [pu]
      refine wpAnyH_ready (rs := [15]) (by kernel_rfl) (by simp) (AllReadyH.cons rfl (fun K hK => ?_) AllReadyH.nil)
      refine step_pushB (enc := encH) (v := .slice aw nw cw) (l := m) rfl (.tmp 155) (.tmp 163) 103 rfl slL (by decide) rfl rfl ⟨key, a, X.no⟩ rfl HXA.out (HO9.out.al _) (block_new _ _) HWL.out (Nat.le_trans HN7.out HBA.out.size) ?_
      intro v10 w10 ho10 hb10 hk10
      have HB10 := Lib.hid ((HBA.out.mono HN7.out).trans hb10)
      have HO10 := Lib.hid ho10
      clear ho10 hb10 hk10
      obtain ⟨ax, nx, cx, rfl⟩ := Own.slv encH_len HO10.out
      have yf := HFZ.out _ HB10.out
      have yk := HKV.out _ HB10.out
      refine hK.out _ _ (HS1.out _ HB10.out) (fun hHeld => ?_)
      clear hK K
      try simp only [pu]
      refine tkS 16 165 hHeld ?_
      try simp only [pu]
      refine wpAnyH_ready (rs := [17]) (by kernel_rfl) (by simp) (AllReadyH.cons rfl (fun K hK => ?_) AllReadyH.nil)
      go_simp
      refine hK.out _ _ (HST.out _ _ (HS1.out _ HB10.out)) (fun hHeld => ?_)
      clear hK K
      try simp only [pu]
      refine wpAnyH_done (by kernel_rfl) ?_ _
      go_wp2_with fail
      ((try simp only [Exit.inBlock, Exit.then]); refine bodyPost_ret (results_none rfl _ _ _) rfl ?_)
      exact HFN.out _ _ HO10.out HB10.out
     ·have HBA := Lib.hid (HBQ.out.alloc HBQ.out.size (Obj.cells #[.string key, .int .i64 a.ve, .int .i64 a.bo, .int .i64 a.si, .string a.fr, .int .i64 X.no] 107))
      go_simp
      refine hK.out _ _ (HSS.out _ HBA.out) (fun hHeld => ?_)
      clear hK K
      try simp only [pu]
      refine wpAnyH_ready (rs := [6]) (by kernel_rfl) (by simp) (AllReadyH.cons rfl (fun K hK => ?_) AllReadyH.nil)
      rw [if_pos (by rfl)]
      go_simp
      go_at_call 100
      refine (HCL.out _ HBA.out).mono ?_
      rintro e w9 ⟨v9, rfl, ho9, hb9⟩
      have HB9 := Lib.hid (HBA.out.thru hb9)
      have HO9 := Lib.hid (Own.rebase ho9 (Nat.le_trans HN7.out HBA.out.size))
      have HB90 := Lib.hid hb9
      clear ho9 hb9
      obtain ⟨aw, nw, cw, rfl⟩ := Own.slv encH_len HO9.out
      refine hK.out _ _ (HSS.out _ HB9.out) (fun hHeld => ?_)
      clear hK K
      try simp only [pu]
      refine wpAnyH_ready (rs := [15]) (by kernel_rfl) (by simp) (AllReadyH.cons rfl (fun K hK => ?_) AllReadyH.nil)
      refine step_pushB (enc := encH) (v := .slice aw nw cw) (l := m) rfl (.tmp 155) (.tmp 163) 103 rfl slL (by decide) rfl rfl ⟨key, a, X.no⟩ rfl HXA.out HO9.out ((HB90.out.block _ (by simp)).trans (block_new _ _)) HWL.out (Nat.le_trans HN7.out HB9.out.size) ?_
      intro v10 w10 ho10 hb10 hk10
      have HB10 := Lib.hid ((HB9.out.mono HN7.out).trans hb10)
      have HO10 := Lib.hid ho10
      clear ho10 hb10 hk10
      obtain ⟨ax, nx, cx, rfl⟩ := Own.slv encH_len HO10.out
      have yf := HFZ.out _ HB10.out
      have yk := HKV.out _ HB10.out
      refine hK.out _ _ (HS1.out _ HB10.out) (fun hHeld => ?_)
      clear hK K
      try simp only [pu]
      refine tkS 16 165 hHeld ?_
      try simp only [pu]
      refine wpAnyH_ready (rs := [17]) (by kernel_rfl) (by simp) (AllReadyH.cons rfl (fun K hK => ?_) AllReadyH.nil)
      go_simp
      refine hK.out _ _ (HST.out _ _ (HS1.out _ HB10.out)) (fun hHeld => ?_)
      clear hK K
      try simp only [pu]
      refine wpAnyH_done (by kernel_rfl) ?_ _
      go_wp2_with fail
      ((try simp only [Exit.inBlock, Exit.then]); refine bodyPost_ret (results_none rfl _ _ _) rfl ?_)
      exact HFN.out _ _ HO10.out HB10.out
end Go.Proofs.YtgohddfnhofjhaaGreatDoor

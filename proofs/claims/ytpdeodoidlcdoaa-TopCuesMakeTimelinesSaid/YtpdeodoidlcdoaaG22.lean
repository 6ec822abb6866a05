/- One element taken out of a slice that the call has built: plain, over cells. -/
import Derived.Test.YtpdeodoidlcdoaaG05
import Derived.Laws.IdiomCopy
import Derived.Deep.Upon
import Derived.Test.YtpdeodoidlcdoaaG04
import Derived.Test.YtpdeodoidlcdoaaG06
import Derived.Deep.RegionLaw
import Derived.Deep.MidRow
namespace Go.Proofs.Ytpdeodoidlcdoaa
open Go.RowKit

theorem setCells_block {g : Nat} {t : TypeId} : ∀ (vs : List Value) (o : Nat) (w : World) (cur : Array Value), w.heap[g]? = some (.cells cur t (0, 0)) → o + vs.length ≤ cur.size →
    ∃ cur' : Array Value, (w.setCells g o vs).heap[g]? = some (.cells cur' t (0, 0)) ∧ cur'.toList = cur.toList.take o ++ vs ++ cur.toList.drop (o + vs.length)
  | [], o, w, cur, h, _ => ⟨cur, h, by simp⟩
  | v :: r, o, w, cur, h, hl => by
    obtain ⟨c', h1, h2⟩ := setCells_block r (o + 1) (w.setCell ⟨g, o, none⟩ v) (cur.setIfInBounds o v) (heap_setCell_same w g o cur t v h) (by simp at hl ⊢; omega)
    refine ⟨c', h1, ?_⟩
    rw [h2, Array.toList_setIfInBounds]
    have e := list_seg_step cur.toList o v r (by simp at hl ⊢; omega)
    simpa using e

theorem below_setCellsD {B g : Nat} {a : World} (hg : B ≤ g) : ∀ (vs : List Value) (o : Nat) (w : World), Below B a w → Below B a (w.setCells g o vs)
  | [], _, _, h => h
  | v :: r, o, _, h => below_setCellsD (a := a) hg r (o + 1) _ (h.setCell hg v)

theorem take_flat {α : Type} {enc : α → List Value} {k : Nat} (hk : ∀ x, (enc x).length = k) : ∀ (l : List α) (i : Nat), (l.flatMap enc).take (i * k) = (l.take i).flatMap enc
  | [], i => by simp
  | x :: r, 0 => by simp
  | x :: r, i + 1 => by
    rw [List.flatMap_cons, List.take_succ_cons, List.flatMap_cons, Nat.succ_mul, Nat.add_comm, ← hk x, List.take_length_add_append, hk x, take_flat hk r i]

theorem Own.erase {α : Type} {w : World} {base : Nat} {E : TypeId} {k : Nat} {enc : α → List Value} {l : List α} {g cap : Nat} (hk : ∀ x, (enc x).length = k) (h : Own w base E k enc (.slice (some ⟨g, 0, none⟩) l.length cap) l) {i : Nat} (hi : i < l.length) (zs : List Value) (hz : zs.length = k) :
    Own ((w.setCells g (i * k) ((l.drop (i + 1)).flatMap enc)).setCells g ((l.length - 1) * k) zs) base E k enc (.slice (some ⟨g, 0, none⟩) (l.length - 1) cap) (l.eraseIdx i) := by
  obtain ⟨h1, h2⟩ := h
  rcases h2 with ⟨h2, _⟩ | ⟨g', cap', cur, hv, hg, hh, hn, hm, hs, ht⟩
  · cases h2
  simp only [Value.slice.injEq, Option.some.injEq, Addr.mk.injEq, and_true, true_and] at hv
  obtain ⟨rfl, rfl⟩ := hv
  have hlen : (l.eraseIdx i).length = l.length - 1 := by rw [List.length_eraseIdx]; simp [hi]
  have hd : ((l.drop (i + 1)).flatMap enc).length = (l.length - 1 - i) * k := by rw [flatMap_len hk]; congr 1; simp; omega
  have hmul : i * k + (l.length - 1 - i) * k = (l.length - 1) * k := by rw [← Nat.add_mul]; congr 1; omega
  have hle1 : (l.length - 1) * k + k = l.length * k := by rw [← Nat.succ_mul]; congr 1; omega
  have hle2 : l.length * k ≤ cap * k := Nat.mul_le_mul_right k hn
  obtain ⟨c1, hc1, e1⟩ := setCells_block (g := g) ((l.drop (i + 1)).flatMap enc) (i * k) w cur hh (by rw [hd]; omega)
  have hsz1 : c1.size = cur.size := by
    have : c1.toList.length = cur.toList.length := by rw [e1]; simp only [List.length_append, List.length_take, List.length_drop, hd, Array.length_toList]; omega
    simpa using this
  obtain ⟨c2, hc2, e2⟩ := setCells_block (g := g) zs ((l.length - 1) * k) _ c1 hc1 (by rw [hz]; omega)
  have hsz2 : c2.size = c1.size := by
    have : c2.toList.length = c1.toList.length := by rw [e2]; simp only [List.length_append, List.length_take, List.length_drop, hz, Array.length_toList]; omega
    simpa using this
  refine ⟨by rw [flatMap_len hk], .inr ⟨g, cap, c2, by rw [hlen], hg, hc2, by rw [hlen]; omega, hm, by rw [hsz2, hsz1, hs], ?_⟩⟩
  rw [hlen, e2, List.append_assoc, List.take_append_of_le_length (by simp only [List.length_take, Array.length_toList]; omega), List.take_take, Nat.min_self, e1, ← hmul, ← hd,
    List.take_append_of_le_length (by simp only [List.length_append, List.length_take, Array.length_toList]; omega)]
  have hti : (cur.toList.take (i * k)).length = i * k := by simp only [List.length_take, Array.length_toList]; omega
  rw [List.take_of_length_le (by rw [List.length_append, hti]; exact Nat.le_refl _), List.eraseIdx_eq_take_drop_succ, List.flatMap_append, ← take_flat hk l i, ← ht, List.take_take]
  congr 2
  omega

/-- 'clear(s)', s one element of k cells. -/
theorem run_clear_one {P : Program} (w : World) (t e ty : TypeId) (z : Value) (zs : List Value) (ht : P.underlying t = some (.slice e)) (hv : ∀ w, (zeroValue e).run P w = .ok z w) (hz : z.cells = zs.toArray) (h1 : ∀ v, v ∈ zs → v.oneCell' = true) (b o c : Nat)
    (hc : ∀ j, j < zs.length → (w.cell? ⟨b, o + j, none⟩).isSome = true) (hf : ∀ j, j < zs.length → w.frozen? ⟨b, o + j, none⟩ = false) :
    (Builtin.clear_ #[t] ty #[.slice (some ⟨b, o, none⟩) 1 c]).run P w = .ok (.tuple #[]) (w.setCells b o zs) := by
  have hzc : (Builtin.zeroCells z.cells 1).toList = zs := by
    rw [hz]
    apply List.ext_getElem
    · simp [Builtin.zeroCells]
    · intro i h1 h2
      simp [Builtin.zeroCells, Nat.mod_eq_of_lt h2, List.getElem?_eq_getElem h2]
  have hst := run_storeCells_cells (P := P) b o zs 0 w (by simpa using hc) (by simpa using hf) h1
  simp only [Nat.add_zero] at hst
  simp [Builtin.clear_, run_underlying ht, hv, hzc, hst]
end Go.Proofs.Ytpdeodoidlcdoaa

/- Cells written into a block of elements: blocks of other types are kept. -/
namespace Go.Proofs.Ytpdeodoidlcdoaa
open Go.RowKit

theorem KeepT.setG {E : TypeId} {a w : World} {g j : Nat} {c : Array Value} {fr : Nat × Nat} (h : KeepT E a w) (hg : w.heap[g]? = some (Obj.cells c E fr)) (u : Value) : KeepT E a (w.setCell ⟨g, j, none⟩ u) := fun i d T fr h1 h2 => by
  have h4 := h i d T fr h1 h2
  rw [Below.heap_setCell w ⟨g, j, none⟩ u i (fun e => by
    have e : i = g := e
    subst e
    rw [hg] at h4
    simp only [Option.some.injEq, Obj.cells.injEq] at h4
    exact h2 h4.2.1.symm)]
  exact h4
theorem keepT_setCells {E : TypeId} {g : Nat} {a : World} : ∀ (vs : List Value) (o : Nat) (w : World), KeepT E a w → (∃ cur, w.heap[g]? = some (.cells cur E (0, 0))) → KeepT E a (w.setCells g o vs)
  | [], _, _, h, _ => h
  | v :: r, o, w, h, ⟨cur, hc⟩ => keepT_setCells (a := a) r (o + 1) _ (h.setG hc v) ⟨_, heap_setCell_same w g o cur E v hc⟩
theorem type_setCells {E : TypeId} {g : Nat} : ∀ (vs : List Value) (o : Nat) (w : World), (∃ cur, w.heap[g]? = some (.cells cur E (0, 0))) → ∃ cur, (w.setCells g o vs).heap[g]? = some (.cells cur E (0, 0))
  | [], _, _, h => h
  | v :: r, o, w, ⟨cur, hc⟩ => type_setCells r (o + 1) _ ⟨_, heap_setCell_same w g o cur E v hc⟩
end Go.Proofs.Ytpdeodoidlcdoaa

/- slices.Delete at []mark.gap. -/
namespace Go.Proofs.Ytpdeodoidlcdoaa
open Go.RowKit

theorem zeroG (w : World) : (zeroValue 78).run Try.prog w = .ok (.agg #[.int .i64 0, .int .i64 0, .int .i64 0, .bool false]) w := by kernel_rfl
set_option maxRecDepth 100000 in
set_option maxHeartbeats 2000000 in
/-- slices.Delete of one element, out of what the caller has built. -/
theorem delG_any (w : World) (base : Nat) (l : List Evn) (v : Value) (hown : Own w base 78 4 encG v l) (i : Nat) (hi : i < l.length) :
    Calls Try.prog 49 #[v, .int .i64 i, .int .i64 ((i : Int) + 1)] w fun e w' => ∃ v', e = .returned v' ∧ Own w' base 78 4 encG v' (l.eraseIdx i) ∧ Below base w w' ∧ KeepT 78 w w' := by
  obtain ⟨g, cap, rfl, hg, hlt, hcap, hmax, hcell, hfro⟩ := hown.getk encG_len (by intro e; rw [e] at hi; simp at hi)
  unfold maxLen at hmax
  obtain ⟨i0, z0, hund, hi0, hz0, hz1, hz2, hz3, hz4, hz5⟩ := slGap
  obtain ⟨news, hnews⟩ : ∃ news, news = (l.drop (i + 1)).flatMap encG := ⟨_, rfl⟩
  have hlen : news.length = (l.length - (i + 1)) * 4 := by rw [hnews, flatMap_len encG_len, List.length_drop]
  have hall : ∀ j u, (l.flatMap encG)[j]? = some u → w.cell? ⟨g, j, none⟩ = some u := fun j u hu => by
    obtain ⟨y, hy, hyu⟩ := flatMap_at encG_len (by decide) hu
    have := hcell _ _ _ _ hy hyu
    rwa [show j / 4 * 4 + j % 4 = j by omega] at this
  have hnew : ∀ t u, news[t]? = some u → w.cell? ⟨g, (i + 1) * 4 + t, none⟩ = some u := fun t u hu => by
    refine hall _ _ ?_
    have e : l.flatMap encG = (l.take (i + 1)).flatMap encG ++ news := by rw [hnews, ← List.flatMap_append, List.take_append_drop]
    have e2 : ((l.take (i + 1)).flatMap encG).length = (i + 1) * 4 := by rw [flatMap_len encG_len, List.length_take, Nat.min_eq_left (by omega)]
    rw [e, List.getElem?_append_right (by omega), e2, Nat.add_sub_cancel_left]
    exact hu
  obtain ⟨A, hA, hsrc⟩ : ∃ A : Addr, (if cap = i + 1 then some (⟨g, 0, none⟩ : Addr) else some ⟨g, (i + 1) * 4, none⟩) = some A ∧ Hid (∀ t u, news[t]? = some u → w.drew.cell? (A.add t) = some u) := by
    by_cases h : cap = i + 1
    · refine ⟨⟨g, 0, none⟩, by simp [h], Lib.hid fun t u hu => ?_⟩
      have h0 : news.length = 0 := by rw [hlen]; have : l.length - (i + 1) = 0 := by omega
                                      rw [this, Nat.zero_mul]
      rw [List.length_eq_zero_iff.1 h0] at hu
      simp at hu
    · refine ⟨⟨g, (i + 1) * 4, none⟩, by simp [h], Lib.hid fun t u hu => ?_⟩
      have e : (⟨g, (i + 1) * 4, none⟩ : Addr).add t = ⟨g, (i + 1) * 4 + t, none⟩ := by unfold Addr.add; split <;> simp_all
      rw [e]
      exact hnew t u hu
  have s1 := Lib.hid hlen
  have s2 : Hid (∀ u ∈ news, u.oneCell' = true) := Lib.hid fun u hu => by
    rw [hnews, List.mem_flatMap] at hu
    obtain ⟨y, _, hu⟩ := hu
    exact List.all_eq_true.1 (show (encG y).all Value.oneCell' = true from rfl) u hu
  have hfl : (l.flatMap encG).length = l.length * 4 := flatMap_len encG_len l
  have hsome : ∀ j, j < l.length * 4 → (w.cell? ⟨g, j, none⟩).isSome = true := fun j hj => by
    rw [hall j _ (List.getElem?_eq_getElem (by rw [hfl]; exact hj))]; rfl
  have s3 : Hid (∀ t, t < news.length → (w.drew.cell? ⟨g, 0 + i * 4 + t, none⟩).isSome = true ∧ w.drew.frozen? ⟨g, 0 + i * 4 + t, none⟩ = false) := Lib.hid fun t ht => by
    rw [hlen] at ht
    exact ⟨hsome _ (by omega), hfro _⟩
  obtain ⟨W1, hW1⟩ : ∃ W1, W1 = w.drew.setCells g (0 + i * 4) news := ⟨_, rfl⟩
  have hcl : ∀ ty, (Builtin.clear_ #[73] ty #[.slice (some ⟨g, (i + (l.length - (i + 1))) * 4, none⟩) (l.length - (i + (l.length - (i + 1)))) (cap - (i + (l.length - (i + 1))))]).run Try.prog W1 = .ok (.tuple #[]) (W1.setCells g ((i + (l.length - (i + 1))) * 4) [.int .i64 0, .int .i64 0, .int .i64 0, .bool false]) := by
    intro ty
    rw [show l.length - (i + (l.length - (i + 1))) = 1 by omega]
    refine run_clear_one W1 _ _ ty _ [.int .i64 0, .int .i64 0, .int .i64 0, .bool false] hund zeroG rfl (fun v hv => List.all_eq_true.1 (show [.int .i64 0, .int .i64 0, .int .i64 0, .bool false].all Value.oneCell' = true from rfl) v hv) g _ _ (fun j hj => ?_) (fun j hj => ?_)
    · have hj' : j < 4 := hj
      rw [hW1]
      exact World.isSome_setCells g news _ w.drew _ (hsome _ (by omega))
    · rw [hW1, World.frozen?_setCells]
      exact hfro _
  have X : Aside (Own (W1.setCells g ((i + (l.length - (i + 1))) * 4) [.int .i64 0, .int .i64 0, .int .i64 0, .bool false]) base 78 4 encG (.slice (some ⟨g, 0, none⟩) (i + (l.length - (i + 1))) cap) (l.eraseIdx i)) := by
    show Own _ _ _ _ _ _ _
    have h := Own.erase (w := w.drew) encG_len hown hi [.int .i64 0, .int .i64 0, .int .i64 0, .bool false] rfl
    rw [← hnews] at h
    rw [hW1, Nat.zero_add, show i + (l.length - (i + 1)) = l.length - 1 by omega]
    exact h
  have Y : Aside (Below base w (W1.setCells g ((i + (l.length - (i + 1))) * 4) [.int .i64 0, .int .i64 0, .int .i64 0, .bool false])) := by
    show Below _ _ _
    rw [hW1]
    exact below_setCellsD hg _ _ _ (below_setCellsD hg _ _ _ ((Below.refl base w).drew))
  have Z : Aside (KeepT 78 w (W1.setCells g ((i + (l.length - (i + 1))) * 4) [.int .i64 0, .int .i64 0, .int .i64 0, .bool false])) := by
    show KeepT _ _ _
    obtain ⟨cur, hcur⟩ := Own.blk hown
    rw [hW1]
    exact keepT_setCells _ _ _ (keepT_setCells _ _ _ (KeepT.refl _ w) ⟨cur, hcur⟩) (type_setCells _ _ _ ⟨cur, hcur⟩)
  have hW := Lib.hid hW1
  have hic : i ≤ cap := by omega
  have hjc : i + 1 ≤ cap := by omega
  have hj1 : (0 : Int) ≤ (i : Int) + 1 := by omega
  have hj2 : (i : Int) + 1 ≤ (l.length : Int) := by omega
  clear hW1 hown hcell hfro hall hnew hsome hlen hnews hfl
  go_enter Try.func49, Try.ntmps49
  go_wp2_with fail
  go_region_law (refine step_append_room rfl (.tmp 22) (.tmp 25) 73 rfl 78 i0 4 hund hi0 hz1 g 0 i cap (by simp [Act.eval, Act.put]) A (l.length - (i + 1)) (cap - (i + 1)) news (by simp [Act.eval, Act.put]) s1.out hsrc.out s2.out (by omega) s3.out ?_; rw [← hW.out])
  go_wp2
  go_ret
  exact ⟨_, rfl, X.out, Y.out, Z.out⟩
end Go.Proofs.Ytpdeodoidlcdoaa

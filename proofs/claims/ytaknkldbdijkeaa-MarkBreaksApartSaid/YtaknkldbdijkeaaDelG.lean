/- slices.Delete at []mark.gap. -/
import Derived.Test.YtaknkldbdijkeaaFol
import Derived.Test.YtaknkldbdijkeaaDelK
import Derived.Deep.RegionLaw
import Derived.Deep.MidRow
namespace Go.Proofs.Ytaknkldbdijkeaa
open Go.RowKit

theorem zeroG (w : World) : (zeroValue 60).run Try.prog w = .ok (.agg #[.int .i64 0, .int .i64 0, .int .i64 0, .bool false]) w := by kernel_rfl
set_option maxHeartbeats 2000000 in
/-- slices.Delete of one element, out of what the caller has built. -/
theorem delG_any (w : World) (base : Nat) (l : List Evn) (v : Value) (hown : Own w base 60 4 encG v l) (i : Nat) (hi : i < l.length) :
    Calls Try.prog 42 #[v, .int .i64 i, .int .i64 ((i : Int) + 1)] w fun e w' => ∃ v', e = .returned v' ∧ Own w' base 60 4 encG v' (l.eraseIdx i) ∧ Below base w w' ∧ KeepT 60 w w' := by
  obtain ⟨g, cap, rfl, hg, hlt, hcap, hmax, hcell, hfro⟩ := hown.getk encG_len (by intro e; rw [e] at hi; simp at hi)
  unfold maxLen at hmax
  obtain ⟨i0, z0, hund, hi0, hz0, hz1, hz2, hz3, hz4, hz5⟩ := slGap
  obtain ⟨news, hnews⟩ : ∃ news, news = (l.drop (i + 1)).flatMap encG := ⟨_, rfl⟩
  have hlen : news.length = (l.length - (i + 1)) * 4 := by rw [hnews, flatMap_len encG_len, List.length_drop]
  have hall : ∀ j u, (l.flatMap encG)[j]? = some u → w.cell? ⟨g, j, none⟩ = some u := fun j u hu => by
    obtain ⟨y, hy, hyu⟩ := flatMap_at encG_len (by decide) hu
    have := hcell _ _ _ _ hy hyu
    rwa [show j / 4 * 4 + j % 4 = j by omega] at this
  have hnew : ∀ t u, news[t]? = some u → w.cell? ⟨g, (i + 1) * 4 + t, none⟩ = some u := fun t u hu => by
    refine hall _ _ ?_
    have e : l.flatMap encG = (l.take (i + 1)).flatMap encG ++ news := by rw [hnews, ← List.flatMap_append, List.take_append_drop]
    have e2 : ((l.take (i + 1)).flatMap encG).length = (i + 1) * 4 := by rw [flatMap_len encG_len, List.length_take, Nat.min_eq_left (by omega)]
    rw [e, List.getElem?_append_right (by omega), e2, Nat.add_sub_cancel_left]
    exact hu
  obtain ⟨A, hA, hsrc⟩ : ∃ A : Addr, (if cap = i + 1 then some (⟨g, 0, none⟩ : Addr) else some ⟨g, (i + 1) * 4, none⟩) = some A ∧ Hid (∀ t u, news[t]? = some u → w.drew.cell? (A.add t) = some u) := by
    by_cases h : cap = i + 1
    · refine ⟨⟨g, 0, none⟩, by simp [h], Lib.hid fun t u hu => ?_⟩
      have h0 : news.length = 0 := by rw [hlen]; have : l.length - (i + 1) = 0 := by omega
                                      rw [this, Nat.zero_mul]
      rw [List.length_eq_zero_iff.1 h0] at hu
      simp at hu
    · refine ⟨⟨g, (i + 1) * 4, none⟩, by simp [h], Lib.hid fun t u hu => ?_⟩
      have e : (⟨g, (i + 1) * 4, none⟩ : Addr).add t = ⟨g, (i + 1) * 4 + t, none⟩ := by unfold Addr.add; split <;> simp_all
      rw [e]
      exact hnew t u hu
  have s1 := Lib.hid hlen
  have s2 : Hid (∀ u ∈ news, u.oneCell' = true) := Lib.hid fun u hu => by
    rw [hnews, List.mem_flatMap] at hu
    obtain ⟨y, _, hu⟩ := hu
    exact List.all_eq_true.1 (show (encG y).all Value.oneCell' = true from rfl) u hu
  have hfl : (l.flatMap encG).length = l.length * 4 := flatMap_len encG_len l
  have hsome : ∀ j, j < l.length * 4 → (w.cell? ⟨g, j, none⟩).isSome = true := fun j hj => by
    rw [hall j _ (List.getElem?_eq_getElem (by rw [hfl]; exact hj))]; rfl
  have s3 : Hid (∀ t, t < news.length → (w.drew.cell? ⟨g, 0 + i * 4 + t, none⟩).isSome = true ∧ w.drew.frozen? ⟨g, 0 + i * 4 + t, none⟩ = false) := Lib.hid fun t ht => by
    rw [hlen] at ht
    exact ⟨hsome _ (by omega), hfro _⟩
  obtain ⟨W1, hW1⟩ : ∃ W1, W1 = w.drew.setCells g (0 + i * 4) news := ⟨_, rfl⟩
  have hcl : ∀ ty, (Builtin.clear_ #[55] ty #[.slice (some ⟨g, (i + (l.length - (i + 1))) * 4, none⟩) (l.length - (i + (l.length - (i + 1)))) (cap - (i + (l.length - (i + 1))))]).run Try.prog W1 = .ok (.tuple #[]) (W1.setCells g ((i + (l.length - (i + 1))) * 4) [.int .i64 0, .int .i64 0, .int .i64 0, .bool false]) := by
    intro ty
    rw [show l.length - (i + (l.length - (i + 1))) = 1 by omega]
    refine run_clear_one W1 _ _ ty _ [.int .i64 0, .int .i64 0, .int .i64 0, .bool false] hund zeroG rfl (fun v hv => List.all_eq_true.1 (show [.int .i64 0, .int .i64 0, .int .i64 0, .bool false].all Value.oneCell' = true from rfl) v hv) g _ _ (fun j hj => ?_) (fun j hj => ?_)
    · have hj' : j < 4 := hj
      rw [hW1]
      exact World.isSome_setCells g news _ w.drew _ (hsome _ (by omega))
    · rw [hW1, World.frozen?_setCells]
      exact hfro _
  have X : Aside (Own (W1.setCells g ((i + (l.length - (i + 1))) * 4) [.int .i64 0, .int .i64 0, .int .i64 0, .bool false]) base 60 4 encG (.slice (some ⟨g, 0, none⟩) (i + (l.length - (i + 1))) cap) (l.eraseIdx i)) := by
    show Own _ _ _ _ _ _ _
    have h := Own.erase (w := w.drew) encG_len hown hi [.int .i64 0, .int .i64 0, .int .i64 0, .bool false] rfl
    rw [← hnews] at h
    rw [hW1, Nat.zero_add, show i + (l.length - (i + 1)) = l.length - 1 by omega]
    exact h
  have Y : Aside (Below base w (W1.setCells g ((i + (l.length - (i + 1))) * 4) [.int .i64 0, .int .i64 0, .int .i64 0, .bool false])) := by
    show Below _ _ _
    rw [hW1]
    exact below_setCellsD hg _ _ _ (below_setCellsD hg _ _ _ ((Below.refl base w).drew))
  have Z : Aside (KeepT 60 w (W1.setCells g ((i + (l.length - (i + 1))) * 4) [.int .i64 0, .int .i64 0, .int .i64 0, .bool false])) := by
    show KeepT _ _ _
    obtain ⟨cur, hcur⟩ := Own.blk hown
    rw [hW1]
    exact keepT_setCells _ _ _ (keepT_setCells _ _ _ (KeepT.refl _ w) ⟨cur, hcur⟩) (type_setCells _ _ _ ⟨cur, hcur⟩)
  have hW := Lib.hid hW1
  have hic : i ≤ cap := by omega
  have hjc : i + 1 ≤ cap := by omega
  have hj1 : (0 : Int) ≤ (i : Int) + 1 := by omega
  have hj2 : (i : Int) + 1 ≤ (l.length : Int) := by omega
  clear hW1 hown hcell hfro hall hnew hsome hlen hnews hfl
  go_enter Try.func42, Try.ntmps42
  go_wp2_with fail
  go_region_law (refine step_append_room rfl (.tmp 22) (.tmp 25) 55 rfl 60 i0 4 hund hi0 hz1 g 0 i cap (by simp [Act.eval, Act.put]) A (l.length - (i + 1)) (cap - (i + 1)) news (by simp [Act.eval, Act.put]) s1.out hsrc.out s2.out (by omega) s3.out ?_; rw [← hW.out])
  go_wp2
  go_ret
  exact ⟨_, rfl, X.out, Y.out, Z.out⟩
end Go.Proofs.Ytaknkldbdijkeaa

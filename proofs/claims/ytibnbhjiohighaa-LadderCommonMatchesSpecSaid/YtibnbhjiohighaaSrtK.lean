/- slices.Sort and slices.Compact of ints that the call owns. -/
import Derived.Test.YtibnbhjiohighaaBstFK
import Derived.Test.YtibnbhjiohighaaCmpcK
import Derived.Ground.NamesProg
import Derived.Ground.Names2Prog
import Derived.Shelf.Lays
import Derived.Shelf.Lays2
import Derived.Shelf.Slices.In.SortNone
namespace Go.Proofs
open Go.Shelf
def Try.laysSort_ren : Go.Shelf.Ren := ⟨fun | 189 => 16 | 125 => 28 | 257 => 27 | 128 => 46 | 129 => 47 | 294 => 37 | 295 => 38 | 296 => 39 | 297 => 40 | 298 => 41 | 299 => 42 | 216 => 43 | 300 => 44 | 301 => 45 | 328 => 56 | 329 => 57 | 330 => 58 | 331 => 59 | 332 => 60 | 215 => 61 | 343 => 63 | n => n, fun | 28 => 23 | 3 => 3 | 46 => 59 | 0 => 0 | 51 => 75 | 53 => 77 | 4 => 4 | 183 => 67 | 182 => 66 | 131 => 72 | 5 => 5 | 9 => 9 | 218 => 83 | 222 => 87 | 228 => 91 | 229 => 92 | n => n, fun | n => n⟩
theorem Try.laysSort : Go.Proofs.Lays.n189 Try.prog Try.laysSort_ren := {
  mixed := by kernel_rfl
  f125 := Try.func28.trans (congrArg some (by kernel_rfl))
  f128 := Try.func46.trans (congrArg some (by kernel_rfl))
  f129 := Try.func47.trans (congrArg some (by kernel_rfl))
  f189 := Try.func16.trans (congrArg some (by kernel_rfl))
  f215 := Try.func61.trans (congrArg some (by kernel_rfl))
  f216 := Try.func43.trans (congrArg some (by kernel_rfl))
  f257 := Try.func27.trans (congrArg some (by kernel_rfl))
  f294 := Try.func37.trans (congrArg some (by kernel_rfl))
  f295 := Try.func38.trans (congrArg some (by kernel_rfl))
  f296 := Try.func39.trans (congrArg some (by kernel_rfl))
  f297 := Try.func40.trans (congrArg some (by kernel_rfl))
  f298 := Try.func41.trans (congrArg some (by kernel_rfl))
  f299 := Try.func42.trans (congrArg some (by kernel_rfl))
  f300 := Try.func44.trans (congrArg some (by kernel_rfl))
  f301 := Try.func45.trans (congrArg some (by kernel_rfl))
  f328 := Try.func56.trans (congrArg some (by kernel_rfl))
  f329 := Try.func57.trans (congrArg some (by kernel_rfl))
  f330 := Try.func58.trans (congrArg some (by kernel_rfl))
  f331 := Try.func59.trans (congrArg some (by kernel_rfl))
  f332 := Try.func60.trans (congrArg some (by kernel_rfl))
  f343 := Try.func63.trans (congrArg some (by kernel_rfl))
  t0 := Try.underlying0
  a0 := Try.isAgg0
  z0 := Try.sizeOf0
  v0 := Try.zeroValue0
  t3 := Try.underlying3
  a3 := Try.isAgg3
  z3 := Try.sizeOf3
  v3 := Try.zeroValue3
  t4 := Try.underlying4
  a4 := Try.isAgg4
  z4 := Try.sizeOf4
  v4 := Try.zeroValue4
  t5 := Try.underlying5
  a5 := Try.isAgg5
  z5 := Try.sizeOf5
  v5 := Try.zeroValue5
  t9 := Try.underlying9
  a9 := Try.isAgg9
  z9 := Try.sizeOf9
  v9 := Try.zeroValue9
  t28 := Try.underlying23
  a28 := Try.isAgg23
  z28 := Try.sizeOf23
  v28 := Try.zeroValue23
  t46 := Try.underlying59
  a46 := Try.isAgg59
  z46 := Try.sizeOf59
  v46 := Try.zeroValue59
  t51 := Try.underlying75
  a51 := Try.isAgg75
  z51 := Try.sizeOf75
  v51 := Try.zeroValue75
  t53 := Try.underlying77
  a53 := Try.isAgg77
  z53 := Try.sizeOf77
  v53 := Try.zeroValue77
  t131 := Try.underlying72
  a131 := Try.isAgg72
  z131 := Try.sizeOf72
  v131 := Try.zeroValue72
  t182 := Try.underlying66
  a182 := Try.isAgg66
  z182 := Try.sizeOf66
  v182 := Try.zeroValue66
  t183 := Try.underlying67
  a183 := Try.isAgg67
  z183 := Try.sizeOf67
  v183 := Try.zeroValue67
  t218 := Try.underlying83
  a218 := Try.isAgg83
  z218 := Try.sizeOf83
  v218 := Try.zeroValue83
  t222 := Try.underlying87
  a222 := Try.isAgg87
  z222 := Try.sizeOf87
  v222 := Try.zeroValue87
  t228 := Try.underlying91
  a228 := Try.isAgg91
  z228 := Try.sizeOf91
  v228 := Try.zeroValue91
  t229 := Try.underlying92
  a229 := Try.isAgg92
  z229 := Try.sizeOf92
  v229 := Try.zeroValue92 }
def Try.laysCompact_ren : Go.Shelf.Ren := ⟨fun | 20 => 17 | n => n, fun | 22 => 23 | 3 => 3 | 4 => 4 | 0 => 0 | n => n, fun | n => n⟩
theorem Try.laysCompact : Go.Proofs.Lays2.n20 Try.prog Try.laysCompact_ren := {
  mixed := by kernel_rfl
  f20 := Try.func17.trans (congrArg some (by kernel_rfl))
  t0 := Try.underlying0
  a0 := Try.isAgg0
  z0 := Try.sizeOf0
  v0 := Try.zeroValue0
  t3 := Try.underlying3
  a3 := Try.isAgg3
  z3 := Try.sizeOf3
  v3 := Try.zeroValue3
  t4 := Try.underlying4
  a4 := Try.isAgg4
  z4 := Try.sizeOf4
  v4 := Try.zeroValue4
  t22 := Try.underlying23
  a22 := Try.isAgg23
  z22 := Try.sizeOf23
  v22 := Try.zeroValue23
  i3 := by kernel_rfl }
end Go.Proofs

namespace Go.Proofs.Ytibnbhjiohighaa
open Go.RowKit Go.Shelf Go.Sort

theorem flatI (L : List Int) : L.flatMap encI = L.map (Value.int .i64) := by
  induction L with
  | nil => rfl
  | cons x r ih => rw [List.flatMap_cons, ih]; rfl
theorem holdsI {w : World} {base g cap : Nat} {L : List Int} (h : Own w base 3 1 encI (.slice (some ⟨g, 0, none⟩) L.length cap) L) : Holds (Value.int .i64) w g 0 L.toArray := by
  obtain ⟨_, h2⟩ := h
  rcases h2 with ⟨h2, _⟩ | ⟨g', cap', cur, hv, hg, hh, hn, hm, hs, ht⟩
  · cases h2
  · simp only [Value.slice.injEq, Option.some.injEq, Addr.mk.injEq, and_true] at hv
    obtain ⟨rfl, _, rfl⟩ := hv
    rw [Nat.mul_one, flatI] at ht
    exact holds_of_blockI hh ht

/-- slices.Sort of what the call owns. -/
theorem sort_own (w : World) (base g cap : Nat) (L : List Int) (h : Own w base 3 1 encI (.slice (some ⟨g, 0, none⟩) L.length cap) L) (hb : base ≤ w.heap.size) (hn : L.length ≤ 10000) :
    Calls Try.prog 16 #[.slice (some ⟨g, 0, none⟩) L.length cap] w fun e w' => e = .returned (.tuple #[]) ∧ Own w' base 3 1 encI (.slice (some ⟨g, 0, none⟩) L.length cap) (sortI L) ∧ Below base w w' := by
  have hlt := World.ownsRow.lt h g rfl
  have hlen := sortI_len L
  refine (Any.slices_Sort_int Try.laysSort g 0 cap L w (holdsI h) hlt.2 (by omega)).mono ?_
  rintro e w' ⟨rfl, nn, os, rfl⟩
  refine ⟨rfl, ?_, Below.grown (Below.refl base w) (grownBy_sortedI _) hb (fun k hk => by cases hk; exact hlt.1)⟩
  obtain ⟨_, h2⟩ := h
  rcases h2 with ⟨h2, _⟩ | ⟨g', cap', cur, hv, hg, hh, hn', hm, hs, ht⟩
  · cases h2
  · simp only [Value.slice.injEq, Option.some.injEq, Addr.mk.injEq, and_true] at hv
    obtain ⟨rfl, _, rfl⟩ := hv
    have := ownsRow_sortedI (n := nn) (os := os) (ts := sortI L) hlen hg hh hn' hm hs
    unfold Own
    rw [flatI, hlen]
    exact this
/-- slices.Compact of what the call owns. -/
theorem compact_own (w : World) (base g cap : Nat) (L : List Int) (h : Own w base 3 1 encI (.slice (some ⟨g, 0, none⟩) L.length cap) L) (hc : L.length ≤ cap) (hn : L.length ≤ 10000) :
    Calls Try.prog 17 #[.slice (some ⟨g, 0, none⟩) L.length cap] w fun e w' => e = .returned (.slice (some ⟨g, 0, none⟩) (Lib.compact L).length cap) ∧ Own w' base 3 1 encI (.slice (some ⟨g, 0, none⟩) (Lib.compact L).length cap) (Lib.compact L) ∧ Below base w w' := by
  have hlt := World.ownsRow.lt h g rfl
  have hle := cpt_len L
  refine (Any.slices_Compact_int Try.laysCompact g 0 cap L w (holdsI h) (by omega) hc).mono ?_
  rintro e w' ⟨rfl, q, rfl⟩
  have h' : w.ownsRow base 3 1 (.slice (some ⟨g, 0, none⟩) L.length cap) L.length (L.map (Value.int .i64)) := by
    have := h
    unfold Own at this
    rw [flatI] at this
    exact this
  have hr := Lib.ownsRow_putRow (q := q) (k := (Lib.compact L).length) (ys := Lib.compact L ++ List.replicate (L.length - (Lib.compact L).length) 0) h' (by simp; omega) hle
  rw [List.take_left] at hr
  refine ⟨rfl, ?_, Lib.below_putRow (Below.refl base w) hlt.1⟩
  unfold Own
  rw [flatI]
  exact hr

theorem compact_nil : Lib.compact ([] : List Int) = [] := rfl
theorem sortI_nil : sortI [] = [] := by simp [sortI]
/-- slices.Sort of what the call owns, nil too. -/
theorem sortO (w : World) (base : Nat) (v : Value) (L : List Int) (h : Own w base 3 1 encI v L) (hb : base ≤ w.heap.size) (hn : L.length ≤ 10000) :
    Calls Try.prog 16 #[v] w fun e w' => e = .returned (.tuple #[]) ∧ Own w' base 3 1 encI v (sortI L) ∧ Below base w w' := by
  by_cases hL : L = []
  · subst hL
    obtain ⟨ao, cap, rfl, _⟩ := h.sl encI_len
    exact (Any.slices_Sort_int_none Try.laysSort ao cap w).mono fun e w' ⟨h1, h2⟩ => by
      subst h2
      exact ⟨h1, by rw [sortI_nil]; exact h, Below.refl _ _⟩
  · obtain ⟨g, cap, rfl, _⟩ := Own.getk encI_len h hL
    exact sort_own w base g cap L h hb hn
/-- slices.Compact of what the call owns, nil too. -/
theorem compactO (w : World) (base : Nat) (v : Value) (L : List Int) (h : Own w base 3 1 encI v L) (hn : L.length ≤ 10000) :
    Calls Try.prog 17 #[v] w fun e w' => ∃ v', e = .returned v' ∧ Own w' base 3 1 encI v' (Lib.compact L) ∧ Below base w w' := by
  by_cases hL : L = []
  · subst hL
    obtain ⟨ao, cap, rfl, _⟩ := h.sl encI_len
    exact (Any.slices_Compact_int_empty Try.laysCompact ao cap w).mono fun e w' ⟨h1, h2⟩ => by
      subst h2
      exact ⟨_, h1, by rw [compact_nil]; exact h, Below.refl _ _⟩
  · obtain ⟨g, cap, rfl, _, _, hc, _⟩ := Own.getk encI_len h hL
    exact (compact_own w base g cap L h hc hn).mono fun e w' ⟨h1, h2, h3⟩ => ⟨_, h1, h2, h3⟩
end Go.Proofs.Ytibnbhjiohighaa

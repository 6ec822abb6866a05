/- Choice of the reference. -/
import Derived.Test.YtfkmdojnkdoffaaSomB
import Derived.Test.YtfkmdojnkdoffaaCmpc
import Derived.Ground.NamesProg
import Derived.Ground.Names2Prog
import Derived.Shelf.Lays
import Derived.Shelf.Lays2
namespace Go.Proofs
open Go.Shelf
def Try.laysSort_ren : Go.Shelf.Ren := ⟨fun | 189 => 36 | 125 => 51 | 257 => 50 | 128 => 69 | 129 => 70 | 294 => 60 | 295 => 61 | 296 => 62 | 297 => 63 | 298 => 64 | 299 => 65 | 216 => 66 | 300 => 67 | 301 => 68 | 328 => 73 | 329 => 74 | 330 => 75 | 331 => 76 | 332 => 77 | 215 => 78 | 343 => 79 | n => n, fun | 28 => 24 | 3 => 3 | 46 => 81 | 0 => 0 | 51 => 97 | 53 => 99 | 4 => 4 | 183 => 90 | 182 => 89 | 131 => 86 | 5 => 5 | 9 => 9 | 218 => 102 | 222 => 106 | 228 => 108 | 229 => 109 | n => n, fun | n => n⟩
theorem Try.laysSort : Go.Proofs.Lays.n189 Try.prog Try.laysSort_ren := {
  mixed := by kernel_rfl
  f125 := Try.func51.trans (congrArg some (by kernel_rfl))
  f128 := Try.func69.trans (congrArg some (by kernel_rfl))
  f129 := Try.func70.trans (congrArg some (by kernel_rfl))
  f189 := Try.func36.trans (congrArg some (by kernel_rfl))
  f215 := Try.func78.trans (congrArg some (by kernel_rfl))
  f216 := Try.func66.trans (congrArg some (by kernel_rfl))
  f257 := Try.func50.trans (congrArg some (by kernel_rfl))
  f294 := Try.func60.trans (congrArg some (by kernel_rfl))
  f295 := Try.func61.trans (congrArg some (by kernel_rfl))
  f296 := Try.func62.trans (congrArg some (by kernel_rfl))
  f297 := Try.func63.trans (congrArg some (by kernel_rfl))
  f298 := Try.func64.trans (congrArg some (by kernel_rfl))
  f299 := Try.func65.trans (congrArg some (by kernel_rfl))
  f300 := Try.func67.trans (congrArg some (by kernel_rfl))
  f301 := Try.func68.trans (congrArg some (by kernel_rfl))
  f328 := Try.func73.trans (congrArg some (by kernel_rfl))
  f329 := Try.func74.trans (congrArg some (by kernel_rfl))
  f330 := Try.func75.trans (congrArg some (by kernel_rfl))
  f331 := Try.func76.trans (congrArg some (by kernel_rfl))
  f332 := Try.func77.trans (congrArg some (by kernel_rfl))
  f343 := Try.func79.trans (congrArg some (by kernel_rfl))
  t0 := Try.underlying0
  a0 := Try.isAgg0
  z0 := Try.sizeOf0
  v0 := Try.zeroValue0
  t3 := Try.underlying3
  a3 := Try.isAgg3
  z3 := Try.sizeOf3
  v3 := Try.zeroValue3
  t4 := Try.underlying4
  a4 := Try.isAgg4
  z4 := Try.sizeOf4
  v4 := Try.zeroValue4
  t5 := Try.underlying5
  a5 := Try.isAgg5
  z5 := Try.sizeOf5
  v5 := Try.zeroValue5
  t9 := Try.underlying9
  a9 := Try.isAgg9
  z9 := Try.sizeOf9
  v9 := Try.zeroValue9
  t28 := Try.underlying24
  a28 := Try.isAgg24
  z28 := Try.sizeOf24
  v28 := Try.zeroValue24
  t46 := Try.underlying81
  a46 := Try.isAgg81
  z46 := Try.sizeOf81
  v46 := Try.zeroValue81
  t51 := Try.underlying97
  a51 := Try.isAgg97
  z51 := Try.sizeOf97
  v51 := Try.zeroValue97
  t53 := Try.underlying99
  a53 := Try.isAgg99
  z53 := Try.sizeOf99
  v53 := Try.zeroValue99
  t131 := Try.underlying86
  a131 := Try.isAgg86
  z131 := Try.sizeOf86
  v131 := Try.zeroValue86
  t182 := Try.underlying89
  a182 := Try.isAgg89
  z182 := Try.sizeOf89
  v182 := Try.zeroValue89
  t183 := Try.underlying90
  a183 := Try.isAgg90
  z183 := Try.sizeOf90
  v183 := Try.zeroValue90
  t218 := Try.underlying102
  a218 := Try.isAgg102
  z218 := Try.sizeOf102
  v218 := Try.zeroValue102
  t222 := Try.underlying106
  a222 := Try.isAgg106
  z222 := Try.sizeOf106
  v222 := Try.zeroValue106
  t228 := Try.underlying108
  a228 := Try.isAgg108
  z228 := Try.sizeOf108
  v228 := Try.zeroValue108
  t229 := Try.underlying109
  a229 := Try.isAgg109
  z229 := Try.sizeOf109
  v229 := Try.zeroValue109 }
def Try.laysCompact_ren : Go.Shelf.Ren := ⟨fun | 20 => 37 | n => n, fun | 22 => 24 | 3 => 3 | 4 => 4 | 0 => 0 | n => n, fun | n => n⟩
theorem Try.laysCompact : Go.Proofs.Lays2.n20 Try.prog Try.laysCompact_ren := {
  mixed := by kernel_rfl
  f20 := Try.func37.trans (congrArg some (by kernel_rfl))
  t0 := Try.underlying0
  a0 := Try.isAgg0
  z0 := Try.sizeOf0
  v0 := Try.zeroValue0
  t3 := Try.underlying3
  a3 := Try.isAgg3
  z3 := Try.sizeOf3
  v3 := Try.zeroValue3
  t4 := Try.underlying4
  a4 := Try.isAgg4
  z4 := Try.sizeOf4
  v4 := Try.zeroValue4
  t22 := Try.underlying24
  a22 := Try.isAgg24
  z22 := Try.sizeOf24
  v22 := Try.zeroValue24
  i3 := by kernel_rfl }
end Go.Proofs

namespace Go.Proofs.Ytfkmdojnkdoffaa
open Go.RowKit Go.Shelf Go.Sort

theorem flatI (L : List Int) : L.flatMap encI = L.map (Value.int .i64) := by
  induction L with
  | nil => rfl
  | cons x r ih => rw [List.flatMap_cons, ih]; rfl
theorem holdsI {w : World} {base g cap : Nat} {L : List Int} (h : Own w base 3 1 encI (.slice (some ⟨g, 0, none⟩) L.length cap) L) : Holds (Value.int .i64) w g 0 L.toArray := by
  obtain ⟨_, h2⟩ := h
  rcases h2 with ⟨h2, _⟩ | ⟨g', cap', cur, hv, hg, hh, hn, hm, hs, ht⟩
  · cases h2
  · simp only [Value.slice.injEq, Option.some.injEq, Addr.mk.injEq, and_true] at hv
    obtain ⟨rfl, _, rfl⟩ := hv
    rw [Nat.mul_one, flatI] at ht
    exact holds_of_blockI hh ht

/-- slices.Sort of what the call owns. -/
theorem sort_own (w : World) (base g cap : Nat) (L : List Int) (h : Own w base 3 1 encI (.slice (some ⟨g, 0, none⟩) L.length cap) L) (hb : base ≤ w.heap.size) (hn : L.length ≤ 1000) :
    Calls Try.prog 36 #[.slice (some ⟨g, 0, none⟩) L.length cap] w fun e w' => e = .returned (.tuple #[]) ∧ Own w' base 3 1 encI (.slice (some ⟨g, 0, none⟩) L.length cap) (sortI L) ∧ Below base w w' := by
  have hlt := World.ownsRow.lt h g rfl
  have hlen := sortI_len L
  refine (Any.slices_Sort_int Try.laysSort g 0 cap L w (holdsI h) hlt.2 (by omega)).mono ?_
  rintro e w' ⟨rfl, nn, os, rfl⟩
  refine ⟨rfl, ?_, Below.grown (Below.refl base w) (grownBy_sortedI _) hb (fun k hk => by cases hk; exact hlt.1)⟩
  obtain ⟨_, h2⟩ := h
  rcases h2 with ⟨h2, _⟩ | ⟨g', cap', cur, hv, hg, hh, hn', hm, hs, ht⟩
  · cases h2
  · simp only [Value.slice.injEq, Option.some.injEq, Addr.mk.injEq, and_true] at hv
    obtain ⟨rfl, _, rfl⟩ := hv
    have := ownsRow_sortedI (n := nn) (os := os) (ts := sortI L) hlen hg hh hn' hm hs
    unfold Own
    rw [flatI, hlen]
    exact this
/-- slices.Compact of what the call owns. -/
theorem compact_own (w : World) (base g cap : Nat) (L : List Int) (h : Own w base 3 1 encI (.slice (some ⟨g, 0, none⟩) L.length cap) L) (hc : L.length ≤ cap) (hn : L.length ≤ 1000) :
    Calls Try.prog 37 #[.slice (some ⟨g, 0, none⟩) L.length cap] w fun e w' => e = .returned (.slice (some ⟨g, 0, none⟩) (Lib.compact L).length cap) ∧ Own w' base 3 1 encI (.slice (some ⟨g, 0, none⟩) (Lib.compact L).length cap) (Lib.compact L) ∧ Below base w w' := by
  have hlt := World.ownsRow.lt h g rfl
  have hle := cpt_len L
  refine (Any.slices_Compact_int Try.laysCompact g 0 cap L w (holdsI h) (by omega) hc).mono ?_
  rintro e w' ⟨rfl, q, rfl⟩
  have h' : w.ownsRow base 3 1 (.slice (some ⟨g, 0, none⟩) L.length cap) L.length (L.map (Value.int .i64)) := by
    have := h
    unfold Own at this
    rw [flatI] at this
    exact this
  have hr := Lib.ownsRow_putRow (q := q) (k := (Lib.compact L).length) (ys := Lib.compact L ++ List.replicate (L.length - (Lib.compact L).length) 0) h' (by simp; omega) hle
  rw [List.take_left] at hr
  refine ⟨rfl, ?_, Lib.below_putRow (Below.refl base w) hlt.1⟩
  unfold Own
  rw [flatI]
  exact hr

theorem OwnC {w : World} {base : Nat} {v : Value} {C : List Int} (h : Own w base 3 1 encI v C) (hne : C ≠ []) : ∃ g cap, v = .slice (some ⟨g, 0, none⟩) C.length cap ∧ C.length ≤ cap := by
  obtain ⟨g, cap, e, _, _, hc, _⟩ := Own.getk encI_len h hne
  exact ⟨g, cap, e, hc⟩
/-- Some choice. -/
def ChcP (w : World) (n m : Nat) : Ending → World → Prop := fun e w' => ∃ v C, e = .returned v ∧ Sl w' 1 encI v C ∧ okW n m C ∧ Below w.heap.size w w'

set_option maxRecDepth 100000 in
set_option maxHeartbeats 4000000 in
theorem choiceR_any (w : World) (O : List Int) (v : Value) (n m : Nat) (hO : Sl w 1 encI v O) (hx : ∀ x, x ∈ O → -9223372036854775808 ≤ x ∧ x ≤ 9223372036854775807) (hn : n ≤ 1000) (hm : m ≤ 900) :
    Calls Try.prog 16 #[v, .int .i64 n, .int .i64 m] w (ChcP w n m) := by
  obtain ⟨bo, bap, rfl, hbap, hbax, hbil, hem⟩ := hO
  unfold maxLen at hbax
  have HEM := Lib.hid hem
  have HX := Lib.hid hx
  have HB0 := Lib.hid (Below.refl w.heap.size w)
  clear hem hbil hx
  go_enter Try.func16, Try.ntmps16
  go_wp2
  go_loopg [7, 9, 12] O.length (fun gg s7 _ s12 wr => ∃ (k : Nat) (C : List Int), k ≤ O.length ∧ O.length - k ≤ gg ∧ s12 = .int .i64 k ∧ Aside (Own wr w.heap.size 3 1 encI s7 C) ∧ Aside (okW n m C) ∧ Aside (Below w.heap.size w wr))
  case atStart => exact ⟨0, [], Nat.zero_le _, by omega, by go_num, Own.nil, okW_nil n m, HB0.out⟩
  obtain ⟨k, C, hk, hg, rfl, OW, OK, BW⟩ := hrel
  have HOW := Lib.hid OW.out
  have HOK := Lib.hid OK.out
  have HBW := Lib.hid BW.out
  have hszw := BW.out.size
  clear OW OK BW
  by_cases hlt : k < O.length
  · have hltz : (k : Int) < (O.length : Int) := by omega
    obtain ⟨z, hz⟩ : ∃ z, O[k]? = some z := ⟨O[k], by simp [hlt]⟩
    have hzr := HX.out z (List.mem_of_getElem? hz)
    obtain ⟨b2, off2, hbo, hd⟩ := HEM.out k _ hz
    subst hbo
    have hblt2 : b2 < w.heap.size := World.block_lt_of_cell? w ⟨b2, off2 + k * 1 + 0, none⟩ (hd 0 _ rfl)
    have d0 : wr.cell? ⟨b2, off2 + k, none⟩ = some (.int .i64 z) := by simpa using (HBW.out.cell (p := ⟨b2, off2 + k * 1 + 0, none⟩) hblt2).trans (hd 0 _ rfl)
    have hbw2 : b2 < wr.heap.size := by omega
    have hlm := HOK.out.len
    obtain ⟨ao, cp, rfl, _, hcm, _, _⟩ := Own.sl HOW.out encI_len
    clear hz hd
    by_cases hgo : 0 < n ∧ C.length < m
    case neg =>
      by_cases hn0 : 0 < n
      · have hn0z : (0 : Int) < (n : Int) := by omega
        have hcz : ¬ (C.length : Int) < (m : Int) := by omega
        clear hgo
        go_wp2
        go_roundg (O.length - (k + 1))
        case measure => omega
        case rel => exact ⟨k + 1, C, by omega, by omega, by go_num, HOW.out, HOK.out, HBW.out⟩
      · obtain rfl : n = 0 := by omega
        clear hgo hn0
        go_wp2
        go_roundg (O.length - (k + 1))
        case measure => omega
        case rel => exact ⟨k + 1, C, by omega, by omega, by go_num, HOW.out, HOK.out, HBW.out⟩
    obtain ⟨hn0, hcl⟩ := hgo
    have hn0z : (0 : Int) < (n : Int) := by omega
    have hcz : (C.length : Int) < (m : Int) := by omega
    have hnl : (C.length + 1) * 8 ≤ 140737488355328 := by omega
    go_wp2_with fail
    refine (below_any z n _ (by omega) (by omega) hzr).mono ?_
    rintro e w2 ⟨⟨y, rfl, hy0, hy1⟩, rfl⟩
    have HNX := Lib.hid (okW_more HOK.out ⟨hy0, hy1⟩ hcl)
    go_wp2_with (at_builtin; refine wpList_push rfl _ _ 24 rfl slI rfl rfl y rfl rfl rfl HOW.out rfl hnl hszw ?_; intro v8 w8 ho8 hb8; obtain ⟨g, cap, rfl, hgc⟩ := OwnC ho8 (by simp); have HO8 := Lib.hid ho8; have HB8 := Lib.hid (HBW.out.trans hb8); clear ho8 hb8)
    have hLn : (C ++ [y]).length ≤ 1000 := by simp; omega
    have HLC : Hid ((C ++ [y]).length = C.length + 1) := Lib.hid (by simp)
    generalize C ++ [y] = L at HO8 HNX hLn hgc HLC
    have HSO := Lib.hid (sort_own w8 w.heap.size g cap L HO8.out HB8.out.size hLn)
    rw [HLC.out] at HSO
    have HSL := Lib.hid (sortI_len L)
    (with_reducible refine HSO.out.mono ?_)
    rintro e w9 ⟨rfl, ho9, hb9⟩
    have HB9 := Lib.hid (HB8.out.trans hb9)
    rw [← HLC.out, ← HSL.out] at ho9
    rw [← HSL.out] at hgc hLn
    have HCO := Lib.hid (compact_own w9 w.heap.size g cap (sortI L) ho9 hgc hLn)
    rw [HSL.out, HLC.out] at HCO
    clear ho9 hb9 HSO hgc hLn HSL
    generalize sortI L = S at HCO HNX
    go_wp2_with fail
    (with_reducible refine HCO.out.mono ?_)
    rintro e w10 ⟨rfl, ho10, hb10⟩
    have HO10 := Lib.hid ho10
    have HB10 := Lib.hid (HB9.out.trans hb10)
    clear ho10 hb10 HCO
    generalize Lib.compact S = C2 at HO10 HNX ⊢
    go_wp2
    go_roundg (O.length - (k + 1))
    case measure => omega
    case rel => exact ⟨k + 1, C2, by omega, by omega, by go_num, HO10.out, HNX.out, HB10.out⟩
  · obtain rfl : k = O.length := by omega
    have hltz : ¬ (O.length : Int) < (O.length : Int) := by omega
    go_wp2
    go_ret
    exact ⟨_, C, rfl, HOW.out.sl encI_len, HOK.out, HBW.out⟩
end Go.Proofs.Ytfkmdojnkdoffaa

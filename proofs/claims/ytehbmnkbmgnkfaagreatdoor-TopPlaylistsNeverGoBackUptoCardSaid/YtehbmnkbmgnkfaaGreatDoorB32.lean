/- Contracts of the library, laid by the shelf at this seat. -/
import Derived.Shelf.Strings.Builder1
import Derived.Shelf.Strings.OnBuilder
import Derived.Shelf.Strconv.Itoa3
import Derived.Shelf.Bits.Mul64
import Derived.Shelf.SlGeneric
import Derived.Test.YtehbmnkbmgnkfaaGreatDoorProg
import Derived.Test.YtehbmnkbmgnkfaaGreatDoorB02
import Derived.Lib.ItoaLen
import Derived.Deep.RegionHeld3
namespace Go.Proofs
open Go.Shelf
def Tryz.lays169_ren : Go.Shelf.Ren := ⟨fun | 169 => 29 | n => n, fun | 70 => 84 | 9 => 9 | 0 => 0 | 72 => 87 | 37 => 85 | 127 => 123 | 3 => 3 | 5 => 5 | n => n, fun | n => n⟩
theorem Tryz.lays169 : Go.Proofs.Lays.n169 Tryz.prog Tryz.lays169_ren := {
  mixed := by kernel_rfl
  f169 := Tryz.func29.trans (congrArg some (by kernel_rfl))
  t0 := Tryz.underlying0
  a0 := Tryz.isAgg0
  z0 := Tryz.sizeOf0
  v0 := Tryz.zeroValue0
  t3 := Tryz.underlying3
  a3 := Tryz.isAgg3
  z3 := Tryz.sizeOf3
  v3 := Tryz.zeroValue3
  t9 := Tryz.underlying9
  a9 := Tryz.isAgg9
  z9 := Tryz.sizeOf9
  v9 := Tryz.zeroValue9
  t37 := Tryz.underlying85
  a37 := Tryz.isAgg85
  z37 := Tryz.sizeOf85
  v37 := Tryz.zeroValue85
  t70 := Tryz.underlying84
  a70 := Tryz.isAgg84
  z70 := Tryz.sizeOf84
  v70 := Tryz.zeroValue84
  t72 := Tryz.underlying87
  a72 := Tryz.isAgg87
  z72 := Tryz.sizeOf87
  v72 := Tryz.zeroValue87
  t127 := Tryz.underlying123
  a127 := Tryz.isAgg123
  z127 := Tryz.sizeOf123
  v127 := Tryz.zeroValue123 }
def Tryz.lays171_ren : Go.Shelf.Ren := ⟨fun | 171 => 25 | 243 => 50 | 246 => 78 | 283 => 98 | 284 => 99 | 285 => 100 | 286 => 101 | 129 => 109 | 317 => 108 | 318 => 110 | 319 => 111 | 320 => 112 | 337 => 113 | 338 => 114 | n => n, fun | 3 => 3 | 9 => 9 | 2 => 2 | 4 => 4 | 171 => 190 | 0 => 0 | 53 => 162 | 37 => 85 | 5 => 5 | 173 => 193 | 212 => 203 | 51 => 204 | 20 => 20 | 213 => 205 | 46 => 195 | 232 => 208 | 233 => 209 | n => n, fun | 17 => 2 | 18 => 3 | 19 => 4 | n => n⟩
theorem Tryz.lays171 : Go.Proofs.LaysM.n171 Tryz.prog Tryz.lays171_ren := {
  mixed := by kernel_rfl
  f129 := Tryz.func109.trans (congrArg some (by kernel_rfl))
  f171 := Tryz.func25.trans (congrArg some (by kernel_rfl))
  f243 := Tryz.func50.trans (congrArg some (by kernel_rfl))
  f246 := Tryz.func78.trans (congrArg some (by kernel_rfl))
  f283 := Tryz.func98.trans (congrArg some (by kernel_rfl))
  f284 := Tryz.func99.trans (congrArg some (by kernel_rfl))
  f285 := Tryz.func100.trans (congrArg some (by kernel_rfl))
  f286 := Tryz.func101.trans (congrArg some (by kernel_rfl))
  f317 := Tryz.func108.trans (congrArg some (by kernel_rfl))
  f318 := Tryz.func110.trans (congrArg some (by kernel_rfl))
  f319 := Tryz.func111.trans (congrArg some (by kernel_rfl))
  f320 := Tryz.func112.trans (congrArg some (by kernel_rfl))
  f337 := Tryz.func113.trans (congrArg some (by kernel_rfl))
  f338 := Tryz.func114.trans (congrArg some (by kernel_rfl))
  t0 := Tryz.underlying0
  a0 := Tryz.isAgg0
  z0 := Tryz.sizeOf0
  v0 := Tryz.zeroValue0
  t2 := Tryz.underlying2
  a2 := Tryz.isAgg2
  z2 := Tryz.sizeOf2
  v2 := Tryz.zeroValue2
  t3 := Tryz.underlying3
  a3 := Tryz.isAgg3
  z3 := Tryz.sizeOf3
  v3 := Tryz.zeroValue3
  t4 := Tryz.underlying4
  a4 := Tryz.isAgg4
  z4 := Tryz.sizeOf4
  v4 := Tryz.zeroValue4
  t5 := Tryz.underlying5
  a5 := Tryz.isAgg5
  z5 := Tryz.sizeOf5
  v5 := Tryz.zeroValue5
  t9 := Tryz.underlying9
  a9 := Tryz.isAgg9
  z9 := Tryz.sizeOf9
  v9 := Tryz.zeroValue9
  t20 := Tryz.underlying20
  a20 := Tryz.isAgg20
  z20 := Tryz.sizeOf20
  v20 := Tryz.zeroValue20
  t37 := Tryz.underlying85
  a37 := Tryz.isAgg85
  z37 := Tryz.sizeOf85
  v37 := Tryz.zeroValue85
  t46 := Tryz.underlying195
  a46 := Tryz.isAgg195
  z46 := Tryz.sizeOf195
  v46 := Tryz.zeroValue195
  t51 := Tryz.underlying204
  a51 := Tryz.isAgg204
  z51 := Tryz.sizeOf204
  v51 := Tryz.zeroValue204
  t53 := Tryz.underlying162
  a53 := Tryz.isAgg162
  z53 := Tryz.sizeOf162
  v53 := Tryz.zeroValue162
  t171 := Tryz.underlying190
  a171 := Tryz.isAgg190
  z171 := Tryz.sizeOf190
  v171 := Tryz.zeroValue190
  t173 := Tryz.underlying193
  a173 := Tryz.isAgg193
  z173 := Tryz.sizeOf193
  v173 := Tryz.zeroValue193
  t212 := Tryz.underlying203
  a212 := Tryz.isAgg203
  z212 := Tryz.sizeOf203
  v212 := Tryz.zeroValue203
  t213 := Tryz.underlying205
  a213 := Tryz.isAgg205
  z213 := Tryz.sizeOf205
  t232 := Tryz.underlying208
  a232 := Tryz.isAgg208
  z232 := Tryz.sizeOf208
  v232 := Tryz.zeroValue208
  t233 := Tryz.underlying209
  a233 := Tryz.isAgg209
  z233 := Tryz.sizeOf209
  v233 := Tryz.zeroValue209
  g17 := by kernel_rfl
  g18 := by kernel_rfl
  g19 := by kernel_rfl
  i0 := by kernel_rfl
  i2 := by kernel_rfl
  i3 := by kernel_rfl
  i4 := by kernel_rfl
  i5 := by kernel_rfl
  i9 := by kernel_rfl
  i20 := by kernel_rfl
  i37 := by kernel_rfl
  i46 := by kernel_rfl
  i51 := by kernel_rfl
  i53 := by kernel_rfl
  i171 := by kernel_rfl
  i173 := by kernel_rfl
  i212 := by kernel_rfl
  i232 := by kernel_rfl
  i233 := by kernel_rfl
  m17 := by kernel_rfl
  m18 := by kernel_rfl
  m19 := by kernel_rfl }
def Tryz.lays264_ren : Go.Shelf.Ren := ⟨fun | 264 => 80 | n => n, fun | 53 => 162 | 46 => 195 | n => n, fun | n => n⟩
theorem Tryz.lays264 : Go.Proofs.Lays.n264 Tryz.prog Tryz.lays264_ren := {
  mixed := by kernel_rfl
  f264 := Tryz.func80.trans (congrArg some (by kernel_rfl))
  t46 := Tryz.underlying195
  a46 := Tryz.isAgg195
  z46 := Tryz.sizeOf195
  v46 := Tryz.zeroValue195
  t53 := Tryz.underlying162
  a53 := Tryz.isAgg162
  z53 := Tryz.sizeOf162
  v53 := Tryz.zeroValue162 }
end Go.Proofs

/- Numbers and dates as texts: how long they are. -/
namespace Go.Proofs.YtehbmnkbmgnkfaaGreatDoor
open Go.RowKit Go.Lib Go.Shelf

theorem itoa_any (n : Int) (w : World) (h0 : -9223372036854775808 ≤ n) (h1 : n ≤ 9223372036854775807) (ht : TabIs Tryz.prog w "internal/strconv.uint64pow10" .u64 pow10Tab) :
    Calls Tryz.prog 25 #[.int .i64 n] w fun e w' => e = .returned (.string ⟨(itoa n).toArray⟩) ∧ ∃ k os, w' = Sort.grow (w.drewN k) os := Any.strconv_Itoa Tryz.lays171 n h0 h1 w ht
theorem tab_below {w w' : World} {zs : List Int} (h : TabIs Tryz.prog w "internal/strconv.uint64pow10" .u64 zs) (hb : Below w.heap.size w w') : TabIs Tryz.prog w' "internal/strconv.uint64pow10" .u64 zs := by
  unfold TabIs World.var? at *
  cases hg : Tryz.prog.globalNamed "internal/strconv.uint64pow10" with
  | none => simp [hg] at h
  | some g =>
    simp only [hg, Option.bind_some] at h ⊢
    have hlt : g < w.heap.size := by
      rcases Nat.lt_or_ge g w.heap.size with h' | h'
      · exact h'
      · rw [Array.getElem?_eq_none h'] at h; simp at h
    rw [hb.block g hlt]
    exact h
theorem below_grow {w w' : World} (h : Below w.heap.size w w') (n : Nat) (os : Array Obj) : Below w.heap.size w (Sort.grow (w'.drewN n) os) :=
  ⟨h.os, h.tape, h.output, by show w.heap.size ≤ _; simp only [Sort.grow, Array.size_append]; exact Nat.le_trans h.size (Nat.le_add_right _ _), fun k hk => by
    rw [Sort.heap_grow_old (w'.drewN n) os (by exact Nat.lt_of_lt_of_le hk h.size)]
    exact h.block k hk⟩
abbrev TabW (w : World) : Prop := TabIs Tryz.prog w "internal/strconv.uint64pow10" .u64 pow10Tab
/-- A number as a text: how long. -/
theorem itoaS_any (n : Int) (w : World) (h0 : -9223372036854775808 ≤ n) (h1 : n ≤ 9223372036854775807) (ht : TabW w) :
    Calls Tryz.prog 25 #[.int .i64 n] w fun e w' => ∃ s : ByteArray, e = .returned (.string s) ∧ s.size ≤ 21 ∧ Below w.heap.size w w' := by
  refine (itoa_any n w h0 h1 ht).mono ?_
  rintro e w' ⟨rfl, k, os, rfl⟩
  exact ⟨_, rfl, itoa_length_le n h0 h1, below_grow (Below.refl _ _) k os⟩

set_option maxHeartbeats 1000000 in
theorem leap_any (y : Int) (w : World) (hy : 0 ≤ y) : Calls Tryz.prog 79 #[.int .i64 y] w fun e w' => (∃ b, e = .returned (.bool b)) ∧ w = w' := by
  by_cases h4 : y % 4 = 0
  · by_cases h1 : y % 100 = 0
    · by_cases h2 : y % 400 = 0
      · go_enter Tryz.func79, Tryz.ntmps79
        go_wp2
        go_ret
        exact ⟨⟨_, rfl⟩, rfl⟩
      · go_enter Tryz.func79, Tryz.ntmps79
        go_wp2
        go_ret
        exact ⟨⟨_, rfl⟩, rfl⟩
    · go_enter Tryz.func79, Tryz.ntmps79
      go_wp2
      go_ret
      exact ⟨⟨_, rfl⟩, rfl⟩
  · by_cases h2 : y % 400 = 0
    · omega
    · go_enter Tryz.func79, Tryz.ntmps79
      go_wp2
      go_ret
      exact ⟨⟨_, rfl⟩, rfl⟩
theorem ret_rng {a lo hi : Int} {w w' : World} (h : lo ≤ a ∧ a ≤ hi) (hw : w = w') : (∃ d : Int, Ending.returned (.int .i64 a) = .returned (.int .i64 d) ∧ lo ≤ d ∧ d ≤ hi) ∧ w = w' := ⟨⟨a, rfl, h⟩, hw⟩
set_option maxHeartbeats 1000000 in
theorem monthDays_any (y m : Int) (w : World) (hy : 0 ≤ y) : Calls Tryz.prog 52 #[.int .i64 y, .int .i64 m] w fun e w' => (∃ d : Int, e = .returned (.int .i64 d) ∧ 28 ≤ d ∧ d ≤ 31) ∧ w = w' := by
  have HL := Lib.hid (leap_any y w hy)
  clear hy
  by_cases h2 : m = 2
  · subst h2
    go_enter Tryz.func52, Tryz.ntmps52
    go_wp2_with fail
    refine HL.out.mono ?_
    rintro e w' ⟨⟨b, rfl⟩, rfl⟩
    cases b
    · go_wp2_with fail
      go_ret
      exact ret_rng (by decide) rfl
    · go_wp2_with fail
      go_ret
      exact ret_rng (by decide) rfl
  by_cases h4 : m = 4
  · subst h4
    go_enter Tryz.func52, Tryz.ntmps52
    go_wp2_with fail
    go_ret
    exact ret_rng (by decide) rfl
  by_cases h6 : m = 6
  · subst h6
    go_enter Tryz.func52, Tryz.ntmps52
    go_wp2_with fail
    go_ret
    exact ret_rng (by decide) rfl
  by_cases h9 : m = 9
  · subst h9
    go_enter Tryz.func52, Tryz.ntmps52
    go_wp2_with fail
    go_ret
    exact ret_rng (by decide) rfl
  by_cases h11 : m = 11
  · subst h11
    go_enter Tryz.func52, Tryz.ntmps52
    go_wp2_with fail
    go_ret
    exact ret_rng (by decide) rfl
  go_enter Tryz.func52, Tryz.ntmps52
  go_wp2_with fail
  go_ret
  exact ret_rng (by decide) rfl
/-- How many days there are from 1970 up to a year. -/
def ydI (y : Int) : Int := 365 * (y - 1970) + ((y - 1) / 4 - 492) - ((y - 1) / 100 - 19) + ((y - 1) / 400 - 4)
theorem ydI_bd {y : Int} (h : 1970 ≤ y ∧ y ≤ 20000) : 365 * (y - 1970) - 200 ≤ ydI y ∧ ydI y ≤ 366 * (y - 1970) + 100 := by
  unfold ydI; omega
set_option maxHeartbeats 1000000 in
theorem yearDays_any (y : Int) (w : World) (hy : 1970 ≤ y ∧ y ≤ 20000) : Calls Tryz.prog 51 #[.int .i64 y] w fun e w' => e = .returned (.int .i64 (ydI y)) ∧ w = w' := by
  obtain ⟨h1, h2⟩ := hy
  have h3 : 0 ≤ y - 1 := by omega
  go_enter Tryz.func51, Tryz.ntmps51
  go_wp2
  go_ret
  exact ⟨ret_int (by unfold ydI; omega), rfl⟩
set_option maxHeartbeats 1000000 in
theorem padded_any (n m : Int) (w : World) (h0 : -9223372036854775808 ≤ n) (h1 : n ≤ 9223372036854775807) (hm : m ≤ 4) (ht : TabW w) :
    Calls Tryz.prog 53 #[.int .i64 n, .int .i64 m] w fun e w' => ∃ s : ByteArray, e = .returned (.string s) ∧ s.size ≤ 21 ∧ Below w.heap.size w w' := by
  have HI := Lib.hid (itoaS_any n w h0 h1 ht)
  clear h0 h1 ht
  go_enter Tryz.func53, Tryz.ntmps53
  go_wp2_with fail
  refine HI.out.mono ?_
  rintro e w1 ⟨s1, rfl, hs1, hb1⟩
  have HB1 := Lib.hid hb1
  clear hb1
  go_wp2_with fail
  go_loopg [5] 4 (fun gg s5 wr => ∃ s : ByteArray, s5 = .string s ∧ 4 - s.size ≤ gg ∧ s.size ≤ 21 ∧ w1 = wr)
  case atStart => exact ⟨s1, rfl, by omega, hs1, rfl⟩
  case round =>
    obtain ⟨s, rfl, hg, hs, rfl⟩ := hrel
    by_cases hlt : (s.size : Int) < m
    · have hs4 : s.size < 4 := by omega
      have hq : ¬ 9223372036854775807 < 1 + s.size := by omega
      have hq2 : ((⟨#[48]⟩ : ByteArray) ++ s).size = 1 + s.size := by rw [ByteArray.size_append]; rfl
      have HQ2 := Lib.hid hq2
      clear hq2
      go_wp2_with fail
      go_roundg (4 - (1 + s.size))
      case measure => omega
      case rel => exact ⟨⟨#[48]⟩ ++ s, rfl, by rw [HQ2.out]; omega, by rw [HQ2.out]; omega, rfl⟩
    · go_wp2_with fail
      go_ret
      exact ⟨s, rfl, hs, HB1.out⟩
theorem sz_app {a b : ByteArray} {m n : Nat} (h1 : a.size ≤ m) (h2 : b.size ≤ n) : (a ++ b).size ≤ m + n := by rw [ByteArray.size_append]; omega
set_option maxRecDepth 100000 in
set_option maxHeartbeats 4000000 in
theorem date_any (n : Int) (w : World) (hn : 0 ≤ n ∧ n ≤ 253402300799999) (ht : TabW w) :
    Calls Tryz.prog 26 #[.int .i64 n] w fun e w' => ∃ s : ByteArray, e = .returned (.tuple #[.string s, .int .i64 0]) ∧ s.size ≤ 200 ∧ Below w.heap.size w w' := by
  obtain ⟨hn1, hn2⟩ := hn
  have ho := out_any n 0 253402300799999 w
  rw [show outB n 0 253402300799999 = false from by simp [outB]; omega] at ho
  have HO := Lib.hid ho
  have HT := Lib.hid ht
  have HY := Lib.hid (fun (y : Int) (h : 1970 ≤ y ∧ y ≤ 20000) => yearDays_any y w h)
  have HM := Lib.hid (fun (y m : Int) (h : 0 ≤ y) => monthDays_any y m w h)
  have HP := Lib.hid (fun (k m : Int) (W : World) (h0 : -9223372036854775808 ≤ k) (h1 : k ≤ 9223372036854775807) (hm : m ≤ 4) (hb : Below w.heap.size w W) => padded_any k m W h0 h1 hm (tab_below HT.out hb))
  clear ho ht
  go_enter Tryz.func26, Tryz.ntmps26
  go_upto_region 4 with (go_at_call 20; (with_reducible refine HO.out.mono ?_); rintro e w' ⟨rfl, rfl⟩)
  clear HO
  have hd1 : 0 ≤ n / 86400000 := by omega
  have hd2 : n / 86400000 ≤ 2932896 := by omega
  have hr1 : 0 ≤ n % 86400000 := by omega
  have hr2 : n % 86400000 < 86400000 := by omega
  obtain ⟨D, hD⟩ : ∃ D, D = n / 86400000 := ⟨_, rfl⟩
  obtain ⟨R, hR⟩ : ∃ D, D = n % 86400000 := ⟨_, rfl⟩
  rw [← hD] at hd1 hd2
  rw [← hR] at hr1 hr2
  rw [← hD, ← hR]
  clear hD hR hn1 hn2
  go_wp2_with fail
  go_loopg [6] 10010 (fun gg s6 wr => ∃ y : Int, s6 = .int .i64 y ∧ 1970 ≤ y ∧ y ≤ 10009 ∧ (10010 - y).toNat ≤ gg ∧ w = wr)
  case atStart => exact ⟨1970 + D / 366, rfl, by omega, by omega, by omega, rfl⟩
  case round =>
    obtain ⟨y, rfl, hy1, hy2, hg, rfl⟩ := hrel
    have HYC := Lib.hid (HY.out (y + 1) ⟨by omega, by omega⟩)
    have hyb := ydI_bd (y := y + 1) ⟨by omega, by omega⟩
    obtain ⟨Z, hZ⟩ : ∃ Z, Z = ydI (y + 1) := ⟨_, rfl⟩
    rw [← hZ] at HYC hyb
    clear hZ
    by_cases hc : Z ≤ D
    · have hy3 : y + 1 ≤ 10009 := by omega
      clear hyb
      go_wp2_with (go_at_call 51; (with_reducible refine HYC.out.mono ?_); rintro e w' ⟨rfl, rfl⟩)
      go_roundg ((10010 - (y + 1)).toNat)
      case measure => omega
      case rel => exact ⟨y + 1, rfl, by omega, hy3, Nat.le_refl _, rfl⟩
    · have HYD := Lib.hid (HY.out y ⟨by omega, by omega⟩)
      have hyd := ydI_bd (y := y) ⟨by omega, by omega⟩
      obtain ⟨Y, hYe⟩ : ∃ Z, Z = ydI y := ⟨_, rfl⟩
      rw [← hYe] at HYD hyd
      have hdb1 : -4000000 ≤ D - Y := by omega
      have hdb2 : D - Y ≤ 4000000 := by omega
      have HMY := Lib.hid (fun m => HM.out y m (by omega))
      clear hYe hyb hyd HY
      go_upto_region 7 with (go_at_call 51; (with_reducible refine HYC.out.mono ?_); rintro e w' ⟨rfl, rfl⟩)
      go_wp2_with (go_at_call 51; (with_reducible refine HYD.out.mono ?_); rintro e w' ⟨rfl, rfl⟩)
      clear hc HYC HYD
      obtain ⟨E, hE⟩ : ∃ E, E = D - Y := ⟨_, rfl⟩
      rw [← hE] at hdb1 hdb2
      rw [← hE]
      clear hE
      go_loopg [4, 7] 4000001 (fun gg s4 s7 wr => ∃ d m : Int, s4 = .int .i64 d ∧ s7 = .int .i64 m ∧ -4000000 ≤ d ∧ d ≤ 4000000 ∧ 1 ≤ m ∧ m ≤ 4000002 - d ∧ d.toNat ≤ gg ∧ w = wr)
      case atStart => exact ⟨E, 1, rfl, rfl, hdb1, hdb2, by omega, by omega, by omega, rfl⟩
      case round =>
        obtain ⟨d, m, rfl, rfl, hd3, hd4, hm1, hm2, hg2, rfl⟩ := hrel
        go_wp2_with fail
        refine (HMY.out m).mono ?_
        rintro e w' ⟨⟨k, rfl, hk1, hk2⟩, rfl⟩
        by_cases hc : k ≤ d
        · go_wp2_with fail
          refine (HMY.out m).mono ?_
          rintro e w' ⟨⟨k2, rfl, hj1, hj2⟩, rfl⟩
          go_wp2_with fail
          go_roundg ((d - k2).toNat)
          case measure => omega
          case rel => exact ⟨d - k2, m + 1, rfl, rfl, by omega, by omega, by omega, by omega, Nat.le_refl _, rfl⟩
        · go_upto_region 12 with (fail)
          clear hk1 hk2 hc HMY HM
          go_wp2_with fail
          refine (HP.out _ _ _ (by omega) (by omega) (by decide) (Below.refl _ _)).mono ?_
          rintro e w1 ⟨r1, rfl, hr3, hb1⟩
          have HB1 := Lib.hid (hb1)
          clear hb1
          go_wp2_with fail
          refine (HP.out _ _ _ (by omega) (by omega) (by decide) HB1.out).mono ?_
          rintro e w2 ⟨r2, rfl, hr4, hb2⟩
          have HB2 := Lib.hid (HB1.out.thru hb2)
          clear hb2
          go_wp2_with fail
          refine (HP.out _ _ _ (by omega) (by omega) (by decide) HB2.out).mono ?_
          rintro e w3 ⟨r3, rfl, hr5, hb3⟩
          have HB3 := Lib.hid (HB2.out.thru hb3)
          clear hb3
          go_wp2_with fail
          refine (HP.out _ _ _ (by omega) (by omega) (by decide) HB3.out).mono ?_
          rintro e w4 ⟨r4, rfl, hr6, hb4⟩
          have HB4 := Lib.hid (HB3.out.thru hb4)
          clear hb4
          go_wp2_with fail
          refine (HP.out _ _ _ (by omega) (by omega) (by decide) HB4.out).mono ?_
          rintro e w5 ⟨r5, rfl, hr7, hb5⟩
          have HB5 := Lib.hid (HB4.out.thru hb5)
          clear hb5
          go_wp2_with fail
          refine (HP.out _ _ _ (by omega) (by omega) (by decide) HB5.out).mono ?_
          rintro e w6 ⟨r6, rfl, hr8, hb6⟩
          have HB6 := Lib.hid (HB5.out.thru hb6)
          clear hb6
          go_wp2_with fail
          refine (HP.out _ _ _ (by omega) (by omega) (by decide) HB6.out).mono ?_
          rintro e w7 ⟨r7, rfl, hr9, hb7⟩
          have HB7 := Lib.hid (HB6.out.thru hb7)
          clear hb7
          go_wp2_with fail
          go_ret2
          refine ⟨_, rfl, ?_, HB7.out⟩
          simp only [ByteArray.size_append]
          have hz : ∀ c : UInt8, (⟨#[c]⟩ : ByteArray).size = 1 := fun _ => rfl
          simp only [hz]
          omega
end Go.Proofs.YtehbmnkbmgnkfaaGreatDoor

/- Decimal: a number of thousandths as a text: how long it is. -/
namespace Go.Proofs.YtehbmnkbmgnkfaaGreatDoor
open Go.RowKit Go.Lib Go.Shelf

theorem itoa_pos (n : Int) : 1 ≤ (itoa n).length := by
  have h : ∀ u, 1 ≤ (decDigits u).length := fun u => by
    rw [decDigits]
    split <;> simp
  unfold itoa
  split
  · simp
  · exact h _
theorem itoaP_any (n : Int) (w : World) (h0 : -9223372036854775808 ≤ n) (h1 : n ≤ 9223372036854775807) (ht : TabW w) :
    Calls Tryz.prog 25 #[.int .i64 n] w fun e w' => ∃ s : ByteArray, e = .returned (.string s) ∧ (1 ≤ s.size ∧ s.size ≤ 21) ∧ Below w.heap.size w w' := by
  refine (itoa_any n w h0 h1 ht).mono ?_
  rintro e w' ⟨rfl, k, os, rfl⟩
  exact ⟨_, rfl, ⟨itoa_pos n, itoa_length_le n h0 h1⟩, below_grow (Below.refl _ _) k os⟩
set_option maxHeartbeats 1000000 in
theorem size_any (n : Int) (w : World) (h : 0 ≤ n ∧ n < 1000) : Calls Tryz.prog 81 #[.int .i64 n] w fun e w' => e = .returned (.int .u64 n) ∧ w = w' := by
  obtain ⟨h1, h2⟩ := h
  have h3 : ¬ n < 0 := by omega
  have hw : IntKind.u64.wrap n = n := by rw [IntKind.wrap_u64]; omega
  go_enter Tryz.func81, Tryz.ntmps81
  go_wp2
  go_ret
  exact ⟨rfl, rfl⟩
theorem mul_any (n M : Int) (w : World) (h : 0 ≤ n ∧ n < 1000) (hM : M = n * 1000) : Calls Tryz.prog 80 #[.int .u64 n, .int .u64 1000] w fun e w' => e = .returned (.tuple #[.int .u64 0, .int .u64 M]) ∧ w = w' := by
  obtain ⟨k, rfl⟩ : ∃ k : Nat, n = (k : Int) := ⟨n.toNat, by omega⟩
  have h1 := Any.bits_Mul64 Tryz.lays264 k 1000 (by omega) (by omega) w
  refine h1.mono ?_
  rintro e w' ⟨rfl, rfl⟩
  refine ⟨?_, rfl⟩
  have e1 : ((k * 1000 / 18446744073709551616 : Nat) : Int) = 0 := by omega
  have e2 : ((k * 1000 % 18446744073709551616 : Nat) : Int) = M := by omega
  rw [e1, e2]
set_option maxRecDepth 100000 in
set_option maxHeartbeats 1000000 in
theorem div_any (n M : Int) (w : World) (h : 0 ≤ n ∧ n < 1000) (hM : M = n * 1000) : Calls Tryz.prog 82 #[.int .u64 0, .int .u64 M, .int .u64 1000] w fun e w' => e = .returned (.tuple #[.int .u64 n, .int .u64 0]) ∧ ∃ k, w' = w.drewN k := by
  have hq : M / 1000 = n := by omega
  have hr : M % 1000 = 0 := by omega
  have hm0 : 0 ≤ M := by omega
  obtain ⟨h1, h2⟩ := h
  clear hM
  go_enter Tryz.func82, Tryz.ntmps82
  go_upto_region 6 with (fail)
  have hund : undef = Value.tuple #[] := rfl
  go_quiet (fail)
  clear hund
  rw [hq, hr]
  go_wp2_with fail
  go_ret2
  exact ⟨rfl, nq, rfl⟩
set_option maxHeartbeats 1000000 in
theorem rounds_any (w : World) : Calls Tryz.prog 83 #[.int .i64 2, .bool false, .int .u64 0, .int .u64 1000] w fun e w' => e = .returned (.bool false) ∧ w = w' := by
  go_enter Tryz.func83, Tryz.ntmps83
  go_wp2
  go_ret
  exact ⟨rfl, rfl⟩
set_option maxRecDepth 100000 in
set_option maxHeartbeats 2000000 in
theorem scaled_any (n : Int) (w : World) (h : 0 ≤ n ∧ n < 1000) : Calls Tryz.prog 57 #[.int .i64 n, .int .i64 1000, .int .i64 1000, .int .i64 2] w fun e w' => e = .returned (.int .i64 n) ∧ ∃ k, w' = w.drewN k := by
  obtain ⟨M, hM⟩ : ∃ M, M = n * 1000 := ⟨_, rfl⟩
  have HS := Lib.hid (size_any n w h)
  have HM := Lib.hid (mul_any n M w h hM)
  have HD := Lib.hid (div_any n M w h hM)
  have HR := Lib.hid (fun W => rounds_any W)
  obtain ⟨h1, h2⟩ := h
  have h3 : ¬ n < 0 := by omega
  have hw : IntKind.i64.wrap n = n := IntWalk.i64_in _ (by omega)
  have h4 : ¬ 1152921504606846976 < n := by omega
  clear hM
  go_enter Tryz.func57, Tryz.ntmps57
  go_wp2_with (first | (go_at_call 81; (with_reducible refine HS.out.mono ?_); rintro e w' ⟨rfl, rfl⟩) | (go_at_call 80; (with_reducible refine HM.out.mono ?_); rintro e w' ⟨rfl, rfl⟩) | (go_at_call 82; (with_reducible refine HD.out.mono ?_); rintro e w' ⟨rfl, k, rfl⟩) | (go_at_call 83; (with_reducible refine (HR.out _).mono ?_); rintro e w' ⟨rfl, rfl⟩))
  go_ret
  exact ⟨rfl, _, rfl⟩
set_option maxHeartbeats 1000000 in
theorem power3_any (w : World) : Calls Tryz.prog 56 #[.int .i64 3] w fun e w' => e = .returned (.int .i64 1000) ∧ w = w' := by
  go_enter Tryz.func56, Tryz.ntmps56
  go_wp2
  go_loopg [3, 5] 3 (fun gg s3 s5 wr => ∃ (k : Nat) (p : Int), s5 = .int .i64 k ∧ s3 = .int .i64 p ∧ 3 - k ≤ gg ∧ Aside ((k = 0 ∧ p = 1) ∨ (k = 1 ∧ p = 10) ∨ (k = 2 ∧ p = 100) ∨ (k = 3 ∧ p = 1000)) ∧ w = wr)
  case atStart => exact ⟨0, 1, rfl, rfl, by omega, .inl ⟨rfl, rfl⟩, rfl⟩
  case round =>
    obtain ⟨k, p, rfl, rfl, hg, A, rfl⟩ := hrel
    rcases A.out with ⟨rfl, rfl⟩ | ⟨rfl, rfl⟩ | ⟨rfl, rfl⟩ | ⟨rfl, rfl⟩
    · clear A
      go_wp2
      go_roundg 2
      case measure => omega
      case rel => exact ⟨1, 10, rfl, rfl, by omega, .inr (.inl ⟨rfl, rfl⟩), rfl⟩
    · clear A
      go_wp2
      go_roundg 1
      case measure => omega
      case rel => exact ⟨2, 100, rfl, rfl, by omega, .inr (.inr (.inl ⟨rfl, rfl⟩)), rfl⟩
    · clear A
      go_wp2
      go_roundg 0
      case measure => omega
      case rel => exact ⟨3, 1000, rfl, rfl, by omega, .inr (.inr (.inr ⟨rfl, rfl⟩)), rfl⟩
    · clear A
      go_wp2
      go_ret
      exact ⟨rfl, rfl⟩
theorem noTime_any (n : Int) (w : World) (h : 1 ≤ n ∧ n ≤ 3600000) : Calls Tryz.prog 54 #[.int .i64 n] w fun e w' => e = .returned (.bool false) ∧ w = w' := by
  have ho := out_any n (-1000000000000000) 1000000000000000 w
  rw [show outB n (-1000000000000000) 1000000000000000 = false from by simp [outB]; omega] at ho
  have HO := Lib.hid ho
  clear ho h
  go_enter Tryz.func54, Tryz.ntmps54
  go_wp2_with (go_at_call 20; (with_reducible refine HO.out.mono ?_); rintro e w' ⟨rfl, rfl⟩)
  go_ret
  exact ⟨rfl, rfl⟩
theorem noScale_any (w : World) : Calls Tryz.prog 55 #[.int .i64 1000] w fun e w' => e = .returned (.bool false) ∧ w = w' := by
  have HO := Lib.hid (out_any 1000 1 1000000000 w)
  rw [show outB 1000 1 1000000000 = false from by decide] at HO
  go_enter Tryz.func55, Tryz.ntmps55
  go_wp2_with (go_at_call 20; (with_reducible refine HO.out.mono ?_); rintro e w' ⟨rfl, rfl⟩)
  go_ret
  exact ⟨rfl, rfl⟩
set_option maxRecDepth 100000 in
set_option maxHeartbeats 4000000 in
theorem decimal_any (n : Int) (w : World) (h : 1 ≤ n ∧ n ≤ 3600000) (ht : TabW w) : Calls Tryz.prog 28 #[.int .i64 n, .int .i64 1000, .int .i64 3] w fun e w' => ∃ s : ByteArray, e = .returned (.tuple #[.string s, .int .i64 0]) ∧ s.size ≤ 100 ∧ Below w.heap.size w w' := by
  have HT := Lib.hid ht
  have H1 := Lib.hid (noTime_any n w h)
  have H2 := Lib.hid (noScale_any w)
  have H3 := Lib.hid (out_any 3 0 9 w)
  rw [show outB 3 0 9 = false from by decide] at H3
  have H4 := Lib.hid (power3_any w)
  obtain ⟨h1, h2⟩ := h
  have hr : 0 ≤ n % 1000 ∧ n % 1000 < 1000 := by omega
  have et : n.tmod 1000 = n % 1000 := Int.tmod_eq_emod_of_nonneg (by omega)
  have ed : IntKind.i64.wrap (n.tdiv 1000) = n / 1000 := by rw [Int.tdiv_eq_ediv_of_nonneg (by omega)]; exact IntWalk.i64_in _ (by omega)
  have HET := Lib.hid et
  have HED := Lib.hid ed
  have HSC := Lib.hid (fun W => scaled_any (n.tmod 1000) W (by rw [et]; exact hr))
  have hmx : max n (-n) = n := by omega
  have hwn : IntKind.i64.wrap (-n) = -n := IntWalk.i64_in _ (by omega)
  have h0 : ¬ n < 0 := by omega
  have hd1 : 0 ≤ n / 1000 := by omega
  have hd2 : n / 1000 ≤ 3600 := by omega
  obtain ⟨hr1, hr2⟩ := hr
  clear ht et ed
  go_enter Tryz.func28, Tryz.ntmps28
  go_upto_region 5 with (first | (go_at_call 54; (with_reducible refine H1.out.mono ?_); rintro e w' ⟨rfl, rfl⟩) | (go_at_call 55; (with_reducible refine H2.out.mono ?_); rintro e w' ⟨rfl, rfl⟩) | (go_at_call 20; (with_reducible refine H3.out.mono ?_); rintro e w' ⟨rfl, rfl⟩) | (go_at_call 56; (with_reducible refine H4.out.mono ?_); rintro e w' ⟨rfl, rfl⟩))
  clear H1 H2 H3 H4
  have hq : Below w.heap.size w w.drew := (Below.refl _ w).drew
  go_cut [10, 11] (fun s10 s11 wc => s10 = .int .i64 (IntKind.i64.wrap (n.tdiv 1000)) ∧ s11 = .int .i64 (n.tmod 1000) ∧ Aside (Below w.heap.size w wc))
  case first =>
    go_region_held3 (fun _ => True) (first | exact True.intro | fail) (first | (go_at_call 57; ((with_reducible refine (HSC.out _).mono ?_); rintro e w2 ⟨rfl, k, rfl⟩; replace hq := below_drewN hq k)) | fail "arms")
    all_goals
      go_wp2_with fail
      go_meet
      exact ⟨rfl, rfl, below_drewN (Below.refl _ w) _⟩
  obtain ⟨rfl, rfl, B1⟩ := hcut
  obtain ⟨w1, hw1⟩ : ∃ w1, w1 = wc := ⟨_, rfl⟩
  have HB1 : Hid (Below w.heap.size w w1) := Lib.hid (by rw [hw1]; exact B1.out)
  rw [← hw1]
  clear hw1 B1 HSC hq
  rw [HET.out, HED.out]
  obtain ⟨D, hD⟩ : ∃ D, D = n / 1000 := ⟨_, rfl⟩
  obtain ⟨R, hR⟩ : ∃ D, D = n % 1000 := ⟨_, rfl⟩
  rw [← hD] at hd1 hd2 ⊢
  rw [← hR] at hr1 hr2 ⊢
  clear hD hR hmx hwn
  have hne : ¬ R = 1000 := by omega
  have HI1 := Lib.hid (itoaP_any D w1 (by omega) (by omega) (tab_below HT.out HB1.out))
  go_wp2_with fail
  refine HI1.out.mono ?_
  rintro e w2 ⟨s1, rfl, ⟨hs1, hs2⟩, hb2⟩
  have HB2 := Lib.hid (HB1.out.thru hb2)
  have HI2 := Lib.hid (itoaP_any (1000 + R) w2 (by omega) (by omega) (tab_below HT.out HB2.out))
  clear HI1 hb2
  go_wp2_with fail
  refine HI2.out.mono ?_
  rintro e w3 ⟨s2, rfl, ⟨hs3, hs4⟩, hb3⟩
  have HB3 := Lib.hid (HB2.out.thru hb3)
  have hs3z : (1 : Int) ≤ (s2.size : Int) := by omega
  have hex : (s2.extract 1 s2.size).size = s2.size - 1 := by rw [ByteArray.size_extract]; omega
  clear HI2 hb3
  go_wp2_with fail
  go_ret2
  refine ⟨_, rfl, ?_, HB3.out⟩
  have hz : ∀ c : UInt8, (⟨#[c]⟩ : ByteArray).size = 1 := fun _ => rfl
  simp only [ByteArray.size_append, hz, hex]
  omega
end Go.Proofs.YtehbmnkbmgnkfaaGreatDoor

/- What renditions are worth: worth, Worth, of the program and of the reference. -/
import Derived.Test.YtfkmdojnkdoffaaCrowd
namespace Go.Proofs.Ytfkmdojnkdoffaa
open Go.RowKit

/-- The first fault of some. -/
def firstF : List Int → Int
  | [] => 0
  | a :: r => if a ≠ 0 then a else firstF r
theorem firstF_at {l : List Int} : ∀ {k : Nat} {a : Int}, l[k]? = some a → a ≠ 0 → (∀ j x, l[j]? = some x → j < k → x = 0) → firstF l = a := by
  induction l with
  | nil => intro k a h; simp at h
  | cons b r ih =>
    intro k a h ha hz
    cases k with
    | zero => simp at h; subst h; rw [firstF, if_pos ha]
    | succ k =>
      have h0 := hz 0 b rfl (by omega)
      rw [firstF, if_neg (by simp [h0])]
      exact ih (by simpa using h) ha fun j x hx hj => hz (j + 1) x (by simpa using hx) (by omega)
theorem firstF_none {l : List Int} (hz : ∀ (j : Nat) x, l[j]? = some x → x = 0) : firstF l = 0 := by
  induction l with
  | nil => rfl
  | cons b r ih =>
    have h0 := hz 0 b rfl
    rw [firstF, if_neg (by simp [h0])]
    exact ih fun j x hx => hz (j + 1) x (by simpa using hx)

set_option maxHeartbeats 1000000 in
theorem first_any (w : World) (l : List Int) (v : Value) (hl : Sl w 1 encI v l) :
    Calls Try.prog 17 #[v] w fun e w' => e = .returned (.int .i64 (firstF l)) ∧ w = w' := by
  obtain ⟨ao, cap, rfl, hcap, hmax, hnil, hel⟩ := hl
  unfold maxLen at hmax
  go_enter Try.func17, Try.ntmps17
  go_wp2
  go_loop [4, 7] (fun _ s7 => ∃ kk : Nat, kk ≤ l.length ∧ s7 = .int .i64 kk ∧ Aside (∀ j x, l[j]? = some x → j < kk → x = 0)) (fun _ i => l.length - (intOf i).toNat)
  case atStart => exact ⟨0, Nat.zero_le _, rfl, fun j x _ hj => absurd hj (Nat.not_lt_zero _)⟩
  case round =>
    obtain ⟨kk, hkk, rfl, A⟩ := hrel
    by_cases hlt : kk < l.length
    · have hltz : (kk : Int) < (l.length : Int) := by omega
      obtain ⟨x, hx⟩ : ∃ x, l[kk]? = some x := ⟨l[kk], by simp [hlt]⟩
      obtain ⟨b, off, rfl, hc⟩ := hel kk x hx
      have c0 : w.cell? ⟨b, off + kk, none⟩ = some (.int .i64 x) := by simpa using hc 0 _ rfl
      have HX := Lib.hid hx
      clear hx hc hel
      cases e1 : (x != 0)
      case true =>
        have hv : Hid (x = firstF l) := Lib.hid (firstF_at HX.out (by simpa using e1) A.out).symm
        go_wp2
        go_ret
        exact ⟨ret_int hv.out, rfl⟩
      case false =>
        have hz : Hid (x = 0) := Lib.hid (by simpa using e1)
        go_wp2
        go_round
        case rel =>
          refine ⟨kk + 1, by omega, by go_num, (show Aside (∀ j x, l[j]? = some x → j < kk + 1 → x = 0) from fun j y hy hj => ?_)⟩
          by_cases e : j = kk
          · subst e
            have := HX.out.symm.trans hy
            simp only [Option.some.injEq] at this
            rw [← this]; exact hz.out
          · exact A.out j y hy (by omega)
        case measure => simp [intOf]; omega
    · obtain rfl : kk = l.length := by omega
      have hv : Hid (0 = firstF l) := Lib.hid (firstF_none fun j x hx => A.out j x hx (List.getElem?_eq_some_iff.1 hx).1).symm
      clear hel
      go_wp2
      go_ret
      exact ⟨ret_int hv.out, rfl⟩

/-- What a viewer gets. -/
def wt1 (l : List Rng) (v : Vw) : Int := if 0 ≤ takesR l v then v.we * (l.getD (takesR l v).toNat default).qu else 0
def wtA (l : List Rng) (c : List Vw) : Nat → Int
  | 0 => 0
  | k + 1 => wtA l c k + wt1 l (c.getD k default)
def wtR (l : List Rng) (c : List Vw) : Int := wtA l c c.length
theorem wt1_bd {l : List Rng} {v : Vw} (hl : ∀ x, x ∈ l → 0 ≤ x.qu ∧ x.qu ≤ 1000000) (hv : 1 ≤ v.we ∧ v.we ≤ 1000000) : 0 ≤ wt1 l v ∧ wt1 l v ≤ 1000000000000 := by
  unfold wt1
  split
  · rename_i h0
    have h1 := tkA_bd l v l.length
    have h2 : (takesR l v).toNat < l.length := by unfold takesR at h0 ⊢; omega
    rw [getD_of (List.getElem?_eq_getElem h2)]
    have h3 := hl _ (List.getElem_mem h2)
    have a1 := Int.mul_nonneg (show 0 ≤ v.we by omega) h3.1
    have a2 : v.we * (l[(takesR l v).toNat]).qu ≤ 1000000 * 1000000 := Int.mul_le_mul hv.2 h3.2 h3.1 (by omega)
    omega
  · omega
theorem wtA_bd {l : List Rng} {c : List Vw} (hl : ∀ x, x ∈ l → 0 ≤ x.qu ∧ x.qu ≤ 1000000) (hv : ∀ v, v ∈ c → 1 ≤ v.we ∧ v.we ≤ 1000000) : ∀ k, k ≤ c.length → 0 ≤ wtA l c k ∧ wtA l c k ≤ k * 1000000000000
  | 0, _ => ⟨by simp [wtA], by simp [wtA]⟩
  | k + 1, hk => by
    have ih := wtA_bd hl hv k (by omega)
    have h1 := wt1_bd (v := c.getD k default) hl (by rw [getD_of (List.getElem?_eq_getElem (by omega : k < c.length))]; exact hv _ (List.getElem_mem _))
    unfold wtA
    omega

set_option maxRecDepth 100000 in
set_option maxHeartbeats 2000000 in
theorem worth_any (w : World) (l : List Rng) (u : Value) (c : List Vw) (v : Value) (hl : Sl w 4 encR u l) (hc : Sl w 3 encV v c) (hq : ∀ x, x ∈ l → 0 ≤ x.qu ∧ x.qu ≤ 1000000) (hv : ∀ v, v ∈ c → 1 ≤ v.we ∧ v.we ≤ 1000000) (hlen : c.length ≤ 200) :
    Calls Try.prog 23 #[u, v] w fun e w' => e = .returned (.int .i64 (wtR l c)) ∧ Below w.heap.size w w' := by
  have HLS := Lib.hid hl
  obtain ⟨ao, cap, rfl, hcap, hmax, hnil, hel⟩ := hl
  obtain ⟨bo, cbp, rfl, hcbp, hmbx, hnbl, hem⟩ := hc
  unfold maxLen at hmax hmbx
  have HT : Hid (wtR l c = wtA l c c.length) := Lib.hid rfl
  generalize wtR l c = R at HT ⊢
  have HEL := Lib.hid hel
  have HEM := Lib.hid hem
  have HQ := Lib.hid hq
  have HV := Lib.hid hv
  clear hel hem hq hv
  go_enter Try.func23, Try.ntmps23
  go_wp2
  go_loopg [5, 8, 11] c.length (fun gg s5 _ s11 wr => ∃ (kk : Nat) (n : Int), kk ≤ c.length ∧ c.length - kk ≤ gg ∧ s11 = .int .i64 kk ∧ s5 = .int .i64 n ∧ 0 ≤ n ∧ n ≤ 1000000000000000 ∧ Aside (n = wtA l c kk) ∧ Aside (Below w.heap.size w wr))
  case atStart => exact ⟨0, 0, Nat.zero_le _, by omega, rfl, rfl, by omega, by omega, (show Aside _ from rfl), Below.refl _ _⟩
  case round =>
    obtain ⟨kk, n, hkk, hg, rfl, rfl, hn0, hn1, N, BW⟩ := hrel
    by_cases hlt : kk < c.length
    · have hltz : (kk : Int) < (c.length : Int) := by omega
      obtain ⟨x, hx⟩ : ∃ x, c[kk]? = some x := ⟨c[kk], by simp [hlt]⟩
      obtain ⟨b, off, hao, hd⟩ := HEM.out kk x hx
      subst hao
      have hlt0 := World.block_lt_of_cell? w ⟨b, off + kk * 3 + 0, none⟩ (hd 0 _ rfl)
      have c0 : wr.cell? ⟨b, off + kk * 3, none⟩ = some (.int .i64 x.ra) := (BW.out.cell (p := ⟨b, off + kk * 3 + 0, none⟩) hlt0).trans (hd 0 _ rfl)
      have c1 := (BW.out.cell (p := ⟨b, off + kk * 3 + 1, none⟩) hlt0).trans (hd 1 _ rfl)
      have c2 := (BW.out.cell (p := ⟨b, off + kk * 3 + 2, none⟩) hlt0).trans (hd 2 _ rfl)
      have hszw := BW.out.size
      have htk := fun (W : World) (hb : Below w.heap.size w W) => takes_any W l _ x (HLS.out.below hb (Nat.le_refl _))
      have hbt := tkA_bd l x l.length
      rw [show tkA l x l.length = takesR l x from rfl] at hbt
      have hwb := wt1_bd (l := l) HQ.out (HV.out x (List.mem_of_getElem? hx))
      have hwe := HV.out x (List.mem_of_getElem? hx)
      have hnn : Hid (wtA l c (kk + 1) = n + wt1 l x) := Lib.hid (by rw [wtA, getD_of hx, ← N.out])
      have hnb := wtA_bd (l := l) (c := c) HQ.out HV.out (kk + 1) (by omega)
      rw [hnn.out] at hnb
      have hkz : ((kk + 1 : Nat) : Int) ≤ 200 := by omega
      have hnb2 : n + wt1 l x ≤ 1000000000000000 := by omega
      have hw1 : Hid (wt1 l x = if 0 ≤ takesR l x then x.we * (l.getD (takesR l x).toNat default).qu else 0) := Lib.hid rfl
      obtain ⟨T, hT⟩ : ∃ T, T = takesR l x := ⟨_, rfl⟩
      rw [← hT] at htk hbt hw1
      have HTK := Lib.hid (htk _ (BW.out.alloc hszw (.cells #[.int .i64 x.ra, .int .i64 x.he, .int .i64 x.we] 63)))
      have HBK := Lib.hid (block_new wr (.cells #[.int .i64 x.ra, .int .i64 x.he, .int .i64 x.we] 63))
      have HBX := Lib.hid (BW.out.alloc hszw (.cells #[.int .i64 x.ra, .int .i64 x.he, .int .i64 x.we] 63))
      obtain ⟨WT, hWT⟩ : ∃ z, z = wt1 l x := ⟨_, rfl⟩
      rw [← hWT] at hwb hnn hnb2 hw1
      obtain ⟨hwb0, hwb1⟩ := hwb
      clear hx hd htk hnb hT hWT
      by_cases h0 : 0 ≤ T
      · obtain ⟨t, rfl⟩ : ∃ t : Nat, T = t := ⟨T.toNat, by omega⟩
        have htl : t < l.length := by omega
        obtain ⟨z, hz⟩ : ∃ z, l[t]? = some z := ⟨l[t], by simp [htl]⟩
        obtain ⟨b2, o2, hao2, hd2⟩ := HEL.out t z hz
        subst hao2
        have hlt2 := World.block_lt_of_cell? w ⟨b2, o2 + t * 4 + 0, none⟩ (hd2 0 _ rfl)
        have hq3 := hd2 3 _ rfl
        have HQ3 := Lib.hid hq3
        have hWv : x.we * z.qu = WT := by
          have := hw1.out
          rw [if_pos h0, Int.toNat_natCast, getD_of hz] at this
          exact this.symm
        have hwr1 : IntKind.i64.wrap (x.we * z.qu) = WT := by rw [hWv]; exact IntWalk.i64_in _ (by omega)
        have hwr2 : IntKind.i64.wrap (n + WT) = n + WT := IntWalk.i64_in _ (by omega)
        have HW1 := Lib.hid hwr1
        have HW2 := Lib.hid hwr2
        have HWV := Lib.hid hWv
        have htz : (t : Int) < (l.length : Int) := by omega
        clear hz hd2 hq3 hwr1 hwr2 hWv
        go_upto_region 7 with (go_at_call 42; refine HTK.out.mono ?_; rintro e w2 ⟨rfl, hb2⟩; have HB2 := Lib.hid (HBX.out.thru hb2); have hk2 := (hb2.block wr.heap.size (by simp)).trans HBK.out; have v2 := (cell_of_block (i := 2) hk2).trans rfl; have hlw := lt_of_block hk2; have q3 := (HB2.out.cell (p := ⟨b2, o2 + t * 4 + 3, none⟩) hlt2).trans HQ3.out; clear hb2 hk2)
        have hwr1 := HW1.out
        have hwr2 := HW2.out
        have hWV := HWV.out
        go_quiet (fail)
        clear hwr1 hwr2
        go_wp2
        go_roundg (c.length - (kk + 1))
        case measure => omega
        case rel => exact ⟨kk + 1, n + WT, by omega, by omega, by go_num, by first | rfl | simp [HWV.out], by omega, by omega, (show Aside _ from hnn.out.symm), below_drewN HB2.out _⟩
      · have hw0 : Hid (WT = 0) := Lib.hid (by rw [hw1.out, if_neg h0])
        go_wp2_with (go_at_call 42; refine HTK.out.mono ?_; rintro e w2 ⟨rfl, hb2⟩; have HB2 := Lib.hid (HBX.out.thru hb2); clear hb2)
        go_roundg (c.length - (kk + 1))
        case measure => omega
        case rel => exact ⟨kk + 1, n, by omega, by omega, by go_num, rfl, by omega, by omega, (show Aside _ from by show _ = _; rw [hnn.out, hw0.out]; omega), HB2.out⟩
    · obtain rfl : kk = c.length := by omega
      go_wp2
      go_ret
      exact ⟨ret_int (by rw [HT.out, N.out]), BW.out⟩

set_option maxRecDepth 100000 in
set_option maxHeartbeats 2000000 in
theorem worthR_any (w : World) (l : List Rng) (u : Value) (c : List Vw) (v : Value) (hl : Sl w 4 encR u l) (hc : Sl w 3 encV v c) (hq : ∀ x, x ∈ l → 0 ≤ x.qu ∧ x.qu ≤ 1000000) (hv : ∀ v, v ∈ c → 1 ≤ v.we ∧ v.we ≤ 1000000) (hlen : c.length ≤ 200) :
    Calls Try.prog 28 #[u, v] w fun e w' => e = .returned (.int .i64 (wtR l c)) ∧ Below w.heap.size w w' := by
  have HLS := Lib.hid hl
  obtain ⟨ao, cap, rfl, hcap, hmax, hnil, hel⟩ := hl
  obtain ⟨bo, cbp, rfl, hcbp, hmbx, hnbl, hem⟩ := hc
  unfold maxLen at hmax hmbx
  have HT : Hid (wtR l c = wtA l c c.length) := Lib.hid rfl
  generalize wtR l c = R at HT ⊢
  have HEL := Lib.hid hel
  have HEM := Lib.hid hem
  have HQ := Lib.hid hq
  have HV := Lib.hid hv
  clear hel hem hq hv
  go_enter Try.func28, Try.ntmps28
  go_wp2
  go_loopg [5, 8, 11] c.length (fun gg s5 _ s11 wr => ∃ (kk : Nat) (n : Int), kk ≤ c.length ∧ c.length - kk ≤ gg ∧ s11 = .int .i64 kk ∧ s5 = .int .i64 n ∧ 0 ≤ n ∧ n ≤ 1000000000000000 ∧ Aside (n = wtA l c kk) ∧ Aside (Below w.heap.size w wr))
  case atStart => exact ⟨0, 0, Nat.zero_le _, by omega, rfl, rfl, by omega, by omega, (show Aside _ from rfl), Below.refl _ _⟩
  case round =>
    obtain ⟨kk, n, hkk, hg, rfl, rfl, hn0, hn1, N, BW⟩ := hrel
    by_cases hlt : kk < c.length
    · have hltz : (kk : Int) < (c.length : Int) := by omega
      obtain ⟨x, hx⟩ : ∃ x, c[kk]? = some x := ⟨c[kk], by simp [hlt]⟩
      obtain ⟨b, off, hao, hd⟩ := HEM.out kk x hx
      subst hao
      have hlt0 := World.block_lt_of_cell? w ⟨b, off + kk * 3 + 0, none⟩ (hd 0 _ rfl)
      have c0 : wr.cell? ⟨b, off + kk * 3, none⟩ = some (.int .i64 x.ra) := (BW.out.cell (p := ⟨b, off + kk * 3 + 0, none⟩) hlt0).trans (hd 0 _ rfl)
      have c1 := (BW.out.cell (p := ⟨b, off + kk * 3 + 1, none⟩) hlt0).trans (hd 1 _ rfl)
      have c2 := (BW.out.cell (p := ⟨b, off + kk * 3 + 2, none⟩) hlt0).trans (hd 2 _ rfl)
      have hszw := BW.out.size
      have htk := fun (W : World) (hb : Below w.heap.size w W) => takesR_any W l _ x (HLS.out.below hb (Nat.le_refl _))
      have hbt := tkA_bd l x l.length
      rw [show tkA l x l.length = takesR l x from rfl] at hbt
      have hwb := wt1_bd (l := l) HQ.out (HV.out x (List.mem_of_getElem? hx))
      have hwe := HV.out x (List.mem_of_getElem? hx)
      have hnn : Hid (wtA l c (kk + 1) = n + wt1 l x) := Lib.hid (by rw [wtA, getD_of hx, ← N.out])
      have hnb := wtA_bd (l := l) (c := c) HQ.out HV.out (kk + 1) (by omega)
      rw [hnn.out] at hnb
      have hkz : ((kk + 1 : Nat) : Int) ≤ 200 := by omega
      have hnb2 : n + wt1 l x ≤ 1000000000000000 := by omega
      have hw1 : Hid (wt1 l x = if 0 ≤ takesR l x then x.we * (l.getD (takesR l x).toNat default).qu else 0) := Lib.hid rfl
      obtain ⟨T, hT⟩ : ∃ T, T = takesR l x := ⟨_, rfl⟩
      rw [← hT] at htk hbt hw1
      have HTK := Lib.hid (htk _ (BW.out.alloc hszw (.cells #[.int .i64 x.ra, .int .i64 x.he, .int .i64 x.we] 63)))
      have HBK := Lib.hid (block_new wr (.cells #[.int .i64 x.ra, .int .i64 x.he, .int .i64 x.we] 63))
      have HBX := Lib.hid (BW.out.alloc hszw (.cells #[.int .i64 x.ra, .int .i64 x.he, .int .i64 x.we] 63))
      obtain ⟨WT, hWT⟩ : ∃ z, z = wt1 l x := ⟨_, rfl⟩
      rw [← hWT] at hwb hnn hnb2 hw1
      obtain ⟨hwb0, hwb1⟩ := hwb
      clear hx hd htk hnb hT hWT
      by_cases h0 : 0 ≤ T
      · obtain ⟨t, rfl⟩ : ∃ t : Nat, T = t := ⟨T.toNat, by omega⟩
        have htl : t < l.length := by omega
        obtain ⟨z, hz⟩ : ∃ z, l[t]? = some z := ⟨l[t], by simp [htl]⟩
        obtain ⟨b2, o2, hao2, hd2⟩ := HEL.out t z hz
        subst hao2
        have hlt2 := World.block_lt_of_cell? w ⟨b2, o2 + t * 4 + 0, none⟩ (hd2 0 _ rfl)
        have hq3 := hd2 3 _ rfl
        have HQ3 := Lib.hid hq3
        have hWv : x.we * z.qu = WT := by
          have := hw1.out
          rw [if_pos h0, Int.toNat_natCast, getD_of hz] at this
          exact this.symm
        have hwr1 : IntKind.i64.wrap (x.we * z.qu) = WT := by rw [hWv]; exact IntWalk.i64_in _ (by omega)
        have hwr2 : IntKind.i64.wrap (n + WT) = n + WT := IntWalk.i64_in _ (by omega)
        have HW1 := Lib.hid hwr1
        have HW2 := Lib.hid hwr2
        have HWV := Lib.hid hWv
        have htz : (t : Int) < (l.length : Int) := by omega
        clear hz hd2 hq3 hwr1 hwr2 hWv
        go_upto_region 7 with (go_at_call 45; refine HTK.out.mono ?_; rintro e w2 ⟨rfl, hb2⟩; have HB2 := Lib.hid (HBX.out.thru hb2); have hk2 := (hb2.block wr.heap.size (by simp)).trans HBK.out; have v2 := (cell_of_block (i := 2) hk2).trans rfl; have hlw := lt_of_block hk2; have q3 := (HB2.out.cell (p := ⟨b2, o2 + t * 4 + 3, none⟩) hlt2).trans HQ3.out; clear hb2 hk2)
        have hwr1 := HW1.out
        have hwr2 := HW2.out
        have hWV := HWV.out
        go_quiet (fail)
        clear hwr1 hwr2
        go_wp2
        go_roundg (c.length - (kk + 1))
        case measure => omega
        case rel => exact ⟨kk + 1, n + WT, by omega, by omega, by go_num, by first | rfl | simp [HWV.out], by omega, by omega, (show Aside _ from hnn.out.symm), below_drewN HB2.out _⟩
      · have hw0 : Hid (WT = 0) := Lib.hid (by rw [hw1.out, if_neg h0])
        go_wp2_with (go_at_call 45; refine HTK.out.mono ?_; rintro e w2 ⟨rfl, hb2⟩; have HB2 := Lib.hid (HBX.out.thru hb2); clear hb2)
        go_roundg (c.length - (kk + 1))
        case measure => omega
        case rel => exact ⟨kk + 1, n, by omega, by omega, by go_num, rfl, by omega, by omega, (show Aside _ from by show _ = _; rw [hnn.out, hw0.out]; omega), HB2.out⟩
    · obtain rfl : kk = c.length := by omega
      go_wp2
      go_ret
      exact ⟨ret_int (by rw [HT.out, N.out]), BW.out⟩

end Go.Proofs.Ytfkmdojnkdoffaa

/- Viewers: their fault; what they take; what renditions are worth. -/
import Derived.Test.YtfkmdojnkdoffaaRren
namespace Go.Proofs.Ytfkmdojnkdoffaa
open Go.RowKit

structure Vw where
  ra : Int
  he : Int
  we : Int
deriving Inhabited
def encV (v : Vw) : List Value := [.int .i64 v.ra, .int .i64 v.he, .int .i64 v.we]
theorem encV_len (x : Vw) : (encV x).length = 3 := rfl
def vwB (v : Vw) : Bool := outB v.ra 0 1000000000 || outB v.he 1 10000 || outB v.we 1 1000000
def cvAt (l : List Vw) (i : Nat) : Int := if vwB (l.getD i default) = true then 1 else 0
/-- The fault of viewers. -/
def checkV (l : List Vw) : Int := if 200 < l.length then 2 else FF (cvAt l) l.length
theorem checkV_zero {l : List Vw} (h : checkV l = 0) : l.length ≤ 200 ∧ ∀ v, v ∈ l → (0 ≤ v.ra ∧ v.ra ≤ 1000000000) ∧ (1 ≤ v.he ∧ v.he ≤ 10000) ∧ (1 ≤ v.we ∧ v.we ≤ 1000000) := by
  unfold checkV at h
  split at h
  · simp at h
  rename_i h0
  have hz := FF_eq_zero h
  refine ⟨by omega, fun v hv => ?_⟩
  obtain ⟨i, hi, rfl⟩ := List.mem_iff_getElem.1 hv
  have h1 := hz i hi
  unfold cvAt vwB at h1
  rw [getD_of (List.getElem?_eq_getElem hi)] at h1
  split at h1
  · simp at h1
  rename_i h2
  simp only [Bool.or_eq_true, not_or] at h2
  exact ⟨outB_no' h2.1.1, outB_no' h2.1.2, outB_no' h2.2⟩

set_option maxRecDepth 100000 in
set_option maxHeartbeats 2000000 in
theorem checkCrowd_any (w : World) (l : List Vw) (v : Value) (hl : Sl w 3 encV v l) :
    Calls Try.prog 19 #[v] w fun e w' => e = .returned (.int .i64 (checkV l)) ∧ Below w.heap.size w w' := by
  obtain ⟨ao, cap, rfl, hcap, hmax, hnil, hel⟩ := hl
  unfold maxLen at hmax
  by_cases hbig : 200 < l.length
  · have hv : Hid (2 = checkV l) := Lib.hid (by simp [checkV, hbig])
    clear hel
    go_enter Try.func19, Try.ntmps19
    go_wp2
    go_ret
    exact ⟨ret_int hv.out, Below.refl _ _⟩
  have HF : Hid (checkV l = FF (cvAt l) l.length) := Lib.hid (by simp [checkV, hbig])
  generalize checkV l = F at HF ⊢
  have HEL := Lib.hid hel
  clear hel
  go_enter Try.func19, Try.ntmps19
  go_wp2
  go_loopg [10] l.length (fun gg s10 wr => ∃ kk : Nat, kk ≤ l.length ∧ l.length - kk ≤ gg ∧ s10 = .int .i64 kk ∧ Aside (Below w.heap.size w wr) ∧ Aside (∀ j, j < kk → cvAt l j = 0))
  case atStart => exact ⟨0, Nat.zero_le _, by omega, rfl, Below.refl _ w, fun j hj => absurd hj (Nat.not_lt_zero _)⟩
  case round =>
    obtain ⟨kk, hkk, hg, rfl, BW, A⟩ := hrel
    by_cases hlt : kk < l.length
    · have hltz : (kk : Int) < (l.length : Int) := by omega
      obtain ⟨x, hx⟩ : ∃ x, l[kk]? = some x := ⟨l[kk], by simp [hlt]⟩
      obtain ⟨b, off, hao, hc⟩ := HEL.out kk x hx
      subst hao
      have hlt0 := World.block_lt_of_cell? w ⟨b, off + kk * 3 + 0, none⟩ (hc 0 _ rfl)
      have c0 : wr.cell? ⟨b, off + kk * 3, none⟩ = some (.int .i64 x.ra) := (BW.out.cell (p := ⟨b, off + kk * 3 + 0, none⟩) hlt0).trans (hc 0 _ rfl)
      have c1 := (BW.out.cell (p := ⟨b, off + kk * 3 + 1, none⟩) hlt0).trans (hc 1 _ rfl)
      have c2 := (BW.out.cell (p := ⟨b, off + kk * 3 + 2, none⟩) hlt0).trans (hc 2 _ rfl)
      have hszw := BW.out.size
      have hat : Hid (cvAt l kk = if vwB x = true then 1 else 0) := Lib.hid (by rw [cvAt, getD_of hx])
      have hvw : Hid (vwB x = (outB x.ra 0 1000000000 || outB x.he 1 10000 || outB x.we 1 1000000)) := Lib.hid rfl
      clear hx hc
      go_upto_region 6 with (fail)
      go_cut [26] (fun s21 w4 => s21 = .bool (vwB x) ∧ w4 = wr.alloc (.cells #[.int .i64 x.ra, .int .i64 x.he, .int .i64 x.we] 63))
      case first =>
        cases o1 : outB x.ra 0 1000000000
        case true =>
          go_wp2_with (go_at_call 20; refine (out_any _ _ _ _).mono ?_; rintro e w' ⟨rfl, rfl⟩)
          go_meet
          exact ⟨by rw [hvw.out]; simp [*], rfl⟩
        cases o2 : outB x.he 1 10000
        case true =>
          go_wp2_with (go_at_call 20; refine (out_any _ _ _ _).mono ?_; rintro e w' ⟨rfl, rfl⟩)
          go_meet
          exact ⟨by rw [hvw.out]; simp [*], rfl⟩
        case false =>
          go_wp2_with (go_at_call 20; refine (out_any _ _ _ _).mono ?_; rintro e w' ⟨rfl, rfl⟩)
          go_meet
          exact ⟨by rw [hvw.out]; simp [*], rfl⟩
      obtain ⟨rfl, rfl⟩ := hcut
      generalize vwB x = O at hat hvw
      clear hvw
      cases O
      case true =>
        have hv : Hid (1 = F) := Lib.hid (by rw [HF.out, FF_hit hlt A.out (by rw [hat.out]; simp), hat.out]; rfl)
        go_wp2
        go_ret
        exact ⟨ret_int hv.out, BW.out.alloc hszw _⟩
      case false =>
        go_wp2
        go_roundg (l.length - (kk + 1))
        case measure => omega
        case rel =>
          refine ⟨kk + 1, by omega, by omega, by go_num, BW.out.alloc hszw _, (show Aside _ from fun j hj => ?_)⟩
          by_cases e : j = kk
          · rw [e, hat.out]; rfl
          · exact A.out j (by omega)
    · obtain rfl : kk = l.length := by omega
      have hz : Hid (0 = F) := Lib.hid (by rw [HF.out, FF_zero A.out])
      go_wp2
      go_ret
      exact ⟨ret_int hz.out, BW.out⟩

set_option maxRecDepth 100000 in
set_option maxHeartbeats 2000000 in
theorem checkCrowdR_any (w : World) (l : List Vw) (v : Value) (hl : Sl w 3 encV v l) :
    Calls Try.prog 44 #[v] w fun e w' => e = .returned (.int .i64 (checkV l)) ∧ Below w.heap.size w w' := by
  obtain ⟨ao, cap, rfl, hcap, hmax, hnil, hel⟩ := hl
  unfold maxLen at hmax
  by_cases hbig : 200 < l.length
  · have hv : Hid (2 = checkV l) := Lib.hid (by simp [checkV, hbig])
    clear hel
    go_enter Try.func44, Try.ntmps44
    go_wp2
    go_ret
    exact ⟨ret_int hv.out, Below.refl _ _⟩
  have HF : Hid (checkV l = FF (cvAt l) l.length) := Lib.hid (by simp [checkV, hbig])
  generalize checkV l = F at HF ⊢
  have HEL := Lib.hid hel
  clear hel
  go_enter Try.func44, Try.ntmps44
  go_wp2
  go_loopg [10] l.length (fun gg s10 wr => ∃ kk : Nat, kk ≤ l.length ∧ l.length - kk ≤ gg ∧ s10 = .int .i64 kk ∧ Aside (Below w.heap.size w wr) ∧ Aside (∀ j, j < kk → cvAt l j = 0))
  case atStart => exact ⟨0, Nat.zero_le _, by omega, rfl, Below.refl _ w, fun j hj => absurd hj (Nat.not_lt_zero _)⟩
  case round =>
    obtain ⟨kk, hkk, hg, rfl, BW, A⟩ := hrel
    by_cases hlt : kk < l.length
    · have hltz : (kk : Int) < (l.length : Int) := by omega
      obtain ⟨x, hx⟩ : ∃ x, l[kk]? = some x := ⟨l[kk], by simp [hlt]⟩
      obtain ⟨b, off, hao, hc⟩ := HEL.out kk x hx
      subst hao
      have hlt0 := World.block_lt_of_cell? w ⟨b, off + kk * 3 + 0, none⟩ (hc 0 _ rfl)
      have c0 : wr.cell? ⟨b, off + kk * 3, none⟩ = some (.int .i64 x.ra) := (BW.out.cell (p := ⟨b, off + kk * 3 + 0, none⟩) hlt0).trans (hc 0 _ rfl)
      have c1 := (BW.out.cell (p := ⟨b, off + kk * 3 + 1, none⟩) hlt0).trans (hc 1 _ rfl)
      have c2 := (BW.out.cell (p := ⟨b, off + kk * 3 + 2, none⟩) hlt0).trans (hc 2 _ rfl)
      have hszw := BW.out.size
      have hat : Hid (cvAt l kk = if vwB x = true then 1 else 0) := Lib.hid (by rw [cvAt, getD_of hx])
      have hvw : Hid (vwB x = (outB x.ra 0 1000000000 || outB x.he 1 10000 || outB x.we 1 1000000)) := Lib.hid rfl
      clear hx hc
      go_upto_region 6 with (fail)
      go_cut [29] (fun s21 w4 => s21 = .bool (vwB x) ∧ w4 = wr.alloc (.cells #[.int .i64 x.ra, .int .i64 x.he, .int .i64 x.we] 63))
      case first =>
        cases o1 : outB x.ra 0 1000000000
        case true =>
          go_wp2_with (go_at_call 25; refine (within5_any _ _ _ _).mono ?_; rintro e w' ⟨rfl, rfl⟩)
          go_meet
          exact ⟨by rw [hvw.out]; simp [*], rfl⟩
        cases o2 : outB x.he 1 10000
        case true =>
          go_wp2_with (go_at_call 25; refine (within5_any _ _ _ _).mono ?_; rintro e w' ⟨rfl, rfl⟩)
          go_meet
          exact ⟨by rw [hvw.out]; simp [*], rfl⟩
        case false =>
          go_wp2_with (go_at_call 25; refine (within5_any _ _ _ _).mono ?_; rintro e w' ⟨rfl, rfl⟩)
          go_meet
          exact ⟨by rw [hvw.out]; simp [*], rfl⟩
      obtain ⟨rfl, rfl⟩ := hcut
      generalize vwB x = O at hat hvw
      clear hvw
      cases O
      case true =>
        have hv : Hid (1 = F) := Lib.hid (by rw [HF.out, FF_hit hlt A.out (by rw [hat.out]; simp), hat.out]; rfl)
        go_wp2
        go_ret
        exact ⟨ret_int hv.out, BW.out.alloc hszw _⟩
      case false =>
        go_wp2
        go_roundg (l.length - (kk + 1))
        case measure => omega
        case rel =>
          refine ⟨kk + 1, by omega, by omega, by go_num, BW.out.alloc hszw _, (show Aside _ from fun j hj => ?_)⟩
          by_cases e : j = kk
          · rw [e, hat.out]; rfl
          · exact A.out j (by omega)
    · obtain rfl : kk = l.length := by omega
      have hz : Hid (0 = F) := Lib.hid (by rw [HF.out, FF_zero A.out])
      go_wp2
      go_ret
      exact ⟨ret_int hz.out, BW.out⟩

/-- Is a rendition taken in the place of one that is taken already (or none, if below 0)? -/
def tkB (l : List Rng) (v : Vw) (a : Int) (x : Rng) : Bool := decide (x.ra ≤ v.ra) && decide (x.he ≤ v.he) && (decide (a < 0) || decide ((l.getD a.toNat default).qu < x.qu))
def tkA (l : List Rng) (v : Vw) : Nat → Int
  | 0 => -1
  | k + 1 => if tkB l v (tkA l v k) (l.getD k default) = true then (k : Int) else tkA l v k
/-- The rendition that a viewer takes, or -1. -/
def takesR (l : List Rng) (v : Vw) : Int := tkA l v l.length
theorem tkA_bd (l : List Rng) (v : Vw) : ∀ k, -1 ≤ tkA l v k ∧ tkA l v k < k
  | 0 => ⟨by simp [tkA], by simp [tkA]⟩
  | k + 1 => by
    have := tkA_bd l v k
    unfold tkA
    split <;> omega

set_option maxRecDepth 100000 in
set_option maxHeartbeats 2000000 in
theorem takes_any (w : World) (l : List Rng) (u : Value) (v : Vw) (hl : Sl w 4 encR u l) :
    Calls Try.prog 42 #[u, .agg #[.int .i64 v.ra, .int .i64 v.he, .int .i64 v.we]] w fun e w' => e = .returned (.int .i64 (takesR l v)) ∧ Below w.heap.size w w' := by
  obtain ⟨ao, cap, rfl, hcap, hmax, hnil, hel⟩ := hl
  unfold maxLen at hmax
  have HT : Hid (takesR l v = tkA l v l.length) := Lib.hid rfl
  generalize takesR l v = R at HT ⊢
  have HEL := Lib.hid hel
  have HB0 := Lib.hid ((Below.refl w.heap.size w).alloc (Nat.le_refl _) (.cells #[.int .i64 v.ra, .int .i64 v.he, .int .i64 v.we] 63))
  have HK0 := Lib.hid (block_new w (.cells #[.int .i64 v.ra, .int .i64 v.he, .int .i64 v.we] 63))
  clear hel
  go_enter Try.func42, Try.ntmps42
  go_wp2
  obtain ⟨w1, hw1⟩ : ∃ w1, w1 = w.alloc (.cells #[.int .i64 v.ra, .int .i64 v.he, .int .i64 v.we] 63) := ⟨_, rfl⟩
  have HB1 : Hid (Below w.heap.size w w1) := Lib.hid (by rw [hw1]; exact HB0.out)
  have HK1 : Hid (w1.heap[w.heap.size]? = some (.cells #[.int .i64 v.ra, .int .i64 v.he, .int .i64 v.we] 63 (0, 0))) := Lib.hid (by rw [hw1]; exact HK0.out)
  rw [← hw1]
  clear hw1 HB0 HK0
  go_loopg [5, 6, 10] l.length (fun gg s5 _ s10 wr => ∃ (kk : Nat) (a : Int), kk ≤ l.length ∧ l.length - kk ≤ gg ∧ s10 = .int .i64 kk ∧ s5 = .int .i64 a ∧ Aside (a = tkA l v kk) ∧ Aside (Below w1.heap.size w1 wr))
  case atStart => exact ⟨0, -1, Nat.zero_le _, by omega, rfl, rfl, (show Aside _ from rfl), Below.refl _ _⟩
  case round =>
    obtain ⟨kk, a, hkk, hg, rfl, rfl, T, BW⟩ := hrel
    by_cases hlt : kk < l.length
    · have hltz : (kk : Int) < (l.length : Int) := by omega
      obtain ⟨x, hx⟩ : ∃ x, l[kk]? = some x := ⟨l[kk], by simp [hlt]⟩
      obtain ⟨b, off, hao, hc⟩ := HEL.out kk x hx
      subst hao
      have hlt0 := World.block_lt_of_cell? w ⟨b, off + kk * 4 + 0, none⟩ (hc 0 _ rfl)
      have hBW := HB1.out.trans (BW.out.mono HB1.out.size)
      have c0 : wr.cell? ⟨b, off + kk * 4, none⟩ = some (.string x.na) := (hBW.cell (p := ⟨b, off + kk * 4 + 0, none⟩) hlt0).trans (hc 0 _ rfl)
      have c1 := (hBW.cell (p := ⟨b, off + kk * 4 + 1, none⟩) hlt0).trans (hc 1 _ rfl)
      have c2 := (hBW.cell (p := ⟨b, off + kk * 4 + 2, none⟩) hlt0).trans (hc 2 _ rfl)
      have c3 := (hBW.cell (p := ⟨b, off + kk * 4 + 3, none⟩) hlt0).trans (hc 3 _ rfl)
      have hk1 := (BW.out.block w.heap.size (lt_of_block HK1.out)).trans HK1.out
      have v0 := (cell_of_block (i := 0) hk1).trans rfl
      have v1 := (cell_of_block (i := 1) hk1).trans rfl
      have hwl := lt_of_block hk1
      have hbl : b < wr.heap.size := Nat.lt_of_lt_of_le hlt0 hBW.size
      have hszw := BW.out.size
      have hta := tkA_bd l v kk
      rw [← T.out] at hta
      have hn : Hid (tkA l v (kk + 1) = if tkB l v a x = true then (kk : Int) else a) := Lib.hid (by rw [tkA, getD_of hx, ← T.out])
      have hgq : ∀ n : Nat, a = n → wr.cell? ⟨b, off + n * 4 + 3, none⟩ = some (.int .i64 (l.getD n default).qu) := fun n hn => by
        obtain ⟨z, hz⟩ : ∃ z, l[n]? = some z := ⟨l[n]'(by omega), by simp⟩
        obtain ⟨b', off', hao', hc'⟩ := HEL.out n z hz
        simp only [Option.some.injEq, Addr.mk.injEq, and_true] at hao'
        obtain ⟨rfl, rfl⟩ := hao'
        rw [getD_of hz]
        exact (hBW.cell (p := ⟨b, off + n * 4 + 3, none⟩) hlt0).trans (hc' 3 _ rfl)
      have HGQ := Lib.hid hgq
      have htb : Hid (tkB l v a x = (decide (x.ra ≤ v.ra) && decide (x.he ≤ v.he) && (decide (a < 0) || decide ((l.getD a.toNat default).qu < x.qu)))) := Lib.hid rfl
      clear hx hc hk1 hgq hBW
      go_upto_region 5 with (fail)
      go_cut [40] (fun s40 w4 => s40 = .bool (tkB l v a x) ∧ ∃ n, w4 = (wr.alloc (.cells #[.string x.na, .int .i64 x.ra, .int .i64 x.he, .int .i64 x.qu] 45)).drewN n)
      case first =>
        by_cases q1 : x.ra ≤ v.ra
        · have q1' : decide (x.ra ≤ v.ra) = true := decide_eq_true q1
          by_cases q2 : x.he ≤ v.he
          · have q2' : decide (x.he ≤ v.he) = true := decide_eq_true q2
            by_cases q3 : a < 0
            · have q3' : decide (a < 0) = true := decide_eq_true q3
              have hv : Hid (tkB l v a x = true) := Lib.hid (by rw [htb.out, q1', q2', q3']; rfl)
              go_quiet (fail)
              go_wp2
              go_meet
              exact ⟨by rw [hv.out], _, rfl⟩
            · have q3' : decide (a < 0) = false := decide_eq_false q3
              obtain ⟨n, rfl⟩ : ∃ n : Nat, a = n := ⟨a.toNat, by omega⟩
              have g3 := HGQ.out n rfl
              obtain ⟨Q, hQ⟩ : ∃ Q, Q = (l.getD n default).qu := ⟨_, rfl⟩
              rw [← hQ] at g3
              have hv : Hid (tkB l v (n : Int) x = decide (Q < x.qu)) := Lib.hid (by rw [htb.out, q1', q2', q3', Int.toNat_natCast, hQ]; simp)
              have hnl : (n : Int) < (l.length : Int) := by omega
              clear hQ q3'
              have q3' : decide ((n : Int) < 0) = false := decide_eq_false q3
              go_quiet (fail)
              go_wp2
              go_meet
              exact ⟨by rw [hv.out], _, rfl⟩
          · have q2' : decide (x.he ≤ v.he) = false := decide_eq_false q2
            have hv : Hid (tkB l v a x = false) := Lib.hid (by rw [htb.out, q1', q2']; rfl)
            go_quiet (fail)
            go_wp2
            go_meet
            exact ⟨by rw [hv.out], _, rfl⟩
        · have q1' : decide (x.ra ≤ v.ra) = false := decide_eq_false q1
          have hv : Hid (tkB l v a x = false) := Lib.hid (by rw [htb.out, q1']; rfl)
          go_quiet (fail)
          go_wp2
          go_meet
          exact ⟨by rw [hv.out], _, rfl⟩
      obtain ⟨rfl, nq, rfl⟩ := hcut
      generalize tkB l v a x = O at hn htb
      clear htb
      cases O
      case true =>
        go_wp2
        go_roundg (l.length - (kk + 1))
        case measure => omega
        case rel => exact ⟨kk + 1, kk, by omega, by omega, by go_num, rfl, (show Aside _ from by show _ = _; rw [hn.out]; rfl), below_drewN (BW.out.alloc hszw _) _⟩
      case false =>
        go_wp2
        go_roundg (l.length - (kk + 1))
        case measure => omega
        case rel => exact ⟨kk + 1, a, by omega, by omega, by go_num, rfl, (show Aside _ from by show _ = _; rw [hn.out]; rfl), below_drewN (BW.out.alloc hszw _) _⟩
    · obtain rfl : kk = l.length := by omega
      go_wp2
      go_ret
      exact ⟨ret_int (by rw [HT.out, T.out]), HB1.out.trans (BW.out.mono HB1.out.size)⟩

set_option maxRecDepth 100000 in
set_option maxHeartbeats 2000000 in
theorem takesR_any (w : World) (l : List Rng) (u : Value) (v : Vw) (hl : Sl w 4 encR u l) :
    Calls Try.prog 45 #[u, .agg #[.int .i64 v.ra, .int .i64 v.he, .int .i64 v.we]] w fun e w' => e = .returned (.int .i64 (takesR l v)) ∧ Below w.heap.size w w' := by
  obtain ⟨ao, cap, rfl, hcap, hmax, hnil, hel⟩ := hl
  unfold maxLen at hmax
  have HT : Hid (takesR l v = tkA l v l.length) := Lib.hid rfl
  generalize takesR l v = R at HT ⊢
  have HEL := Lib.hid hel
  have HB0 := Lib.hid ((Below.refl w.heap.size w).alloc (Nat.le_refl _) (.cells #[.int .i64 v.ra, .int .i64 v.he, .int .i64 v.we] 63))
  have HK0 := Lib.hid (block_new w (.cells #[.int .i64 v.ra, .int .i64 v.he, .int .i64 v.we] 63))
  clear hel
  go_enter Try.func45, Try.ntmps45
  go_wp2
  obtain ⟨w1, hw1⟩ : ∃ w1, w1 = w.alloc (.cells #[.int .i64 v.ra, .int .i64 v.he, .int .i64 v.we] 63) := ⟨_, rfl⟩
  have HB1 : Hid (Below w.heap.size w w1) := Lib.hid (by rw [hw1]; exact HB0.out)
  have HK1 : Hid (w1.heap[w.heap.size]? = some (.cells #[.int .i64 v.ra, .int .i64 v.he, .int .i64 v.we] 63 (0, 0))) := Lib.hid (by rw [hw1]; exact HK0.out)
  rw [← hw1]
  clear hw1 HB0 HK0
  go_loopg [5, 6, 10] l.length (fun gg s5 _ s10 wr => ∃ (kk : Nat) (a : Int), kk ≤ l.length ∧ l.length - kk ≤ gg ∧ s10 = .int .i64 kk ∧ s5 = .int .i64 a ∧ Aside (a = tkA l v kk) ∧ Aside (Below w1.heap.size w1 wr))
  case atStart => exact ⟨0, -1, Nat.zero_le _, by omega, rfl, rfl, (show Aside _ from rfl), Below.refl _ _⟩
  case round =>
    obtain ⟨kk, a, hkk, hg, rfl, rfl, T, BW⟩ := hrel
    by_cases hlt : kk < l.length
    · have hltz : (kk : Int) < (l.length : Int) := by omega
      obtain ⟨x, hx⟩ : ∃ x, l[kk]? = some x := ⟨l[kk], by simp [hlt]⟩
      obtain ⟨b, off, hao, hc⟩ := HEL.out kk x hx
      subst hao
      have hlt0 := World.block_lt_of_cell? w ⟨b, off + kk * 4 + 0, none⟩ (hc 0 _ rfl)
      have hBW := HB1.out.trans (BW.out.mono HB1.out.size)
      have c0 : wr.cell? ⟨b, off + kk * 4, none⟩ = some (.string x.na) := (hBW.cell (p := ⟨b, off + kk * 4 + 0, none⟩) hlt0).trans (hc 0 _ rfl)
      have c1 := (hBW.cell (p := ⟨b, off + kk * 4 + 1, none⟩) hlt0).trans (hc 1 _ rfl)
      have c2 := (hBW.cell (p := ⟨b, off + kk * 4 + 2, none⟩) hlt0).trans (hc 2 _ rfl)
      have c3 := (hBW.cell (p := ⟨b, off + kk * 4 + 3, none⟩) hlt0).trans (hc 3 _ rfl)
      have hk1 := (BW.out.block w.heap.size (lt_of_block HK1.out)).trans HK1.out
      have v0 := (cell_of_block (i := 0) hk1).trans rfl
      have v1 := (cell_of_block (i := 1) hk1).trans rfl
      have hwl := lt_of_block hk1
      have hbl : b < wr.heap.size := Nat.lt_of_lt_of_le hlt0 hBW.size
      have hszw := BW.out.size
      have hta := tkA_bd l v kk
      rw [← T.out] at hta
      have hn : Hid (tkA l v (kk + 1) = if tkB l v a x = true then (kk : Int) else a) := Lib.hid (by rw [tkA, getD_of hx, ← T.out])
      have hgq : ∀ n : Nat, a = n → wr.cell? ⟨b, off + n * 4 + 3, none⟩ = some (.int .i64 (l.getD n default).qu) := fun n hn => by
        obtain ⟨z, hz⟩ : ∃ z, l[n]? = some z := ⟨l[n]'(by omega), by simp⟩
        obtain ⟨b', off', hao', hc'⟩ := HEL.out n z hz
        simp only [Option.some.injEq, Addr.mk.injEq, and_true] at hao'
        obtain ⟨rfl, rfl⟩ := hao'
        rw [getD_of hz]
        exact (hBW.cell (p := ⟨b, off + n * 4 + 3, none⟩) hlt0).trans (hc' 3 _ rfl)
      have HGQ := Lib.hid hgq
      have htb : Hid (tkB l v a x = (decide (x.ra ≤ v.ra) && decide (x.he ≤ v.he) && (decide (a < 0) || decide ((l.getD a.toNat default).qu < x.qu)))) := Lib.hid rfl
      clear hx hc hk1 hgq hBW
      go_upto_region 5 with (fail)
      go_cut [40] (fun s40 w4 => s40 = .bool (tkB l v a x) ∧ ∃ n, w4 = (wr.alloc (.cells #[.string x.na, .int .i64 x.ra, .int .i64 x.he, .int .i64 x.qu] 45)).drewN n)
      case first =>
        by_cases q1 : x.ra ≤ v.ra
        · have q1' : decide (x.ra ≤ v.ra) = true := decide_eq_true q1
          by_cases q2 : x.he ≤ v.he
          · have q2' : decide (x.he ≤ v.he) = true := decide_eq_true q2
            by_cases q3 : a < 0
            · have q3' : decide (a < 0) = true := decide_eq_true q3
              have hv : Hid (tkB l v a x = true) := Lib.hid (by rw [htb.out, q1', q2', q3']; rfl)
              go_quiet (fail)
              go_wp2
              go_meet
              exact ⟨by rw [hv.out], _, rfl⟩
            · have q3' : decide (a < 0) = false := decide_eq_false q3
              obtain ⟨n, rfl⟩ : ∃ n : Nat, a = n := ⟨a.toNat, by omega⟩
              have g3 := HGQ.out n rfl
              obtain ⟨Q, hQ⟩ : ∃ Q, Q = (l.getD n default).qu := ⟨_, rfl⟩
              rw [← hQ] at g3
              have hv : Hid (tkB l v (n : Int) x = decide (Q < x.qu)) := Lib.hid (by rw [htb.out, q1', q2', q3', Int.toNat_natCast, hQ]; simp)
              have hnl : (n : Int) < (l.length : Int) := by omega
              clear hQ q3'
              have q3' : decide ((n : Int) < 0) = false := decide_eq_false q3
              go_quiet (fail)
              go_wp2
              go_meet
              exact ⟨by rw [hv.out], _, rfl⟩
          · have q2' : decide (x.he ≤ v.he) = false := decide_eq_false q2
            have hv : Hid (tkB l v a x = false) := Lib.hid (by rw [htb.out, q1', q2']; rfl)
            go_quiet (fail)
            go_wp2
            go_meet
            exact ⟨by rw [hv.out], _, rfl⟩
        · have q1' : decide (x.ra ≤ v.ra) = false := decide_eq_false q1
          have hv : Hid (tkB l v a x = false) := Lib.hid (by rw [htb.out, q1']; rfl)
          go_quiet (fail)
          go_wp2
          go_meet
          exact ⟨by rw [hv.out], _, rfl⟩
      obtain ⟨rfl, nq, rfl⟩ := hcut
      generalize tkB l v a x = O at hn htb
      clear htb
      cases O
      case true =>
        go_wp2
        go_roundg (l.length - (kk + 1))
        case measure => omega
        case rel => exact ⟨kk + 1, kk, by omega, by omega, by go_num, rfl, (show Aside _ from by show _ = _; rw [hn.out]; rfl), below_drewN (BW.out.alloc hszw _) _⟩
      case false =>
        go_wp2
        go_roundg (l.length - (kk + 1))
        case measure => omega
        case rel => exact ⟨kk + 1, a, by omega, by omega, by go_num, rfl, (show Aside _ from by show _ = _; rw [hn.out]; rfl), below_drewN (BW.out.alloc hszw _) _⟩
    · obtain rfl : kk = l.length := by omega
      go_wp2
      go_ret
      exact ⟨ret_int (by rw [HT.out, T.out]), HB1.out.trans (BW.out.mono HB1.out.size)⟩

end Go.Proofs.Ytfkmdojnkdoffaa

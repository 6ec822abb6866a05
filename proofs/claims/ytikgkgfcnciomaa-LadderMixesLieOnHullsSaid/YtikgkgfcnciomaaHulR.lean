/- firstOfRate and corner, of the reference. -/
import Derived.Test.YtikgkgfcnciomaaSnW
namespace Go.Proofs.Ytikgkgfcnciomaa
open Go.RowKit

/-- Does y, number k, come before x, number i, of one Rate? -/
def befB (x y : Rng) (i k : Nat) : Bool := (y.ra == x.ra) && (decide (x.qu < y.qu) || ((y.qu == x.qu) && decide (k < i)))
theorem frstB_get {l : List Rng} {i : Nat} {x : Rng} (hx : l[i]? = some x) : frstB l i = (List.range l.length).all fun k => !befB x (l.getD k default) i k := by
  unfold frstB befB rA qA
  rw [getD_of hx]

set_option maxRecDepth 100000 in
set_option maxHeartbeats 4000000 in
theorem first_anyR (w : World) (l : List Rng) (v : Value) (i : Nat) (x : Rng) (hx : l[i]? = some x) (hl : Sl w 4 encR v l) :
    Calls Try.prog 30 #[v, .int .i64 i] w fun e w' => e = .returned (.bool (frstB l i)) ∧ Below w.heap.size w w' := by
  rw [frstB_get hx]
  obtain ⟨ao, cap, rfl, hcap, hmax, hnil, hel⟩ := hl
  unfold maxLen at hmax
  have hi : i < l.length := (List.getElem?_eq_some_iff.1 hx).1
  have hiz : (i : Int) < (l.length : Int) := by omega
  obtain ⟨b, off, hao, hc⟩ := hel i x hx
  subst hao
  have hblt : b < w.heap.size := World.block_lt_of_cell? w _ (hc 0 _ rfl)
  have r1 : w.cell? ⟨b, off + i * 4 + 1, none⟩ = some (.int .i64 x.ra) := hc 1 _ rfl
  have r3 : w.cell? ⟨b, off + i * 4 + 3, none⟩ = some (.int .i64 x.qu) := hc 3 _ rfl
  have HR1 := Lib.hid r1
  have HR3 := Lib.hid r3
  have HEL := Lib.hid hel
  have HALL := Lib.hid (List.all_eq_true (l := List.range l.length) (p := fun k => !befB x (l.getD k default) i k))
  generalize ((List.range l.length).all fun k => !befB x (l.getD k default) i k) = S at HALL ⊢
  clear hel hc hx r1 r3
  go_enter Try.func30, Try.ntmps30
  go_wp2
  go_loopg [9] l.length (fun gg s9 wr => ∃ k : Nat, k ≤ l.length ∧ l.length - k ≤ gg ∧ s9 = .int .i64 k ∧ Aside (Below w.heap.size w wr) ∧ Aside (∀ j, j < k → befB x (l.getD j default) i j = false))
  case atStart => exact ⟨0, Nat.zero_le _, by omega, rfl, Below.refl _ w, (show Aside _ from fun j hj => absurd hj (Nat.not_lt_zero _))⟩
  obtain ⟨k, hk, hg, rfl, BW, A⟩ := hrel
  by_cases hlt : k < l.length
  · have hltz : (k : Int) < (l.length : Int) := by omega
    obtain ⟨y, hy⟩ : ∃ x, l[k]? = some x := ⟨l[k], by simp [hlt]⟩
    obtain ⟨b', off', hao', hd⟩ := HEL.out k y hy
    simp only [Option.some.injEq, Addr.mk.injEq, and_true] at hao'
    obtain ⟨rfl, rfl⟩ := hao'
    have c0 : wr.cell? ⟨b, off + k * 4, none⟩ = some (.string y.na) := (BW.out.cell (p := ⟨b, off + k * 4 + 0, none⟩) hblt).trans (hd 0 _ rfl)
    have c1 := (BW.out.cell (p := ⟨b, off + k * 4 + 1, none⟩) hblt).trans (hd 1 _ rfl)
    have c2 := (BW.out.cell (p := ⟨b, off + k * 4 + 2, none⟩) hblt).trans (hd 2 _ rfl)
    have c3 := (BW.out.cell (p := ⟨b, off + k * 4 + 3, none⟩) hblt).trans (hd 3 _ rfl)
    have r1 := (BW.out.cell (p := ⟨b, off + i * 4 + 1, none⟩) hblt).trans HR1.out
    have r3 := (BW.out.cell (p := ⟨b, off + i * 4 + 3, none⟩) hblt).trans HR3.out
    have hszw := BW.out.size
    have hbw : b < wr.heap.size := by omega
    have HBX := Lib.hid (BW.out.alloc hszw (boxR y))
    have HD : Hid (befB x (l.getD k default) i k = ((y.ra == x.ra) && (decide (x.qu < y.qu) || ((y.qu == x.qu) && decide (k < i))))) := Lib.hid (by rw [getD_of hy]; rfl)
    obtain ⟨D, hD⟩ : ∃ D, D = befB x (l.getD k default) i k := ⟨_, rfl⟩
    rw [← hD] at HD
    have HDD := Lib.hid hD
    have hund : undef = Value.tuple #[] := rfl
    clear hy hd hD
    go_upto_region 4 with (fail)
    go_cut [46] (fun s46 w4 => s46 = .bool D ∧ ∃ n, w4 = (wr.alloc (boxR y)).drewN n)
    case first =>
      cases h1 : (y.ra == x.ra)
      case false =>
        have hv : Hid (false = D) := Lib.hid (by rw [HD.out, h1]; rfl)
        go_quiet (fail)
        go_wp2
        go_meet
        exact ⟨by rw [← hv.out], _, rfl⟩
      case true =>
        by_cases h2 : x.qu < y.qu
        · have d2 : decide (x.qu < y.qu) = true := decide_eq_true h2
          have hv : Hid (true = D) := Lib.hid (by rw [HD.out, h1, d2]; rfl)
          go_quiet (fail)
          go_wp2
          go_meet
          exact ⟨by rw [← hv.out], _, rfl⟩
        · have d2 : decide (x.qu < y.qu) = false := decide_eq_false h2
          cases h3 : (y.qu == x.qu)
          · have hv : Hid (false = D) := Lib.hid (by rw [HD.out, h1, d2, h3]; rfl)
            go_quiet (fail)
            go_wp2
            go_meet
            exact ⟨by rw [← hv.out], _, rfl⟩
          · have hv : Hid (decide (k < i) = D) := Lib.hid (by rw [HD.out, h1, d2, h3]; rfl)
            go_quiet (fail)
            go_wp2
            go_meet
            exact ⟨by rw [← hv.out], _, rfl⟩
    obtain ⟨rfl, nq, rfl⟩ := hcut
    clear hund
    cases D
    case true =>
      have hv : Hid (false = S) := Lib.hid (by
        cases S
        · rfl
        · have := HALL.out.1 rfl k (List.mem_range.2 hlt)
          rw [← HDD.out] at this
          cases this)
      go_wp2
      go_ret
      exact ⟨ret_bool hv.out, below_drewN HBX.out _⟩
    case false =>
      go_wp2
      go_roundg (l.length - (k + 1))
      case measure => omega
      case rel =>
        refine ⟨k + 1, by omega, by omega, by go_num, below_drewN HBX.out _, (show Aside (∀ j, j < k + 1 → befB x (l.getD j default) i j = false) from fun j hjk => ?_)⟩
        by_cases e : j = k
        · subst e; exact HDD.out.symm
        · exact A.out j (by omega)
  · obtain rfl : k = l.length := by omega
    have hv : Hid (true = S) := Lib.hid (HALL.out.2 (fun j hj => by rw [A.out j (List.mem_range.1 hj)]; rfl)).symm
    go_wp2
    go_ret
    exact ⟨ret_bool hv.out, BW.out⟩

/-- Does x lie not above the line from a to b? -/
def chdB (x a b : Rng) : Bool := decide (a.ra < x.ra) && decide (x.ra < b.ra) && decide ((x.qu - a.qu) * (b.ra - a.ra) ≤ (b.qu - a.qu) * (x.ra - a.ra))
theorem corB_get {l : List Rng} {i : Nat} {x : Rng} (hx : l[i]? = some x) : corB l i = l.all fun a => l.all fun b => !chdB x a b := by
  unfold corB chdB rA qA
  rw [getD_of hx, Bool.eq_iff_iff, List.all_eq_true, List.all_eq_true]
  constructor
  · intro h a ha
    obtain ⟨j, hj, rfl⟩ := List.mem_iff_getElem.1 ha
    have h1 := h j (List.mem_range.2 hj)
    rw [List.all_eq_true] at h1 ⊢
    intro b hb
    obtain ⟨k, hk, rfl⟩ := List.mem_iff_getElem.1 hb
    have h2 := h1 k (List.mem_range.2 hk)
    rwa [getD_of (List.getElem?_eq_getElem hj), getD_of (List.getElem?_eq_getElem hk)] at h2
  · intro h j hj
    rw [List.mem_range] at hj
    have h1 := h l[j] (List.getElem_mem hj)
    rw [List.all_eq_true] at h1 ⊢
    intro k hk
    rw [List.mem_range] at hk
    rw [getD_of (List.getElem?_eq_getElem hj), getD_of (List.getElem?_eq_getElem hk)]
    exact h1 l[k] (List.getElem_mem hk)

theorem mul_bd {a b A B : Int} (h1 : -A ≤ a) (h2 : a ≤ A) (h3 : -B ≤ b) (h4 : b ≤ B) : -(A * B) ≤ a * b ∧ a * b ≤ A * B := by
  have k1 : 0 ≤ (A - a) * (B + b) := Int.mul_nonneg (by omega) (by omega)
  have k2 : 0 ≤ (A + a) * (B - b) := Int.mul_nonneg (by omega) (by omega)
  have k3 : 0 ≤ (A - a) * (B - b) := Int.mul_nonneg (by omega) (by omega)
  have k4 : 0 ≤ (A + a) * (B + b) := Int.mul_nonneg (by omega) (by omega)
  simp only [Int.sub_mul, Int.add_mul, Int.mul_sub, Int.mul_add] at k1 k2 k3 k4
  omega

set_option maxRecDepth 100000 in
set_option maxHeartbeats 4000000 in
theorem corner_any (w : World) (l : List Rng) (v : Value) (i : Nat) (x : Rng) (hx : l[i]? = some x) (hl : Sl w 4 encR v l) (hin : ∀ x, x ∈ l → InR x) :
    Calls Try.prog 31 #[v, .int .i64 i] w fun e w' => e = .returned (.bool (corB l i)) ∧ Below w.heap.size w w' := by
  rw [corB_get hx]
  obtain ⟨ao, cap, rfl, hcap, hmax, hnil, hel⟩ := hl
  unfold maxLen at hmax
  have hi : i < l.length := (List.getElem?_eq_some_iff.1 hx).1
  have hiz : (i : Int) < (l.length : Int) := by omega
  obtain ⟨b, off, hao, hc⟩ := hel i x hx
  subst hao
  have hblt : b < w.heap.size := World.block_lt_of_cell? w _ (hc 0 _ rfl)
  have r0 : w.cell? ⟨b, off + i * 4, none⟩ = some (.string x.na) := hc 0 _ rfl
  have r1 : w.cell? ⟨b, off + i * 4 + 1, none⟩ = some (.int .i64 x.ra) := hc 1 _ rfl
  have r2 : w.cell? ⟨b, off + i * 4 + 2, none⟩ = some (.int .i64 x.he) := hc 2 _ rfl
  have r3 : w.cell? ⟨b, off + i * 4 + 3, none⟩ = some (.int .i64 x.qu) := hc 3 _ rfl
  have HEL := Lib.hid hel
  have HIN := Lib.hid hin
  have HIX := Lib.hid (hin x (List.mem_of_getElem? hx))
  have HALL := Lib.hid (List.all_eq_true (l := l) (p := fun a => l.all fun b => !chdB x a b))
  generalize (l.all fun a => l.all fun b => !chdB x a b) = S at HALL ⊢
  have HK := Lib.hid (block_new w (boxR x))
  have HB := Lib.hid ((Below.refl w.heap.size w).alloc (Nat.le_refl _) (boxR x))
  clear hel hc hx hin
  go_enter Try.func31, Try.ntmps31
  go_wp2
  obtain ⟨w0, hw0⟩ : ∃ w0, w0 = w.alloc (boxR x) := ⟨_, rfl⟩
  rw [show w.alloc (.cells #[.string x.na, .int .i64 x.ra, .int .i64 x.he, .int .i64 x.qu] 33) = w0 from hw0.symm]
  rw [← hw0] at HK HB
  have hlt0 := lt_of_block HK.out
  clear hw0 r0 r1 r2 r3
  go_loopg [16] l.length (fun gg s16 wr => ∃ k : Nat, k ≤ l.length ∧ l.length - k ≤ gg ∧ s16 = .int .i64 k ∧ Aside (Below w0.heap.size w0 wr) ∧ Aside (∀ j y, l[j]? = some y → j < k → (l.all fun b => !chdB x y b) = true))
  case atStart => exact ⟨0, Nat.zero_le _, by omega, rfl, Below.refl _ w0, (show Aside _ from fun j y _ hj => absurd hj (Nat.not_lt_zero _))⟩
  obtain ⟨k, hk, hg, rfl, BW, A⟩ := hrel
  by_cases hlt : k < l.length
  · have hltz : (k : Int) < (l.length : Int) := by omega
    obtain ⟨a, ha⟩ : ∃ x, l[k]? = some x := ⟨l[k], by simp [hlt]⟩
    obtain ⟨b', off', hao', hd⟩ := HEL.out k a ha
    simp only [Option.some.injEq, Addr.mk.injEq, and_true] at hao'
    obtain ⟨rfl, rfl⟩ := hao'
    have HBW := Lib.hid (HB.out.thru BW.out)
    have c0 : wr.cell? ⟨b, off + k * 4, none⟩ = some (.string a.na) := (HBW.out.cell (p := ⟨b, off + k * 4 + 0, none⟩) hblt).trans (hd 0 _ rfl)
    have c1 := (HBW.out.cell (p := ⟨b, off + k * 4 + 1, none⟩) hblt).trans (hd 1 _ rfl)
    have c2 := (HBW.out.cell (p := ⟨b, off + k * 4 + 2, none⟩) hblt).trans (hd 2 _ rfl)
    have c3 := (HBW.out.cell (p := ⟨b, off + k * 4 + 3, none⟩) hblt).trans (hd 3 _ rfl)
    have hszw := BW.out.size
    have HIA := Lib.hid (HIN.out a (List.mem_of_getElem? ha))
    have HBX := Lib.hid (BW.out.alloc hszw (boxR a))
    have HK1 := Lib.hid (block_new wr (boxR a))
    have HA := Lib.hid ha
    have HALA := Lib.hid (List.all_eq_true (l := l) (p := fun b => !chdB x a b))
    clear ha hd
    obtain ⟨wq, rfl⟩ : ∃ wq, wq = wr := ⟨_, rfl⟩
    go_wp2
    obtain ⟨w1, hw1⟩ : ∃ w1, w1 = wq.alloc (boxR a) := ⟨_, rfl⟩
    rw [show wq.alloc (.cells #[.string a.na, .int .i64 a.ra, .int .i64 a.he, .int .i64 a.qu] 33) = w1 from hw1.symm]
    rw [← hw1] at HK1 HBX
    have hlt1 := lt_of_block HK1.out
    clear hw1 c0 c1 c2 c3
    go_loopg [22] l.length (fun gg s22 wr => ∃ m : Nat, m ≤ l.length ∧ l.length - m ≤ gg ∧ s22 = .int .i64 m ∧ Aside (Below w1.heap.size w1 wr) ∧ Aside (∀ j y, l[j]? = some y → j < m → chdB x a y = false))
    case atStart => exact ⟨0, Nat.zero_le _, by omega, rfl, Below.refl _ w1, (show Aside _ from fun j y _ hj => absurd hj (Nat.not_lt_zero _))⟩
    obtain ⟨m, hm, hgm, rfl, BM, AM⟩ := hrel
    by_cases hltm : m < l.length
    · have hltmz : (m : Int) < (l.length : Int) := by omega
      obtain ⟨z, hz⟩ : ∃ x, l[m]? = some x := ⟨l[m], by simp [hltm]⟩
      obtain ⟨b', off', hao', hd⟩ := HEL.out m z hz
      simp only [Option.some.injEq, Addr.mk.injEq, and_true] at hao'
      obtain ⟨rfl, rfl⟩ := hao'
      have hszm := BM.out.size
      have HBM := Lib.hid (HBX.out.trans (BM.out.mono HBX.out.size))
      have HBZ := Lib.hid (HB.out.thru HBM.out)
      have c0 : wr.cell? ⟨b, off + m * 4, none⟩ = some (.string z.na) := (HBZ.out.cell (p := ⟨b, off + m * 4 + 0, none⟩) hblt).trans (hd 0 _ rfl)
      have c1 := (HBZ.out.cell (p := ⟨b, off + m * 4 + 1, none⟩) hblt).trans (hd 1 _ rfl)
      have c2 := (HBZ.out.cell (p := ⟨b, off + m * 4 + 2, none⟩) hblt).trans (hd 2 _ rfl)
      have c3 := (HBZ.out.cell (p := ⟨b, off + m * 4 + 3, none⟩) hblt).trans (hd 3 _ rfl)
      have hkx := (HBM.out.block _ hlt0).trans HK.out
      have hka := (BM.out.block _ hlt1).trans HK1.out
      have x1 := (cell_of_block (i := 1) hkx).trans rfl
      have x3 := (cell_of_block (i := 3) hkx).trans rfl
      have a1 := (cell_of_block (i := 1) hka).trans rfl
      have a3 := (cell_of_block (i := 3) hka).trans rfl
      have hlx := lt_of_block hkx
      have hla := lt_of_block hka
      have HIZ := HIN.out z (List.mem_of_getElem? hz)
      have hix := HIX.out
      have hia := HIA.out
      unfold InR at HIZ hix hia
      have m1 : IntKind.i64.wrap (x.qu - a.qu) = x.qu - a.qu := IntWalk.i64_in _ (by omega)
      have m2 : IntKind.i64.wrap (z.ra - a.ra) = z.ra - a.ra := IntWalk.i64_in _ (by omega)
      have m3 : IntKind.i64.wrap (z.qu - a.qu) = z.qu - a.qu := IntWalk.i64_in _ (by omega)
      have m4 : IntKind.i64.wrap (x.ra - a.ra) = x.ra - a.ra := IntWalk.i64_in _ (by omega)
      have q1 := mul_bd (a := x.qu - a.qu) (b := z.ra - a.ra) (A := 1000000) (B := 1000000000) (by omega) (by omega) (by omega) (by omega)
      have q2 := mul_bd (a := z.qu - a.qu) (b := x.ra - a.ra) (A := 1000000) (B := 1000000000) (by omega) (by omega) (by omega) (by omega)
      have m5 : IntKind.i64.wrap ((x.qu - a.qu) * (z.ra - a.ra)) = (x.qu - a.qu) * (z.ra - a.ra) := IntWalk.i64_in _ (by omega)
      have m6 : IntKind.i64.wrap ((z.qu - a.qu) * (x.ra - a.ra)) = (z.qu - a.qu) * (x.ra - a.ra) := IntWalk.i64_in _ (by omega)
      have HBQ := Lib.hid (HBM.out.alloc HBM.out.size (boxR z))
      have HMQ := Lib.hid (BM.out.alloc hszm (boxR z))
      have HD : Hid (chdB x a z = (decide (a.ra < x.ra) && decide (x.ra < z.ra) && decide ((x.qu - a.qu) * (z.ra - a.ra) ≤ (z.qu - a.qu) * (x.ra - a.ra)))) := Lib.hid rfl
      obtain ⟨D, hD⟩ : ∃ D, D = chdB x a z := ⟨_, rfl⟩
      rw [← hD] at HD
      have HDD := Lib.hid hD
      have HZ := Lib.hid hz
      have hbm2 : b < wr.heap.size := by have := HBZ.out.size; omega
      clear hz hd hD hkx hka HIZ hix hia q1 q2
      go_upto_region 8 with (fail)
      go_cut [62] (fun s62 w4 => s62 = .bool D ∧ w4 = wr.alloc (boxR z))
      case first =>
        by_cases h1 : a.ra < x.ra
        · have d1 : decide (a.ra < x.ra) = true := decide_eq_true h1
          by_cases h2 : x.ra < z.ra
          · have d2 : decide (x.ra < z.ra) = true := decide_eq_true h2
            have hv : Hid (decide ((x.qu - a.qu) * (z.ra - a.ra) ≤ (z.qu - a.qu) * (x.ra - a.ra)) = D) := Lib.hid (by rw [HD.out, d1, d2]; rfl)
            go_wp2
            go_meet
            exact ⟨by rw [← hv.out], rfl⟩
          · have d2 : decide (x.ra < z.ra) = false := decide_eq_false h2
            have hv : Hid (false = D) := Lib.hid (by rw [HD.out, d1, d2]; rfl)
            go_wp2
            go_meet
            exact ⟨by rw [← hv.out], rfl⟩
        · have d1 : decide (a.ra < x.ra) = false := decide_eq_false h1
          have hv : Hid (false = D) := Lib.hid (by rw [HD.out, d1]; rfl)
          go_wp2
          go_meet
          exact ⟨by rw [← hv.out], rfl⟩
      obtain ⟨rfl, rfl⟩ := hcut
      clear m1 m2 m3 m4 m5 m6
      cases D
      case true =>
        have hv : Hid (false = S) := Lib.hid (by
          cases S
          · rfl
          · have h1 := HALL.out.1 rfl a (List.mem_of_getElem? HA.out)
            have h2 := HALA.out.1 h1 z (List.mem_of_getElem? HZ.out)
            rw [← HDD.out] at h2
            cases h2)
        have HF := Lib.hid (HB.out.thru HBQ.out)
        go_wp2
        go_ret
        exact ⟨ret_bool hv.out, HF.out⟩
      case false =>
        go_wp2
        go_roundg (l.length - (m + 1))
        case measure => omega
        case rel =>
          refine ⟨m + 1, by omega, by omega, by go_num, HMQ.out, (show Aside (∀ j y, l[j]? = some y → j < m + 1 → chdB x a y = false) from fun j y hj hjk => ?_)⟩
          by_cases e : j = m
          · subst e
            have := HZ.out.symm.trans hj
            simp only [Option.some.injEq] at this
            subst this
            exact HDD.out.symm
          · exact AM.out j y hj (by omega)
    · obtain rfl : m = l.length := by omega
      have hv : Hid ((l.all fun b => !chdB x a b) = true) := Lib.hid (HALA.out.2 (fun z hz => by
        obtain ⟨j, hj, rfl⟩ := List.mem_iff_getElem.1 hz
        rw [AM.out j _ (List.getElem?_eq_getElem hj) hj]; rfl))
      have HBM := Lib.hid (HBX.out.trans (BM.out.mono HBX.out.size))
      go_wp2
      go_roundg (l.length - (k + 1))
      case measure => omega
      case rel =>
        refine ⟨k + 1, by omega, by omega, by go_num, HBM.out, (show Aside (∀ j y, l[j]? = some y → j < k + 1 → (l.all fun b => !chdB x y b) = true) from fun j y hj hjk => ?_)⟩
        by_cases e : j = k
        · subst e
          have := HA.out.symm.trans hj
          simp only [Option.some.injEq] at this
          subst this
          exact hv.out
        · exact A.out j y hj (by omega)
  · obtain rfl : k = l.length := by omega
    have hv : Hid (true = S) := Lib.hid (HALL.out.2 (fun z hz => by
      obtain ⟨j, hj, rfl⟩ := List.mem_iff_getElem.1 hz
      exact A.out j _ (List.getElem?_eq_getElem hj) hj)).symm
    have HF := Lib.hid (HB.out.thru BW.out)
    go_wp2
    go_ret
    exact ⟨ret_bool hv.out, HF.out⟩
end Go.Proofs.Ytikgkgfcnciomaa

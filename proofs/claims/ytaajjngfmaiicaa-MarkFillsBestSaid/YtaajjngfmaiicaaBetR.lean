/- Which of two choices is better, of the reference. -/
import Derived.Test.YtaajjngfmaiicaaBetA
namespace Go.Proofs.Ytaajjngfmaiicaa
open Go.RowKit

set_option maxHeartbeats 2000000 in
set_option maxRecDepth 100000 in
theorem betterR_any (w : World) (a1 a2 b1 b2 : Int) (A B : List Int) (v u : Value) (r1 f1 r2 f2 : Bool) (hA : Sl w 1 encI v A) (hB : Sl w 1 encI u B) :
    Calls Try.prog 16 #[.agg #[v, .int .i64 a2, .int .i64 a1, .bool r1, .bool f1], .agg #[u, .int .i64 b2, .int .i64 b1, .bool r2, .bool f2]] w fun e w' => e = .returned (.bool (betK a1 a2 A b1 b2 B)) ∧ Below w.heap.size w w' := by
  have HK : Hid (betK a1 a2 A b1 b2 B = if a1 ≠ b1 then decide (b1 < a1) else if a2 ≠ b2 then decide (b2 < a2) else if A.length ≠ B.length then decide (A.length < B.length) else decide (A < B)) := Lib.hid rfl
  generalize betK a1 a2 A b1 b2 B = K at HK ⊢
  have B2 := Lib.hid (((Below.refl w.heap.size w).alloc (Nat.le_refl _) (.cells #[v, .int .i64 a2, .int .i64 a1, .bool r1, .bool f1] 45)).alloc (by simp) (.cells #[u, .int .i64 b2, .int .i64 b1, .bool r2, .bool f2] 45))
  obtain ⟨ao, cap, rfl, hcap, hmax, hnil, hel⟩ := hA
  obtain ⟨bo, bap, rfl, hbap, hbax, hbil, hem⟩ := hB
  unfold maxLen at hmax hbax
  have HEL := Lib.hid hel
  have HEM := Lib.hid hem
  clear hel hem hnil hbil
  cases e1 : (a1 != b1)
  case true =>
    have hv : Hid (decide (b1 < a1) = K) := Lib.hid (by rw [HK.out, if_pos (by simpa using e1)])
    go_enter Try.func16, Try.ntmps16
    go_wp2
    go_ret
    exact ⟨ret_bool hv.out, B2.out⟩
  have HK2 := Lib.hid (HK.out.trans (if_neg (by simpa using e1)))
  clear HK
  cases e2 : (a2 != b2)
  case true =>
    have hv : Hid (decide (b2 < a2) = K) := Lib.hid (by rw [HK2.out, if_pos (by simpa using e2)])
    go_enter Try.func16, Try.ntmps16
    go_wp2
    go_ret
    exact ⟨ret_bool hv.out, B2.out⟩
  have HK3 := Lib.hid (HK2.out.trans (if_neg (by simpa using e2)))
  clear HK2
  by_cases e3 : A.length = B.length
  · have e3' : ((A.length : Int) != (B.length : Int)) = false := by rw [e3]; simp
    have HK4 := Lib.hid (HK3.out.trans (if_neg (by simpa using e3)))
    obtain ⟨n, hn⟩ : ∃ n, n = A.length := ⟨_, rfl⟩
    have HN := Lib.hid hn
    have HM : Hid (n = B.length) := Lib.hid (by rw [hn, e3])
    have e4 : A.length = n := hn.symm
    have e5 : B.length = n := by rw [hn, e3]
    rw [e4] at e3' B2 hcap ⊢
    rw [e5] at e3' B2 hbap ⊢
    clear e3 e4 e5 hn
    have hK0 := block_new w (.cells #[.slice ao n cap, .int .i64 a2, .int .i64 a1, .bool r1, .bool f1] 45)
    have hsz : (w.alloc (.cells #[.slice ao n cap, .int .i64 a2, .int .i64 a1, .bool r1, .bool f1] 45)).heap.size = w.heap.size + 1 := by simp
    have hK1 := block_new (w.alloc (.cells #[.slice ao n cap, .int .i64 a2, .int .i64 a1, .bool r1, .bool f1] 45)) (.cells #[.slice bo n bap, .int .i64 b2, .int .i64 b1, .bool r2, .bool f2] 45)
    rw [hsz] at hK1
    have hK0' := (Below.heap_alloc (w.alloc (.cells #[.slice ao n cap, .int .i64 a2, .int .i64 a1, .bool r1, .bool f1] 45)) (.cells #[.slice bo n bap, .int .i64 b2, .int .i64 b1, .bool r2, .bool f2] 45) w.heap.size (by simp)).trans hK0
    go_enter Try.func16, Try.ntmps16
    obtain ⟨w2, hw2⟩ : ∃ w2, w2 = (w.alloc (.cells #[.slice ao n cap, .int .i64 a2, .int .i64 a1, .bool r1, .bool f1] 45)).alloc (.cells #[.slice bo n bap, .int .i64 b2, .int .i64 b1, .bool r2, .bool f2] 45) := ⟨_, rfl⟩
    rw [← hw2] at hK0' hK1 B2
    have HW2 := Lib.hid hw2
    have HKA := Lib.hid hK0'
    have HKB := Lib.hid hK1
    clear hw2 hK0' hK1 hK0 hsz
    go_wp2
    rw [← HW2.out]
    have q0 := (cell_of_block (i := 0) HKA.out).trans rfl
    have r0 := (cell_of_block (i := 0) HKB.out).trans rfl
    have l0 := lt_of_block HKA.out
    have l1 := lt_of_block HKB.out
    go_loopg [5] n (fun gg s5 wr => ∃ kk : Nat, kk ≤ n ∧ n - kk ≤ gg ∧ s5 = .int .i64 kk ∧ (∃ nn, wr = w2.drewN nn) ∧ Aside (A.take kk = B.take kk))
    case atStart => exact ⟨0, Nat.zero_le _, by omega, rfl, ⟨0, rfl⟩, (show Aside _ from rfl)⟩
    case round =>
      obtain ⟨kk, hkk, hg, rfl, ⟨nn, rfl⟩, HP⟩ := hrel
      by_cases hlt : kk < n
      · have hltz : (kk : Int) < (n : Int) := by omega
        have hlA : kk < A.length := by rw [← HN.out]; exact hlt
        have hlB : kk < B.length := by rw [← HM.out]; exact hlt
        obtain ⟨x, hx⟩ : ∃ x, A[kk]? = some x := ⟨A[kk], by simp [hlA]⟩
        obtain ⟨y, hy⟩ : ∃ x, B[kk]? = some x := ⟨B[kk], by simp [hlB]⟩
        obtain ⟨b, off, rfl, hc⟩ := HEL.out kk x hx
        obtain ⟨b', off', rfl, hd⟩ := HEM.out kk y hy
        have c0 : w2.cell? ⟨b, off + kk, none⟩ = some (.int .i64 x) := by have h := (B2.out.cell (p := ⟨b, off + kk * 1 + 0, none⟩) (World.block_lt_of_cell? w _ (hc 0 _ rfl))).trans (hc 0 _ rfl); simpa using h
        have d0 : w2.cell? ⟨b', off' + kk, none⟩ = some (.int .i64 y) := by have h := (B2.out.cell (p := ⟨b', off' + kk * 1 + 0, none⟩) (World.block_lt_of_cell? w _ (hd 0 _ rfl))).trans (hd 0 _ rfl); simpa using h
        have HX := Lib.hid hx
        have HY := Lib.hid hy
        clear hx hy hc hd hlA hlB
        cases e : (x != y)
        case true =>
          have hv : Hid (decide (x < y) = K) := Lib.hid (by
            have e' : x ≠ y := by simpa using e
            rw [HK4.out]
            by_cases h : x < y
            · rw [decide_eq_true h, decide_eq_true (lt_hit HP.out HX.out HY.out h)]
            · have h2 : y < x := by omega
              rw [decide_eq_false h, decide_eq_false (fun h3 => List.lt_irrefl _ (List.lt_trans h3 (lt_hit HP.out.symm HY.out HX.out h2)))])
          go_wp2
          go_quiet (fail)
          go_wp2
          go_quiet (fail)
          go_wp2
          go_ret
          exact ⟨ret_bool hv.out, below_drewN (below_drewN (below_drewN B2.out _) _) _⟩
        case false =>
          have hxy : Hid (x = y) := Lib.hid (by simpa using e)
          go_wp2
          go_quiet (fail)
          go_wp2
          go_roundg (n - (kk + 1))
          case measure => omega
          case rel => exact ⟨kk + 1, by omega, by omega, by go_num, ⟨_, rfl⟩, (show Aside _ from (show A.take (kk + 1) = B.take (kk + 1) by rw [take_next HX.out, take_next HY.out, HP.out, hxy.out]))⟩
      · obtain rfl : kk = n := by omega
        have hv : Hid (false = K) := Lib.hid (by
          have h := HP.out
          rw [List.take_of_length_le (Nat.le_of_eq HN.out.symm), List.take_of_length_le (Nat.le_of_eq HM.out.symm)] at h
          rw [HK4.out, h, decide_eq_false (List.lt_irrefl B)])
        go_wp2
        go_ret
        exact ⟨ret_bool hv.out, below_drewN B2.out _⟩
  · have e3' : ((A.length : Int) != (B.length : Int)) = true := by simpa using fun h => e3 (by omega)
    have hv : Hid (decide (A.length < B.length) = K) := Lib.hid (by rw [HK3.out, if_pos e3])
    clear e3
    go_enter Try.func16, Try.ntmps16
    go_wp2
    go_ret
    exact ⟨ret_bool (by rw [← hv.out]), B2.out⟩
end Go.Proofs.Ytaajjngfmaiicaa

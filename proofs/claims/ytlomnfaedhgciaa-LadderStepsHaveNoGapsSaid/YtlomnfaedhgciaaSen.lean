/- Is a rendition worth having? Of the program and of the reference. -/
import Derived.Test.YtlomnfaedhgciaaIdxR
namespace Go.Proofs.Ytlomnfaedhgciaa
open Go.RowKit

/-- Is o better than r? -/
def domB (o r : Rng) : Bool := decide (o.ra ≤ r.ra) && decide (r.qu ≤ o.qu) && (decide (o.ra < r.ra) || decide (r.qu < o.qu))
def senB (l : List Rng) (r : Rng) : Bool := !(l.any fun o => domB o r)

set_option maxHeartbeats 1000000 in
theorem domC_any (r o : Rng) (B : Nat) (W : World) (h : W.heap[B]? = some (.cells #[.string r.na, .int .i64 r.ra, .int .i64 r.he, .int .i64 r.qu] 47 (0, 0))) :
    Calls Try.prog 35 #[.agg #[.string o.na, .int .i64 o.ra, .int .i64 o.he, .int .i64 o.qu], .pointer (some ⟨B, 0, none⟩)] W fun e w' => e = .returned (.bool (domB o r)) ∧ Below W.heap.size W w' := by
  have c1 := (cell_of_block (i := 1) h).trans rfl
  have c3 := (cell_of_block (i := 3) h).trans rfl
  have hlt := lt_of_block h
  have HB := Lib.hid ((Below.refl W.heap.size W).alloc (Nat.le_refl _) (.cells #[.string o.na, .int .i64 o.ra, .int .i64 o.he, .int .i64 o.qu] 47))
  have HD : Hid (domB o r = (decide (o.ra ≤ r.ra) && decide (r.qu ≤ o.qu) && (decide (o.ra < r.ra) || decide (r.qu < o.qu)))) := Lib.hid rfl
  generalize domB o r = D at HD ⊢
  clear h
  by_cases h1 : o.ra ≤ r.ra
  · have d1 : decide (o.ra ≤ r.ra) = true := decide_eq_true h1
    by_cases h2 : r.qu ≤ o.qu
    · have d2 : decide (r.qu ≤ o.qu) = true := decide_eq_true h2
      by_cases h3 : o.ra < r.ra
      · have d3 : decide (o.ra < r.ra) = true := decide_eq_true h3
        have hv : Hid (true = D) := Lib.hid (by rw [HD.out, d1, d2, d3]; rfl)
        go_enter Try.func35, Try.ntmps35
        go_wp2
        go_ret
        exact ⟨ret_bool hv.out, HB.out⟩
      · have d3 : decide (o.ra < r.ra) = false := decide_eq_false h3
        have hv : Hid (decide (r.qu < o.qu) = D) := Lib.hid (by rw [HD.out, d1, d2, d3]; simp)
        go_enter Try.func35, Try.ntmps35
        go_wp2
        go_ret
        exact ⟨ret_bool hv.out, HB.out⟩
    · have d2 : decide (r.qu ≤ o.qu) = false := decide_eq_false h2
      have hv : Hid (false = D) := Lib.hid (by rw [HD.out, d1, d2]; rfl)
      go_enter Try.func35, Try.ntmps35
      go_wp2
      go_ret
      exact ⟨ret_bool hv.out, HB.out⟩
  · have d1 : decide (o.ra ≤ r.ra) = false := decide_eq_false h1
    have hv : Hid (false = D) := Lib.hid (by rw [HD.out, d1]; rfl)
    go_enter Try.func35, Try.ntmps35
    go_wp2
    go_ret
    exact ⟨ret_bool hv.out, HB.out⟩

theorem sensible_any (w : World) (l : List Rng) (v : Value) (r : Rng) (hl : Sl w 4 encR v l) :
    Calls Try.prog 20 #[v, .agg #[.string r.na, .int .i64 r.ra, .int .i64 r.he, .int .i64 r.qu]] w fun e w' => e = .returned (.bool (senB l r)) ∧ Below w.heap.size w w' := by
  have HB := Lib.hid ((Below.refl w.heap.size w).alloc (Nat.le_refl _) (.cells #[.string r.na, .int .i64 r.ra, .int .i64 r.he, .int .i64 r.qu] 47))
  have hsz : w.heap.size < (w.alloc (.cells #[.string r.na, .int .i64 r.ra, .int .i64 r.he, .int .i64 r.qu] 47)).heap.size := by simp
  have HANY := Lib.hid (anyR 35 #[.pointer (some ⟨w.heap.size, 0, none⟩)] (fun o => domB o r) _ l v (hl.below HB.out (Nat.le_refl _)) (enters_of Try.func35 (by kernel_rfl) rfl)
    (fun W o _ hb => domC_any r o w.heap.size W ((hb.block _ hsz).trans (block_new w _))))
  have hv : Hid ((!(l.any fun o => domB o r)) = senB l r) := Lib.hid rfl
  generalize (l.any fun o => domB o r) = A at HANY hv
  generalize senB l r = S at hv ⊢
  clear hl hsz
  go_enter Try.func20, Try.ntmps20
  go_wp2_with (go_at_call 21; refine HANY.out.mono ?_; rintro e w' ⟨rfl, hb⟩)
  go_ret
  exact ⟨ret_bool hv.out, HB.out.thru hb⟩

set_option maxRecDepth 100000 in
set_option maxHeartbeats 2000000 in
theorem sensibleR_any (w : World) (l : List Rng) (v : Value) (i : Nat) (r : Rng) (hr : l[i]? = some r) (hl : Sl w 4 encR v l) :
    Calls Try.prog 28 #[v, .int .i64 i] w fun e w' => e = .returned (.bool (senB l r)) ∧ Below w.heap.size w w' := by
  obtain ⟨ao, cap, rfl, hcap, hmax, hnil, hel⟩ := hl
  unfold maxLen at hmax
  have hi : i < l.length := (List.getElem?_eq_some_iff.1 hr).1
  have hiz : (i : Int) < (l.length : Int) := by omega
  obtain ⟨b, off, hao, hc⟩ := hel i r hr
  subst hao
  have hblt : b < w.heap.size := World.block_lt_of_cell? w _ (hc 0 _ rfl)
  have r1 : w.cell? ⟨b, off + i * 4 + 1, none⟩ = some (.int .i64 r.ra) := hc 1 _ rfl
  have r3 : w.cell? ⟨b, off + i * 4 + 3, none⟩ = some (.int .i64 r.qu) := hc 3 _ rfl
  have HR1 := Lib.hid r1
  have HR3 := Lib.hid r3
  have HEL := Lib.hid hel
  have HS : Hid (senB l r = !(l.any fun o => domB o r)) := Lib.hid rfl
  generalize senB l r = S at HS ⊢
  clear hel hc hr r1 r3
  go_enter Try.func28, Try.ntmps28
  go_wp2
  go_loopg [6, 9] l.length (fun gg _ s9 wr => ∃ k : Nat, k ≤ l.length ∧ l.length - k ≤ gg ∧ s9 = .int .i64 k ∧ Aside (Below w.heap.size w wr) ∧ Aside (∀ j x, l[j]? = some x → j < k → domB x r = false))
  case atStart => exact ⟨0, Nat.zero_le _, by omega, rfl, Below.refl _ w, (show Aside _ from fun j x _ hj => absurd hj (Nat.not_lt_zero _))⟩
  case round =>
    obtain ⟨k, hk, hg, rfl, BW, A⟩ := hrel
    by_cases hlt : k < l.length
    · have hltz : (k : Int) < (l.length : Int) := by omega
      obtain ⟨o, ho⟩ : ∃ x, l[k]? = some x := ⟨l[k], by simp [hlt]⟩
      obtain ⟨b', off', hao', hd⟩ := HEL.out k o ho
      simp only [Option.some.injEq, Addr.mk.injEq, and_true] at hao'
      obtain ⟨rfl, rfl⟩ := hao'
      have c0 : wr.cell? ⟨b, off + k * 4, none⟩ = some (.string o.na) := (BW.out.cell (p := ⟨b, off + k * 4 + 0, none⟩) hblt).trans (hd 0 _ rfl)
      have c1 := (BW.out.cell (p := ⟨b, off + k * 4 + 1, none⟩) hblt).trans (hd 1 _ rfl)
      have c2 := (BW.out.cell (p := ⟨b, off + k * 4 + 2, none⟩) hblt).trans (hd 2 _ rfl)
      have c3 := (BW.out.cell (p := ⟨b, off + k * 4 + 3, none⟩) hblt).trans (hd 3 _ rfl)
      have r1 := (BW.out.cell (p := ⟨b, off + i * 4 + 1, none⟩) hblt).trans HR1.out
      have r3 := (BW.out.cell (p := ⟨b, off + i * 4 + 3, none⟩) hblt).trans HR3.out
      have hszw := BW.out.size
      have hbw : b < wr.heap.size := by omega
      have HBX := Lib.hid (BW.out.alloc hszw (.cells #[.string o.na, .int .i64 o.ra, .int .i64 o.he, .int .i64 o.qu] 47))
      have HO := Lib.hid ho
      have HD : Hid (domB o r = (decide (o.ra ≤ r.ra) && decide (r.qu ≤ o.qu) && (o.ra != r.ra || o.qu != r.qu))) := Lib.hid (by
        unfold domB
        rw [Bool.eq_iff_iff]
        simp
        omega)
      obtain ⟨D, hD⟩ : ∃ D, D = domB o r := ⟨_, rfl⟩
      rw [← hD] at HD
      have HDD := Lib.hid hD
      clear ho hd hD
      go_upto_region 4 with (fail)
      go_cut [50] (fun s50 w4 => s50 = .bool D ∧ ∃ n, w4 = (wr.alloc (.cells #[.string o.na, .int .i64 o.ra, .int .i64 o.he, .int .i64 o.qu] 47)).drewN n)
      case first =>
        by_cases h1 : o.ra ≤ r.ra
        · have d1 : decide (o.ra ≤ r.ra) = true := decide_eq_true h1
          by_cases h2 : r.qu ≤ o.qu
          · have d2 : decide (r.qu ≤ o.qu) = true := decide_eq_true h2
            cases h3 : (o.ra != r.ra)
            · have hv : Hid ((o.qu != r.qu) = D) := Lib.hid (by rw [HD.out, d1, d2, h3]; simp)
              go_quiet (fail)
              go_wp2
              go_meet
              exact ⟨by rw [← hv.out], _, rfl⟩
            · have hv : Hid (true = D) := Lib.hid (by rw [HD.out, d1, d2, h3]; rfl)
              go_quiet (fail)
              go_wp2
              go_meet
              exact ⟨by rw [← hv.out], _, rfl⟩
          · have d2 : decide (r.qu ≤ o.qu) = false := decide_eq_false h2
            have hv : Hid (false = D) := Lib.hid (by rw [HD.out, d1, d2]; rfl)
            go_quiet (fail)
            go_wp2
            go_meet
            exact ⟨by rw [← hv.out], _, rfl⟩
        · have d1 : decide (o.ra ≤ r.ra) = false := decide_eq_false h1
          have hv : Hid (false = D) := Lib.hid (by rw [HD.out, d1]; rfl)
          go_quiet (fail)
          go_wp2
          go_meet
          exact ⟨by rw [← hv.out], _, rfl⟩
      obtain ⟨rfl, nq, rfl⟩ := hcut
      cases D
      case true =>
        have hv : Hid (false = S) := Lib.hid (by
          have h : (l.any fun o => domB o r) = true := List.any_eq_true.2 ⟨o, List.mem_of_getElem? HO.out, HDD.out.symm⟩
          rw [HS.out, h]; rfl)
        go_wp2
        go_ret
        exact ⟨ret_bool hv.out, below_drewN HBX.out _⟩
      case false =>
        go_wp2
        go_roundg (l.length - (k + 1))
        case measure => omega
        case rel =>
          refine ⟨k + 1, by omega, by omega, by go_num, below_drewN HBX.out _, (show Aside (∀ j x, l[j]? = some x → j < k + 1 → domB x r = false) from fun j x hj hjk => ?_)⟩
          by_cases e : j = k
          · subst e
            have := HO.out.symm.trans hj
            simp only [Option.some.injEq] at this
            subst this
            exact HDD.out.symm
          · exact A.out j x hj (by omega)
    · obtain rfl : k = l.length := by omega
      have hv : Hid (true = S) := Lib.hid (by
        have h : (l.any fun o => domB o r) = false := by
          rw [List.any_eq_false]
          intro x hx
          obtain ⟨j, hj, rfl⟩ := List.mem_iff_getElem.1 hx
          rw [A.out j _ (List.getElem?_eq_getElem hj) hj]; simp
        rw [HS.out, h]; rfl)
      go_wp2
      go_ret
      exact ⟨ret_bool hv.out, BW.out⟩
end Go.Proofs.Ytlomnfaedhgciaa

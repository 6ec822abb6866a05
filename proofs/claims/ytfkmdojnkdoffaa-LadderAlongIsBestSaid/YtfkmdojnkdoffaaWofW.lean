/- weightOf of the reference. -/
import Derived.Test.YtfkmdojnkdoffaaAlgL
import Derived.Deep.QuietTactic
namespace Go.Proofs.Ytfkmdojnkdoffaa
open Go.RowKit

set_option maxHeartbeats 1000000 in
theorem weightOf_any (w : World) (c : List Vw) (v : Value) (lo hi : Int) (hc : Sl w 3 encV v c) (hc1 : c.length ≤ 200) (hcv : ∀ v, v ∈ c → 1 ≤ v.we ∧ v.we ≤ 1000000) :
    Calls Try.prog 33 #[v, .int .i64 lo, .int .i64 hi] w fun e w' => e = .returned (.int .i64 (wg c lo hi)) ∧ Below w.heap.size w w' := by
  obtain ⟨co, ccap, rfl, hccap, hcmax, _, hcel⟩ := hc
  unfold maxLen at hcmax
  have HCE := Lib.hid hcel
  have HBD := Lib.hid (fun (t : Nat) (ht : t ≤ c.length) => wgA_bd (lo := lo) (hi := hi) hcv t ht)
  clear hcel hcv
  go_enter Try.func33, Try.ntmps33
  go_wp2
  go_loopg [7, 12] c.length (fun gg s7 s12 wr => ∃ t : Nat, t ≤ c.length ∧ c.length - t ≤ gg ∧ s12 = .int .i64 t ∧ s7 = .int .i64 (wgA c lo hi t) ∧ Aside (Below w.heap.size w wr))
  case atStart => exact ⟨0, by omega, by omega, rfl, rfl, (show Aside _ from Below.refl _ _)⟩
  case round =>
    obtain ⟨t, ht, hgt, rfl, rfl, BW⟩ := hrel
    by_cases htc : t < c.length
    · have htz : (t : Int) < (c.length : Int) := by omega
      obtain ⟨y, hy⟩ : ∃ y, c[t]? = some y := ⟨c[t], by simp [htc]⟩
      obtain ⟨cb, coff, rfl, hcy⟩ := HCE.out t y hy
      have hcl : cb < w.heap.size := World.block_lt_of_cell? w _ (hcy 0 _ rfl)
      have y0 : wr.cell? ⟨cb, coff + t * 3, none⟩ = some (.int .i64 y.ra) := by have h := (BW.out.cell (p := ⟨cb, coff + t * 3 + 0, none⟩) hcl).trans (hcy 0 _ rfl); simpa using h
      have y1 := (BW.out.cell (p := ⟨cb, coff + t * 3 + 1, none⟩) hcl).trans (hcy 1 _ rfl)
      have y2 := (BW.out.cell (p := ⟨cb, coff + t * 3 + 2, none⟩) hcl).trans (hcy 2 _ rfl)
      have HNX := Lib.hid (wgA_next (lo := lo) (hi := hi) hy)
      have hb1 := HBD.out (t + 1) (by omega)
      have hb0 := HBD.out t (by omega)
      rw [HNX.out] at hb1
      have HNB : Hid (∀ n, Below w.heap.size w ((wr.alloc (.cells #[.int .i64 y.ra, .int .i64 y.he, .int .i64 y.we] 63)).drewN n)) := Lib.hid (fun n => below_drewN (BW.out.alloc BW.out.size _) n)
      obtain ⟨z, hz⟩ : ∃ z, z = wgA c lo hi t := ⟨_, rfl⟩
      rw [← hz] at hb0 hb1 HNX ⊢
      clear hy hcy hz BW
      by_cases e1 : lo ≤ y.ra
      · by_cases e2 : y.ra < hi
        · have hw1 : wg1 lo hi y = y.we := by unfold wg1; rw [if_pos ⟨e1, e2⟩]
          rw [hw1] at hb1
          have HN2 : Hid (wgA c lo hi (t + 1) = z + y.we) := Lib.hid (by rw [HNX.out, hw1])
          have hzw : IntKind.i64.wrap (z + y.we) = z + y.we := IntWalk.i64_in _ (by omega)
          clear hw1
          go_wp2
          go_roundg (c.length - (t + 1))
          case measure => omega
          case rel => exact ⟨t + 1, by omega, by omega, by go_num, (by rw [HN2.out]), (show Aside _ from HNB.out 0)⟩
        · have hw1 : wg1 lo hi y = 0 := by unfold wg1; rw [if_neg (fun h => e2 h.2)]
          have HN2 : Hid (wgA c lo hi (t + 1) = z) := Lib.hid (by rw [HNX.out, hw1, Int.add_zero])
          clear hw1
          go_wp2
          go_roundg (c.length - (t + 1))
          case measure => omega
          case rel => exact ⟨t + 1, by omega, by omega, by go_num, (by rw [HN2.out]), (show Aside _ from HNB.out 0)⟩
      · have hw1 : wg1 lo hi y = 0 := by unfold wg1; rw [if_neg (fun h => e1 h.1)]
        have HN2 : Hid (wgA c lo hi (t + 1) = z) := Lib.hid (by rw [HNX.out, hw1, Int.add_zero])
        clear hw1
        go_wp2
        go_roundg (c.length - (t + 1))
        case measure => omega
        case rel => exact ⟨t + 1, by omega, by omega, by go_num, (by rw [HN2.out]), (show Aside _ from HNB.out 0)⟩
    · obtain rfl : t = c.length := by omega
      go_wp2
      go_ret
      exact ⟨rfl, BW.out⟩
end Go.Proofs.Ytfkmdojnkdoffaa

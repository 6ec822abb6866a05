/- Does one point lie above the line between two others? -/
import Derived.Test.YtikgkgfcnciomaaWidS
import Derived.Test.YtikgkgfcnciomaaHulL
import Derived.Deep.RegionHeld3
namespace Go.Proofs.Ytikgkgfcnciomaa
open Go.RowKit

/-- Does b lie above the line from a to c? -/
def abvB (a b c : Rng) : Bool := decide ((c.qu - a.qu) * (b.ra - a.ra) < (b.qu - a.qu) * (c.ra - a.ra))
def InR (x : Rng) : Prop := (0 ≤ x.ra ∧ x.ra ≤ 1000000000) ∧ (0 ≤ x.qu ∧ x.qu ≤ 1000000)
abbrev agR (x : Rng) : Value := .agg #[.string x.na, .int .i64 x.ra, .int .i64 x.he, .int .i64 x.qu]
abbrev boxR (x : Rng) : Obj := .cells #[.string x.na, .int .i64 x.ra, .int .i64 x.he, .int .i64 x.qu] 33

theorem sgn_abv (x y : Int) : decide (0 < sgn x y) = decide (y < x) := by
  unfold sgn
  rw [Bool.eq_iff_iff]
  simp only [decide_eq_true_eq]
  split
  · omega
  · split <;> omega

theorem boxes3 (w : World) (o1 o2 o3 : Obj) : (((w.alloc o1).alloc o2).alloc o3).heap[w.heap.size]? = some o1 ∧ (((w.alloc o1).alloc o2).alloc o3).heap[w.heap.size + 1]? = some o2 ∧ (((w.alloc o1).alloc o2).alloc o3).heap[w.heap.size + 1 + 1]? = some o3 ∧
    Below w.heap.size w (((w.alloc o1).alloc o2).alloc o3) := by
  have h1 := block_new w o1
  have h2 := block_new (w.alloc o1) o2
  have h3 := block_new ((w.alloc o1).alloc o2) o3
  have s1 : (w.alloc o1).heap.size = w.heap.size + 1 := by simp
  have s2 : ((w.alloc o1).alloc o2).heap.size = w.heap.size + 1 + 1 := by simp
  rw [s1] at h2
  rw [s2] at h3
  refine ⟨?_, ?_, h3, (((Below.refl _ _).alloc (Nat.le_refl _) _).alloc (by simp) _).alloc (by simp; omega) _⟩
  · rw [Below.heap_alloc _ _ _ (by omega), Below.heap_alloc _ _ _ (by omega)]; exact h1
  · rw [Below.heap_alloc _ _ _ (by omega)]; exact h2

set_option maxHeartbeats 2000000 in
theorem above_any (a b c : Rng) (w : World) (ha : InR a) (hb : InR b) (hc : InR c) :
    Calls Try.prog 41 #[agR a, agR b, agR c] w fun e w' => e = .returned (.bool (abvB a b c)) ∧ Below w.heap.size w w' := by
  unfold InR at ha hb hc
  have hw1 : IntKind.i64.wrap (b.qu - a.qu) = b.qu - a.qu := IntWalk.i64_in _ (by omega)
  have hw2 : IntKind.i64.wrap (c.ra - a.ra) = c.ra - a.ra := IntWalk.i64_in _ (by omega)
  have hw3 : IntKind.i64.wrap (c.qu - a.qu) = c.qu - a.qu := IntWalk.i64_in _ (by omega)
  have hw4 : IntKind.i64.wrap (b.ra - a.ra) = b.ra - a.ra := IntWalk.i64_in _ (by omega)
  have t1 := Lib.hid (fun w => times_any (b.qu - a.qu) (c.ra - a.ra) w (by omega) (by omega) (by omega) (by omega))
  have t2 := Lib.hid (fun w => times_any (c.qu - a.qu) (b.ra - a.ra) w (by omega) (by omega) (by omega) (by omega))
  obtain ⟨x, hx⟩ : ∃ x, x = (b.qu - a.qu) * (c.ra - a.ra) := ⟨_, rfl⟩
  obtain ⟨y, hy⟩ : ∃ y, y = (c.qu - a.qu) * (b.ra - a.ra) := ⟨_, rfl⟩
  have HS : Hid (decide (0 < sgn x y) = abvB a b c) := Lib.hid (by rw [sgn_abv, hx, hy]; rfl)
  have t3 := Lib.hid (fun w => (show Calls Try.prog 46 #[.agg #[.int .i64 (hiW x), .int .u64 (loW x)], .agg #[.int .i64 (hiW y), .int .u64 (loW y)]] w fun e w' => e = .returned (.int .i64 (sgn x y)) ∧ Below w.heap.size w w' by
    have h := icmp_any (hiW x) (loW x) (hiW y) (loW y) w
    rw [sgn_wideZ] at h
    exact h))
  rw [← hx] at t1
  rw [← hy] at t2
  clear hx hy ha hb hc
  generalize sgn x y = R at t3 HS
  generalize abvB a b c = F at HS ⊢
  generalize hiW x = x1 at t1 t3
  generalize loW x = x2 at t1 t3
  generalize hiW y = x3 at t2 t3
  generalize loW y = x4 at t2 t3
  obtain ⟨k1, k2, k3, kb⟩ := boxes3 w (boxR a) (boxR b) (boxR c)
  have K1 := Lib.hid k1
  have K2 := Lib.hid k2
  have K3 := Lib.hid k3
  have KB := Lib.hid kb
  clear k1 k2 k3 kb
  go_enter Try.func41, Try.ntmps41
  go_upto_region 2 with (go_at_call 45; ((with_reducible refine (t1.out _).mono ?_); rintro e w' ⟨rfl, hb⟩))
  have B1 := (hb.block _ (lt_of_block K1.out)).trans K1.out
  have B2 := (hb.block _ (lt_of_block K2.out)).trans K2.out
  have B3 := (hb.block _ (lt_of_block K3.out)).trans K3.out
  have HB := Lib.hid (KB.out.thru hb)
  have HX := Lib.hid (HB.out.alloc HB.out.size (.cells #[.int .i64 x1, .int .u64 x2] 60))
  have l1 := lt_of_block B1
  have l2 := lt_of_block B2
  have l3 := lt_of_block B3
  have n1 := (Below.heap_alloc w' (.cells #[.int .i64 x1, .int .u64 x2] 60) _ l1).trans B1
  have n2 := (Below.heap_alloc w' (.cells #[.int .i64 x1, .int .u64 x2] 60) _ l2).trans B2
  have n3 := (Below.heap_alloc w' (.cells #[.int .i64 x1, .int .u64 x2] 60) _ l3).trans B3
  have n4 := block_new w' (.cells #[.int .i64 x1, .int .u64 x2] 60)
  have hl4 := lt_of_block n4
  have hl1 := lt_of_block n1
  have hl2 := lt_of_block n2
  have hl3 := lt_of_block n3
  obtain ⟨w4, hw4⟩ : ∃ w4, w4 = w'.alloc (.cells #[.int .i64 x1, .int .u64 x2] 60) := ⟨_, rfl⟩
  rw [← hw4] at n1 n2 n3 n4 hl1 hl2 hl3 hl4 HX ⊢
  have HSS : Hid (∀ W : World, Below w4.heap.size w4 W → (W.cell? ⟨w.heap.size, 3, none⟩ = some (.int .i64 a.qu) ∧ W.cell? ⟨w.heap.size, 1, none⟩ = some (.int .i64 a.ra) ∧ W.cell? ⟨w.heap.size + 1, 1, none⟩ = some (.int .i64 b.ra) ∧ W.cell? ⟨w.heap.size + 1 + 1, 3, none⟩ = some (.int .i64 c.qu)
      ∧ W.cell? ⟨w'.heap.size, 0, none⟩ = some (.int .i64 x1) ∧ W.cell? ⟨w'.heap.size, 1, none⟩ = some (.int .u64 x2))) := Lib.hid (fun W hb =>
    ⟨(hb.cell (p := ⟨w.heap.size, 3, none⟩) hl1).trans ((cell_of_block (i := 3) n1).trans rfl), (hb.cell (p := ⟨w.heap.size, 1, none⟩) hl1).trans ((cell_of_block (i := 1) n1).trans rfl), (hb.cell (p := ⟨w.heap.size + 1, 1, none⟩) hl2).trans ((cell_of_block (i := 1) n2).trans rfl), (hb.cell (p := ⟨w.heap.size + 1 + 1, 3, none⟩) hl3).trans ((cell_of_block (i := 3) n3).trans rfl),
      (hb.cell (p := ⟨w'.heap.size, 0, none⟩) hl4).trans ((cell_of_block (i := 0) n4).trans rfl), (hb.cell (p := ⟨w'.heap.size, 1, none⟩) hl4).trans ((cell_of_block (i := 1) n4).trans rfl)⟩)
  have hbc : Below w4.heap.size w4 w4.drew := (Below.refl _ w4).drew
  clear hw4 hb n1 n2 n3 n4 B1 B2 B3 l1 l2 l3 hl1 hl2 hl3 hl4
  go_region_held3 (fun W => W.cell? ⟨w.heap.size, 3, none⟩ = some (.int .i64 a.qu) ∧ W.cell? ⟨w.heap.size, 1, none⟩ = some (.int .i64 a.ra) ∧ W.cell? ⟨w.heap.size + 1, 1, none⟩ = some (.int .i64 b.ra) ∧ W.cell? ⟨w.heap.size + 1 + 1, 3, none⟩ = some (.int .i64 c.qu) ∧ W.cell? ⟨w'.heap.size, 0, none⟩ = some (.int .i64 x1) ∧ W.cell? ⟨w'.heap.size, 1, none⟩ = some (.int .u64 x2))
    (first | exact HSS.out _ hbc | fail "keep")
    (first | (go_at_call 45; ((with_reducible refine (t2.out _).mono ?_); rintro e w' ⟨rfl, hb⟩; replace hbc := hbc.thru hb; clear hb))
           | (go_at_call 46; ((with_reducible refine (t3.out _).mono ?_); rintro e w' ⟨rfl, hb⟩; replace hbc := hbc.thru hb; clear hb)) | fail "arms")
  all_goals
    go_wp2
    go_ret
    exact ⟨ret_bool HS.out, HX.out.thru hbc⟩
end Go.Proofs.Ytikgkgfcnciomaa

/- bestAt of the reference. -/
import Derived.Test.YtibnbhjiohighaaComL
import Derived.Test.YtibnbhjiohighaaCtI
import Derived.Test.YtibnbhjiohighaaOnl
namespace Go.Proofs.Ytibnbhjiohighaa
open Go.RowKit

theorem containsI_any (w : World) (l : List Int) (v : Value) (x : Int) (hl : Sl w 1 encI v l) :
    Calls Try.prog 29 #[v, .int .i64 x] w fun e w' => e = .returned (.bool (l.contains x)) ∧ Below w.heap.size w w' := by
  have H := Lib.hid (indexI_any w l v x hl)
  by_cases hx : x ∈ l
  · have := containsI_yes w l v x hl hx
    have e : l.contains x = true := by rw [List.contains_iff_mem]; exact hx
    rw [e]; exact this
  · rw [if_neg hx] at H
    have hv : Hid (l.contains x = false) := Lib.hid (by rw [Bool.eq_false_iff]; intro h; exact hx (by rwa [List.contains_iff_mem] at h))
    clear hl hx
    go_enter Try.func29, Try.ntmps29
    go_wp2_with fail
    refine H.out.mono ?_
    rintro e w1 ⟨rfl, hb⟩
    go_wp2
    go_ret
    exact ⟨ret_bool hv.out.symm, hb⟩

set_option maxRecDepth 100000 in
set_option maxHeartbeats 4000000 in
theorem bestAt_any (w : World) (l0 : List Rng) (S : List Int) (u v : Value) (hl : Sl w 4 encR u l0) (hS : Sl w 1 encI v S) :
    Calls Try.prog 20 #[u, v] w fun e w' => e = .returned (.int .i64 (topF l0 S)) ∧ Below w.heap.size w w' := by
  have HSS := Lib.hid hS
  obtain ⟨uo, ucap, rfl, huc, hum, _, huel⟩ := hl
  obtain ⟨so, scap, rfl, hsc, hsm, _, _⟩ := hS
  unfold maxLen at hum hsm
  have HUE := Lib.hid huel
  have HTF : Hid (topF l0 S = topA l0 S l0.length) := Lib.hid rfl
  obtain ⟨V, hV⟩ : ∃ V, V = topF l0 S := ⟨_, rfl⟩
  rw [← hV] at HTF ⊢
  clear huel hV
  go_enter Try.func20, Try.ntmps20
  go_wp2
  go_loopg [5, 10] l0.length (fun gg s5 s10 wq => ∃ j : Nat, j ≤ l0.length ∧ l0.length - j ≤ gg ∧ s10 = .int .i64 j ∧ s5 = .int .i64 (topA l0 S j) ∧ Aside (Below w.heap.size w wq))
  case atStart => exact ⟨0, Nat.zero_le _, by omega, by go_num, rfl, Below.refl _ w⟩
  case round =>
    obtain ⟨j, hj, hg2, rfl, rfl, BQ⟩ := hrel
    have BQ := Lib.hid BQ.out
    by_cases hlt2 : j < l0.length
    · have hltz2 : (j : Int) < (l0.length : Int) := by omega
      obtain ⟨x, hx⟩ : ∃ x, l0[j]? = some x := ⟨l0[j], by simp [hlt2]⟩
      obtain ⟨b4, off4, rfl, hcd⟩ := HUE.out j x hx
      have hb4 : b4 < w.heap.size := World.block_lt_of_cell? w _ (hcd 0 _ rfl)
      have toW : ∀ o u, w.cell? ⟨b4, o, none⟩ = some u → wr.cell? ⟨b4, o, none⟩ = some u := fun o u hu => (BQ.out.cell (p := ⟨b4, o, none⟩) hb4).trans hu
      have g0 : wr.cell? ⟨b4, off4 + j * 4, none⟩ = some (.string x.na) := toW _ _ (by have h := hcd 0 _ rfl; simpa using h)
      have g1 : wr.cell? ⟨b4, off4 + j * 4 + 1, none⟩ = some (.int .i64 x.ra) := toW _ _ (hcd 1 _ rfl)
      have g2 : wr.cell? ⟨b4, off4 + j * 4 + 2, none⟩ = some (.int .i64 x.he) := toW _ _ (hcd 2 _ rfl)
      have g3 : wr.cell? ⟨b4, off4 + j * 4 + 3, none⟩ = some (.int .i64 x.qu) := toW _ _ (hcd 3 _ rfl)
      have hwsz : w.heap.size ≤ wr.heap.size := BQ.out.size
      obtain ⟨wx, hwx⟩ : ∃ wx, wx = wr.alloc (.cells #[.string x.na, .int .i64 x.ra, .int .i64 x.he, .int .i64 x.qu] 36) := ⟨_, rfl⟩
      have HBX : Hid (Below w.heap.size w wx) := Lib.hid (by rw [hwx]; exact BQ.out.alloc hwsz _)
      have HXB : Hid (wx.heap[wr.heap.size]? = some (.cells #[.string x.na, .int .i64 x.ra, .int .i64 x.he, .int .i64 x.qu] 36 (0, 0))) := Lib.hid (by rw [hwx]; exact block_new wr _)
      have HWX := Lib.hid hwx
      have hlx := lt_of_blk HXB.out
      have hx1 : wx.cell? ⟨wr.heap.size, 1, none⟩ = some (.int .i64 x.ra) := (cell_of_block HXB.out).trans rfl
      have hxl := HBX.out.size
      have HANY := Lib.hid (containsI_any wx S _ x.ra (HSS.out.below HBX.out (Nat.le_refl _)))
      have HTN := Lib.hid (topA_at (S := S) hx)
      obtain ⟨T, hT⟩ : ∃ T, T = topA l0 S j := ⟨_, rfl⟩
      rw [← hT] at HTN ⊢
      obtain ⟨cb, hcb⟩ : ∃ cb, cb = S.contains x.ra := ⟨_, rfl⟩
      rw [← hcb] at HTN HANY
      clear hx hcd toW hwx hT hcb
      go_upto_region 5 with (fail)
      rw [← HWX.out]
      cases cb
      · have HT1 : Hid (topA l0 S (j + 1) = T) := Lib.hid (by rw [HTN.out]; rfl)
        go_wp2_with (go_at_call 29; refine HANY.out.mono ?_; rintro e w8 ⟨rfl, hb8⟩; have HB8 := Lib.hid (HBX.out.trans (hb8.mono hxl)); have hx8 := (hb8.block _ hlx).trans HXB.out; have g8 : w8.cell? ⟨wr.heap.size, 3, none⟩ = some (.int .i64 x.qu) := (cell_of_block hx8).trans rfl; clear hb8 hx8)
        go_roundg (l0.length - (j + 1))
        case measure => omega
        case rel => exact ⟨j + 1, by omega, by omega, by go_num, by rw [HT1.out], HB8.out⟩
      · have HT1 : Hid (topA l0 S (j + 1) = max T x.qu) := Lib.hid (by rw [HTN.out]; rfl)
        go_wp2_with (go_at_call 29; refine HANY.out.mono ?_; rintro e w8 ⟨rfl, hb8⟩; have HB8 := Lib.hid (HBX.out.trans (hb8.mono hxl)); have hx8 := (hb8.block _ hlx).trans HXB.out; have g8 : w8.cell? ⟨wr.heap.size, 3, none⟩ = some (.int .i64 x.qu) := (cell_of_block hx8).trans rfl; clear hb8 hx8)
        go_roundg (l0.length - (j + 1))
        case measure => omega
        case rel => exact ⟨j + 1, by omega, by omega, by go_num, by rw [HT1.out], HB8.out⟩
    · obtain rfl : j = l0.length := by omega
      have hltz2 : ¬ (l0.length : Int) < (l0.length : Int) := by omega
      go_wp2
      go_ret
      exact ⟨ret_int HTF.out.symm, BQ.out⟩
end Go.Proofs.Ytibnbhjiohighaa

/- The law of the best. -/
import Derived.Test.YtmgbmoiefgfemaaDoorBsfW
import Derived.Test.YtmgbmoiefgfemaaDoorDifR
import Derived.Test.YtmgbmoiefgfemaaDoorNor1
namespace Go.Proofs.YtmgbmoiefgfemaaDoor
open Go.RowKit

theorem crvL_get (K : List ByteArray) {i M : Nat} (h : i < M) : (crvL K M)[i]? = some (cntQ K i K.length) := by simp [crvL, rowF, h]
theorem crvL_len (K : List ByteArray) (M : Nat) : (crvL K M).length = M := by simp [crvL, rowF]
set_option maxRecDepth 100000 in
set_option maxHeartbeats 4000000 in
theorem bestIs_any (w : World) (K : List ByteArray) (v : Value) (n : Int) (hl : Sl w 1 encS v K) (hw : ∀ x, x ∈ K → x.size ≤ 9223372036854775807) (m : Int) (hm : w.cell? ⟨0, 0, none⟩ = some (.int .i64 m)) :
    Calls Tryd.prog 9 #[v, .int .i64 n] w fun e' w' => e' = .returned (.bool true) ∧ Below w.heap.size w w' := by
  have h0 := World.block_lt_of_cell? w _ hm
  have H1 := Lib.hid (Curve_any w K v n hl hw)
  have H3 := Lib.hid (fun (W : World) (h : Below w.heap.size w W) (r : Int) => Best_any W K v r (hl.below h (Nat.le_refl _)) hw)
  have H4 := Lib.hid (fun (W : World) (h : Below w.heap.size w W) (hk : K.length ≤ 1000) => different_any W K v (hl.below h (Nat.le_refl _)) hk)
  have H5 := Lib.hid (fun (W : World) (h : Below w.heap.size w W) => awakeE_any W m ((h.cell (p := ⟨0, 0, none⟩) h0).trans hm))
  have HFF := Lib.hid (fun r => outS_any K r)
  have HA : Hid (crvA K n = if crvF K n = 0 then crvL K n.toNat else []) := Lib.hid rfl
  have HB : Hid (∀ r, bsV K r = if crvF K r = 0 then bsN K r.toNat else 0) := Lib.hid (fun _ => rfl)
  have HK := Lib.hid (fun (h : kyF K = 0) => (kyF_zero h).1)
  obtain ⟨ao, cap, rfl, hcap, hmax, _, _⟩ := hl
  unfold maxLen at hmax
  clear hw hm
  unfold SlPost at H1
  unfold BsfP at H3
  unfold DifP at H4
  go_enter Tryd.func9, Tryd.ntmps9
  go_upto_region 2 with (go_at_call 25; refine H1.out.mono ?_; rintro e w1 ⟨v1, rfl, hs1, hb1⟩; have HS1 := Lib.hid hs1; have HB1 := Lib.hid hb1; clear hs1 hb1)
  clear H1
  obtain ⟨f, hf⟩ : ∃ f, f = crvF K n := ⟨_, rfl⟩
  by_cases hf0 : f = 0
  case neg =>
    have HS2 : Hid (Sl w1 1 encI v1 []) := Lib.hid (by have h := HS1.out; rw [HA.out, if_neg (by rw [← hf]; exact hf0)] at h; exact h)
    obtain ⟨a1, c1, rfl, _⟩ := HS2.out
    have hne : (f != 0) = true := by simpa using hf0
    rw [← hf]
    clear hf HS1 HS2 hf0
    go_wp2_with (go_at_call 18; refine (H5.out w1 HB1.out).mono ?_; rintro e w6 ⟨rfl, hb6⟩; have HB6 := Lib.hid (HB1.out.thru hb6); clear hb6)
    go_ret
    exact ⟨rfl, HB6.out⟩
  have hf1 : crvF K n = 0 := by rw [← hf, hf0]
  clear hf hf0 f
  have hk0 : kyF K = 0 := by
    have h := HFF.out n
    rw [hf1] at h
    by_cases hk : kyF K = 0
    · exact hk
    · rw [if_pos hk] at h; exact h.symm
  have ho : ¬ outB n 0 1000 = true := by
    intro c
    have h := HFF.out n
    rw [hf1, if_neg (by rw [hk0]; simp), if_pos c] at h
    simp at h
  have hnb := outB_no' ho
  obtain ⟨M, rfl⟩ : ∃ M : Nat, n = (M : Int) := ⟨n.toNat, by omega⟩
  have hM : M ≤ 1000 := by omega
  have hk1000 := HK.out hk0
  have HLV : Hid (∀ i : Nat, i < M → crvF K ((i : Int) + 1) = 0 ∧ bsV K ((i : Int) + 1) = bsN K (i + 1)) := Lib.hid (fun i hi => by
    have h1 : crvF K ((i : Int) + 1) = 0 := by
      rw [HFF.out, if_neg (by rw [hk0]; simp), if_neg]
      unfold outB
      simp
      omega
    refine ⟨h1, ?_⟩
    rw [HB.out, if_pos h1]
    congr 1)
  have HS2 : Hid (Sl w1 1 encI v1 (crvL K M)) := Lib.hid (by have h := HS1.out; rw [HA.out, if_pos hf1, Int.toNat_natCast] at h; exact h)
  rw [hf1]
  clear hf1 hk0 ho HS1 HA HB HFF HK
  obtain ⟨a1, c1, rfl, hc1, hc2, _, hel⟩ := HS2.out
  unfold maxLen at hc2
  rw [crvL_len] at hc1 ⊢
  have HEL : Hid (∀ i : Nat, i < M → ∃ b off, a1 = some ⟨b, off, none⟩ ∧ w1.cell? ⟨b, off + i, none⟩ = some (.int .i64 (cntQ K i K.length))) := Lib.hid (fun i hi => by
    obtain ⟨b, off, h1, h2⟩ := hel i _ (crvL_get K hi)
    exact ⟨b, off, h1, by simpa using h2 0 _ rfl⟩)
  have HBL := Lib.hid (best_laws K)
  have hdn := Lib.hid (difN_rec K)
  have hdl : difN K ≤ 1000 := by have h1 := hdn.out; have := recK_len K K.length; omega
  clear hel HS2 hdn
  go_wp2
  go_loopg [27] M (fun gg s27 wr => ∃ i : Nat, i ≤ M ∧ M - i ≤ gg ∧ s27 = .int .i64 i ∧ Aside (Below w1.heap.size w1 wr))
  case atStart => exact ⟨0, Nat.zero_le _, by omega, rfl, (show Aside _ from Below.refl _ _)⟩
  case round =>
    obtain ⟨wq, rfl⟩ : ∃ wq : World, wq = wr := ⟨_, rfl⟩
    obtain ⟨i, hi, hgi, rfl, BQ⟩ := hrel
    have HBW : Hid (Below w.heap.size w wq) := Lib.hid (HB1.out.thru BQ.out)
    by_cases hil : i < M
    · have hiz : (i : Int) < (M : Int) := by omega
      obtain ⟨b, off, rfl, hc⟩ := HEL.out i hil
      have c0 : wq.cell? ⟨b, off + i, none⟩ = some (.int .i64 (cntQ K i K.length)) := (BQ.out.cell (p := ⟨b, off + i, none⟩) (World.block_lt_of_cell? w1 _ hc)).trans hc
      obtain ⟨hl1, hl2⟩ := HLV.out i hil
      have hB := H3.out wq HBW.out ((i : Int) + 1)
      rw [hl1, hl2] at hB
      have HBB := Lib.hid hB
      have hww : IntKind.i64.wrap ((i : Int) + 1) = (i : Int) + 1 := IntWalk.i64_in _ (by omega)
      obtain ⟨q1, q2, q3⟩ := HBL.out i
      have hcb := cntQ_bd K i K.length
      obtain ⟨z, hz⟩ : ∃ z, z = cntQ K i K.length := ⟨_, rfl⟩
      obtain ⟨y, hy⟩ : ∃ y, y = bsN K (i + 1) := ⟨_, rfl⟩
      obtain ⟨D, hD⟩ : ∃ D, D = difN K := ⟨_, rfl⟩
      rw [← hz] at c0 q1 q2 q3 hcb
      rw [← hy] at q1 q3 HBB
      rw [← hD] at q3 hdl
      have HD := Lib.hid hD
      have hyz : ¬ y < z := by omega
      clear hB hc hl1 hl2 hz hy hD
      go_upto_region 8 with (go_at_call 28; refine HBB.out.mono ?_; rintro e w3 ⟨rfl, hb3⟩; have HB3 := Lib.hid (HBW.out.thru hb3); have HQ3 := Lib.hid (BQ.out.trans (hb3.mono BQ.out.size)); clear hb3)
      clear c0 HBB
      go_cut [58] (fun s58 w4 => s58 = .bool false ∧ ∃ k, w4 = w3.drewN k)
      case first =>
        cases i with
        | zero =>
          go_wp2
          go_meet
          exact ⟨by rw [decide_eq_false (show ¬ y < z by omega)], 0, rfl⟩
        | succ j =>
          have hj0 : (0 : Int) < ((j + 1 : Nat) : Int) := by omega
          have hjw : IntKind.i64.wrap (((j + 1 : Nat) : Int) - 1) = (j : Int) := by rw [show ((j + 1 : Nat) : Int) - 1 = (j : Int) by omega]; exact IntWalk.i64_in _ (by omega)
          have hjl : (j : Int) < (M : Int) := by omega
          obtain ⟨b', off', e', hc'⟩ := HEL.out j (by omega)
          cases e'
          have c1 : w3.cell? ⟨b, off + j, none⟩ = some (.int .i64 (cntQ K j K.length)) := (HQ3.out.cell (p := ⟨b, off + j, none⟩) (World.block_lt_of_cell? w1 _ hc')).trans hc'
          have hq := q2 (by omega)
          rw [Nat.add_sub_cancel] at hq
          obtain ⟨x, hx⟩ : ∃ x, x = cntQ K j K.length := ⟨_, rfl⟩
          rw [← hx] at c1 hq
          have hzx : ¬ z < x := by omega
          clear hc' hx q1 q2 q3
          go_wp2
          go_meet
          exact ⟨by rw [decide_eq_false (show ¬ y < z by omega)], 0, rfl⟩
      obtain ⟨rfl, nq, hw4⟩ := hcut
      have HB4 : Hid (Below w.heap.size w wc) := Lib.hid (by rw [hw4]; exact below_drewN HB3.out nq)
      have HQ4 : Hid (Below w1.heap.size w1 wc) := Lib.hid (by rw [hw4]; exact below_drewN HQ3.out nq)
      clear hw4 HB3 HQ3
      have HDF := Lib.hid (fun (W : World) (h : Below w.heap.size w W) => H4.out W h hk1000)
      rw [← HD.out] at HDF
      by_cases hDi : D ≤ i + 1
      · obtain ⟨q4, q5⟩ := q3 hDi
        have hge : (D : Int) ≤ (i : Int) + 1 := by omega
        have hwd : IntKind.i64.wrap ((K.length : Int) - (D : Int)) = (K.length : Int) - (D : Int) := IntWalk.i64_in _ (by omega)
        subst q4
        have hzz : (z == z) = true := by simp
        have hzk : (z == (K.length : Int) - (D : Int)) = true := by simpa using q5
        have HQ : Below wc.heap.size wc wc := Below.refl _ _
        clear q1 q2 q3 q5
        go_wp2_with (go_at_call 35; refine (HDF.out _ (HB4.out.thru HQ)).mono ?_; rintro e w' ⟨rfl, hb⟩; have HQ := HQ.trans (hb.mono HQ.size); clear hb)
        go_roundg (M - (i + 1))
        case measure => omega
        case rel => exact ⟨i + 1, by omega, by omega, by go_num, (show Aside _ from HQ4.out.trans (HQ.mono HQ4.out.size))⟩
      · have hge : ¬ (D : Int) ≤ (i : Int) + 1 := by omega
        go_wp2_with (go_at_call 35; refine (HDF.out _ HB4.out).mono ?_; rintro e w5 ⟨rfl, hb⟩; have HQ5 := Lib.hid (HQ4.out.trans (hb.mono HQ4.out.size)); clear hb)
        go_roundg (M - (i + 1))
        case measure => omega
        case rel => exact ⟨i + 1, by omega, by omega, by go_num, (show Aside _ from HQ5.out)⟩
    · obtain rfl : i = M := by omega
      go_wp2_with (go_at_call 18; refine (H5.out wq HBW.out).mono ?_; rintro e w6 ⟨rfl, hb6⟩; have HB6 := Lib.hid (HBW.out.thru hb6); clear hb6)
      go_ret
      exact ⟨rfl, HB6.out⟩
end Go.Proofs.YtmgbmoiefgfemaaDoor

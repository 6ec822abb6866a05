/- What a choice of rates is worth: the program's closure. -/
import Derived.Test.YtibnbhjiohighaaComL
import Derived.Test.YtibnbhjiohighaaIdxN
import Derived.Test.YtibnbhjiohighaaOnl
namespace Go.Proofs.Ytibnbhjiohighaa
open Go.RowKit

/-- Is one of some rates, by their numbers, x? -/
theorem anyRate {R L : List Int} {x : Int} : (L.any fun k => R.getD k.toNat 0 == x) = (ratesAt R L).contains x := by
  rw [Bool.eq_iff_iff, List.any_eq_true, List.contains_iff_mem]
  unfold ratesAt
  rw [List.mem_map]
  constructor
  · rintro ⟨k, hk, he⟩
    exact ⟨k, hk, by simpa using he⟩
  · rintro ⟨k, hk, he⟩
    exact ⟨k, hk, by simpa using he⟩

/-- The inner predicate. -/
theorem pred_any (R : List Int) (k x : Int) (b2 b3 : Nat) (vr : Value) (w : World) (hR : Sl w 1 encI vr R) (hk : 0 ≤ k ∧ k < (R.length : Int)) (h2 : w.cell? ⟨b2, 0, none⟩ = some vr) (h3 : w.cell? ⟨b3, 1, none⟩ = some (.int .i64 x)) :
    Calls Try.prog 13 #[.int .i64 k, .pointer (some ⟨b2, 0, none⟩), .pointer (some ⟨b3, 0, none⟩)] w fun e w' => e = .returned (.bool (R.getD k.toNat 0 == x)) ∧ Below w.heap.size w w' := by
  obtain ⟨ro, rcap, rfl, hrc, hrm, _, hrel⟩ := hR
  unfold maxLen at hrm
  obtain ⟨n, rfl⟩ : ∃ n : Nat, k = (n : Int) := ⟨k.toNat, by omega⟩
  obtain ⟨h0, h1⟩ := hk
  have hn : n < R.length := by omega
  obtain ⟨y, hy⟩ : ∃ y, R[n]? = some y := ⟨R[n], by simp [hn]⟩
  obtain ⟨b, off, rfl, hc⟩ := hrel n y hy
  have c0 : w.cell? ⟨b, off + n, none⟩ = some (.int .i64 y) := by have h := hc 0 _ rfl; simpa using h
  have hv : Hid ((R.getD (n : Int).toNat 0 == x) = (y == x)) := Lib.hid (by rw [Int.toNat_natCast, getD_of hy])
  clear hrel hc hy
  obtain ⟨V, hV⟩ : ∃ V, V = (R.getD (n : Int).toNat 0 == x) := ⟨_, rfl⟩
  rw [← hV] at hv ⊢
  clear hV
  have hund : undef = Value.tuple #[] := rfl
  go_enter Try.func13, Try.ntmps13
  go_upto_region 1 with (fail)
  go_quiet (fail)
  clear hund
  go_wp2
  go_ret
  exact ⟨ret_bool hv.out.symm, below_drewN (Below.refl _ _) _⟩

set_option maxRecDepth 100000 in
set_option maxHeartbeats 4000000 in
theorem clo_any (F : List Flm) (W R L : List Int) (b1 b2 b3 : Nat) (fv wv rv v : Value) (w : World) (hF : Sl w 1 encFl fv F) (hFW : ∀ f, f ∈ F → WfF w f) (hW : Sl w 1 encI wv W) (hR : Sl w 1 encI rv R) (hL : Sl w 1 encI v L)
    (hr : ∀ k, k ∈ L → 0 ≤ k ∧ k < (R.length : Int)) (hlen : W.length = F.length) (hq : ∀ f, f ∈ F → ∀ x, x ∈ f.l → 0 ≤ x.qu ∧ x.qu ≤ 1000000) (hw : ∀ x, x ∈ W → 1 ≤ x ∧ x ≤ 1000000) (h50 : F.length ≤ 50)
    (c1 : w.cell? ⟨b1, 0, none⟩ = some fv) (c2 : w.cell? ⟨b2, 0, none⟩ = some rv) (c3 : w.cell? ⟨b3, 0, none⟩ = some wv) :
    Calls Try.prog 11 #[v, .pointer (some ⟨b1, 0, none⟩), .pointer (some ⟨b2, 0, none⟩), .pointer (some ⟨b3, 0, none⟩)] w fun e w' => e = .returned (.int .i64 (comV F W R L)) ∧ Below w.heap.size w w' := by
  have hl2 := World.block_lt_of_cell? w _ c2
  have hl3 := World.block_lt_of_cell? w _ c3
  have HFW := Lib.hid hFW
  have HQ := Lib.hid hq
  have HW := Lib.hid hw
  have HRS := Lib.hid hR
  have HRR := Lib.hid hr
  have HLS := Lib.hid hL
  have HC2 := Lib.hid c2
  have HBN := Lib.hid (sumA_bnd hq hw hlen (ratesAt R L))
  have HAN := Lib.hid (fun x => anyRate (R := R) (L := L) (x := x))
  have HV : Hid (comV F W R L = sumA F W (ratesAt R L) F.length) := Lib.hid rfl
  obtain ⟨V, hV⟩ : ∃ V, V = comV F W R L := ⟨_, rfl⟩
  rw [← hV] at HV ⊢
  obtain ⟨S, hS⟩ : ∃ S, S = ratesAt R L := ⟨_, rfl⟩
  rw [← hS] at HV HBN
  have HS := Lib.hid hS
  obtain ⟨fo, fcap, rfl, hfc, hfm, _, hfel⟩ := hF
  obtain ⟨wo, wcap, rfl, hwc, hwm, _, hwel⟩ := hW
  obtain ⟨ro, rcap, rfl, hrc, hrm, _, _⟩ := hR
  obtain ⟨lo, lcap, rfl, hlc, hlm, _, _⟩ := hL
  unfold maxLen at hfm hwm hrm hlm
  have HFE := Lib.hid hfel
  have HWE := Lib.hid hwel
  clear hFW hq hw hr hV hS hfel hwel c2
  have c2 := HC2.out
  go_enter Try.func11, Try.ntmps11
  go_wp2
  go_loopg [6, 14] F.length (fun gg s6 s14 wr => ∃ k : Nat, k ≤ F.length ∧ F.length - k ≤ gg ∧ s14 = .int .i64 k ∧ s6 = .int .i64 (sumA F W S k) ∧ Aside (Below w.heap.size w wr))
  case atStart => exact ⟨0, Nat.zero_le _, by omega, by go_num, rfl, Below.refl _ w⟩
  case round =>
    obtain ⟨k, hk, hg, rfl, rfl, BW⟩ := hrel
    have BW := Lib.hid BW.out
    by_cases hlt : k < F.length
    · have hltz : (k : Int) < (F.length : Int) := by omega
      have hltw : (k : Int) < (W.length : Int) := by omega
      obtain ⟨f, hf⟩ : ∃ f, F[k]? = some f := ⟨F[k], by simp [hlt]⟩
      obtain ⟨b, off, rfl, hcc⟩ := HFE.out k f hf
      have e0 : w.cell? ⟨b, off + k, none⟩ = some f.v := by have h := hcc 0 _ rfl; simpa using h
      have d0 : wr.cell? ⟨b, off + k, none⟩ = some f.v := (BW.out.cell (p := ⟨b, off + k, none⟩) (World.block_lt_of_cell? w _ e0)).trans e0
      obtain ⟨z, hz⟩ : ∃ z, W[k]? = some z := ⟨W[k]'(by omega), by simp [show k < W.length by omega]⟩
      obtain ⟨bw, ow, rfl, hcw⟩ := HWE.out k z hz
      have e1 : w.cell? ⟨bw, ow + k, none⟩ = some (.int .i64 z) := by have h := hcw 0 _ rfl; simpa using h
      have HZ1 := Lib.hid e1
      have hlz := World.block_lt_of_cell? w _ e1
      have hfw := (HFW.out f (List.mem_of_getElem? hf)).1
      have hfq := HQ.out f (List.mem_of_getElem? hf)
      have hzb := HW.out z (List.mem_of_getElem? hz)
      have HTB := Lib.hid (topA_bnd hfq S)
      have HSN : Hid (sumA F W S (k + 1) = sumA F W S k + z * topF f.l S) := Lib.hid (by rw [sumA, getD_of hz, getD_of hf])
      have hbk := HBN.out k (by omega)
      have hkk : (k : Int) * 1000000000000 ≤ 50000000000000 := by omega
      obtain ⟨v0, l0⟩ := f
      simp only at d0 hfw hfq HSN HTB
      obtain ⟨uo, ucap, rfl, huc, hum, _, huel⟩ := hfw
      unfold maxLen at hum
      have HUE := Lib.hid huel
      have HTF : Hid (topF l0 S = topA l0 S l0.length) := Lib.hid rfl
      obtain ⟨Q, hQ⟩ : ∃ Q, Q = sumA F W S k := ⟨_, rfl⟩
      rw [← hQ] at HSN hbk ⊢
      clear hf hcc huel e0 e1 hz hcw hfq hQ
      obtain ⟨w5, rfl⟩ : ∃ w5, w5 = wr := ⟨wr, rfl⟩
      go_wp2
      go_loopg [9, 21] l0.length (fun gg s9 s21 wq => ∃ j : Nat, j ≤ l0.length ∧ l0.length - j ≤ gg ∧ s21 = .int .i64 j ∧ s9 = .int .i64 (topA l0 S j) ∧ Aside (Below w.heap.size w wq))
      case atStart => exact ⟨0, Nat.zero_le _, by omega, by go_num, rfl, BW.out⟩
      case round =>
        obtain ⟨j, hj, hg2, rfl, rfl, BQ⟩ := hrel
        have BQ := Lib.hid BQ.out
        by_cases hlt2 : j < l0.length
        · have hltz2 : (j : Int) < (l0.length : Int) := by omega
          obtain ⟨x, hx⟩ : ∃ x, l0[j]? = some x := ⟨l0[j], by simp [hlt2]⟩
          obtain ⟨b4, off4, rfl, hcd⟩ := HUE.out j x hx
          have hb4 : b4 < w.heap.size := World.block_lt_of_cell? w _ (hcd 0 _ rfl)
          have toW : ∀ o u, w.cell? ⟨b4, o, none⟩ = some u → wr.cell? ⟨b4, o, none⟩ = some u := fun o u hu => (BQ.out.cell (p := ⟨b4, o, none⟩) hb4).trans hu
          have g0 : wr.cell? ⟨b4, off4 + j * 4, none⟩ = some (.string x.na) := toW _ _ (by have h := hcd 0 _ rfl; simpa using h)
          have g1 : wr.cell? ⟨b4, off4 + j * 4 + 1, none⟩ = some (.int .i64 x.ra) := toW _ _ (hcd 1 _ rfl)
          have g2 : wr.cell? ⟨b4, off4 + j * 4 + 2, none⟩ = some (.int .i64 x.he) := toW _ _ (hcd 2 _ rfl)
          have g3 : wr.cell? ⟨b4, off4 + j * 4 + 3, none⟩ = some (.int .i64 x.qu) := toW _ _ (hcd 3 _ rfl)
          have hwsz : w.heap.size ≤ wr.heap.size := BQ.out.size
          obtain ⟨wx, hwx⟩ : ∃ wx, wx = wr.alloc (.cells #[.string x.na, .int .i64 x.ra, .int .i64 x.he, .int .i64 x.qu] 36) := ⟨_, rfl⟩
          have HBX : Hid (Below w.heap.size w wx) := Lib.hid (by rw [hwx]; exact BQ.out.alloc hwsz _)
          have HXB : Hid (wx.heap[wr.heap.size]? = some (.cells #[.string x.na, .int .i64 x.ra, .int .i64 x.he, .int .i64 x.qu] 36 (0, 0))) := Lib.hid (by rw [hwx]; exact block_new wr _)
          have HWX := Lib.hid hwx
          have hlx := lt_of_blk HXB.out
          have hx1 : wx.cell? ⟨wr.heap.size, 1, none⟩ = some (.int .i64 x.ra) := (cell_of_block HXB.out).trans rfl
          have HLX := Lib.hid (HLS.out.below HBX.out (Nat.le_refl _))
          have HRX := Lib.hid (HRS.out.below HBX.out (Nat.le_refl _))
          have hc2x := (HBX.out.cell (p := ⟨b2, 0, none⟩) hl2).trans HC2.out
          have hxl := HBX.out.size
          have HANY := Lib.hid (anyN 13 #[.pointer (some ⟨b2, 0, none⟩), .pointer (some ⟨wr.heap.size, 0, none⟩)] (fun k => R.getD k.toNat 0 == x.ra) wx L _ HLX.out (enters_of Try.func13 (by kernel_rfl) rfl)
            (fun W' k hk hb => pred_any R k x.ra b2 wr.heap.size _ W' (HRX.out.below hb (Nat.le_refl _)) (HRR.out k hk) ((hb.cell (p := ⟨b2, 0, none⟩) (Nat.lt_of_lt_of_le hl2 hxl)).trans hc2x) ((hb.cell (p := ⟨wr.heap.size, 1, none⟩) hlx).trans hx1)))
          rw [HAN.out, ← HS.out] at HANY
          have HTN := Lib.hid (topA_at (S := S) hx)
          have htj := HTB.out j
          have htj1 := HTB.out (j + 1)
          have HJ1 := Lib.hid htj1
          obtain ⟨T, hT⟩ : ∃ T, T = topA l0 S j := ⟨_, rfl⟩
          rw [← hT] at HTN htj ⊢
          obtain ⟨cb, hcb⟩ : ∃ cb, cb = S.contains x.ra := ⟨_, rfl⟩
          rw [← hcb] at HTN HANY
          clear hx hcd toW hwx hx1 hc2x hT hcb htj1
          go_upto_region 9 with (fail)
          rw [← HWX.out]
          cases cb
          · have HT1 : Hid (topA l0 S (j + 1) = T) := Lib.hid (by rw [HTN.out]; rfl)
            go_wp2_with (go_at_call 12; refine HANY.out.mono ?_; rintro e w8 ⟨rfl, hb8⟩; have HB8 := Lib.hid (HBX.out.trans (hb8.mono hxl)); have hx8 := (hb8.block _ hlx).trans HXB.out; have g8 : w8.cell? ⟨wr.heap.size, 3, none⟩ = some (.int .i64 x.qu) := (cell_of_block hx8).trans rfl; clear hb8 hx8)
            go_roundg (l0.length - (j + 1))
            case measure => omega
            case rel => exact ⟨j + 1, by omega, by omega, by go_num, by rw [HT1.out], HB8.out⟩
          · have HT1 : Hid (topA l0 S (j + 1) = max T x.qu) := Lib.hid (by rw [HTN.out]; rfl)
            go_wp2_with (go_at_call 12; refine HANY.out.mono ?_; rintro e w8 ⟨rfl, hb8⟩; have HB8 := Lib.hid (HBX.out.trans (hb8.mono hxl)); have hx8 := (hb8.block _ hlx).trans HXB.out; have g8 : w8.cell? ⟨wr.heap.size, 3, none⟩ = some (.int .i64 x.qu) := (cell_of_block hx8).trans rfl; clear hb8 hx8)
            go_roundg (l0.length - (j + 1))
            case measure => omega
            case rel => exact ⟨j + 1, by omega, by omega, by go_num, by rw [HT1.out], HB8.out⟩
        · obtain rfl : j = l0.length := by omega
          have hltz2 : ¬ (l0.length : Int) < (l0.length : Int) := by omega
          have htj := HTB.out l0.length
          rw [← HTF.out] at htj ⊢
          obtain ⟨T, hT⟩ : ∃ T, T = topF l0 S := ⟨_, rfl⟩
          rw [← hT] at htj HSN ⊢
          have hz0 : 0 ≤ z * T := Int.mul_nonneg (by omega) htj.1
          have hz1 : z * T ≤ 1000000 * 1000000 := Int.mul_le_mul hzb.2 htj.2 htj.1 (by omega)
          obtain ⟨M, hM⟩ : ∃ M, M = z * T := ⟨_, rfl⟩
          rw [← hM] at hz0 hz1 HSN
          have hwr1 : IntKind.i64.wrap (z * T) = M := by rw [← hM]; exact IntWalk.i64_in _ (by omega)
          have hwr2 : IntKind.i64.wrap (Q + M) = Q + M := IntWalk.i64_in _ (by omega)
          have y1 := (BQ.out.cell (p := ⟨bw, ow + k, none⟩) hlz).trans HZ1.out
          have y3 := (BQ.out.cell (p := ⟨b3, 0, none⟩) hl3).trans c3
          have HWR := Lib.hid HSN.out
          clear hT hM c1 c3 c2
          go_wp2
          go_roundg (F.length - (k + 1))
          case measure => omega
          case rel => exact ⟨k + 1, by omega, by omega, by go_num, by rw [HWR.out], BQ.out⟩
    · obtain rfl : k = F.length := by omega
      have hltz : ¬ (F.length : Int) < (F.length : Int) := by omega
      go_wp2
      go_ret
      exact ⟨ret_int HV.out.symm, BW.out⟩
end Go.Proofs.Ytibnbhjiohighaa

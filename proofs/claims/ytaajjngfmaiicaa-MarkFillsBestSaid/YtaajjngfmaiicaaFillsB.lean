/- MarkFillsBest: the walk of the law. -/
import Derived.Test.YtaajjngfmaiicaaFills
namespace Go.Proofs.Ytaajjngfmaiicaa
open Go.RowKit

theorem selV_take_bd {l : List Adv} {m : Int} {B : List Int} (hB : okL l m B) (ha : AdsOk l) (k : Nat) : 0 ≤ selV l (B.take k) ∧ selV l (B.take k) ≤ 16000000000 := by
  have h1 := sel_bd (f := fun k => (adAt l k).va) (C := 1000000000) (L := B.take k) fun j hj => (ha.2 _ (adAt_of (hB.rng j (List.mem_of_mem_take hj)))).2
  have h2 := hB.cnt
  have h3 := ha.1
  have h4 : (B.take k).length ≤ B.length := by simp; omega
  unfold selV
  omega
theorem tmod_bit (s : Int) (k : Nat) : ((s / 2 ^ k).tmod 2 == 0) = !intBit s k := by
  unfold intBit
  have h : (s / 2 ^ k).tmod 2 = 0 ↔ s / 2 ^ k % 2 = 0 := by rw [← Int.dvd_iff_tmod_eq_zero, ← Int.dvd_iff_emod_eq_zero]
  by_cases h2 : s / 2 ^ k % 2 = 0
  · simp [h2, h.2 h2]
  · simp [h2, mt h.1 h2]
theorem tmod_bit' (s : Int) (k : Nat) : ((s / 2 ^ k).tmod 2 != 0) = intBit s k := by
  rw [bne, tmod_bit, Bool.not_not]

set_option maxRecDepth 100000 in
set_option maxHeartbeats 4000000 in
theorem fillsB_any (w : World) (l : List Adv) (v : Value) (m s : Int) (hl : Sl w 4 encA v l) (hw : ∀ x, x ∈ l → WfA x) :
    Calls Try.prog 3 #[v, .int .i64 m, .int .i64 s] w (TrueP w) := by
  have H1 := Lib.hid (Fill_any w l v m hl hw)
  by_cases h0 : fillF l m = 0
  · have K1 := Lib.hid (fun (e : Ending) (w' : World) (h : FlP w l m e w') => h.isGood h0)
    have ha := Lib.hid (AdsOk.of (fillF_zero h0).1)
    have hlen := ha.out.1
    obtain ⟨ao, cap, rfl, hcap, hmax, hnil, hel⟩ := hl
    unfold maxLen at hmax
    have HEL := Lib.hid hel
    clear h0 hw hel
    go_enter Try.func3, Try.ntmps3
    go_wp2_with fail
    refine H1.out.mono ?_
    rintro e w1 h
    obtain ⟨B, v1, hB, hs, rfl, hb⟩ := K1.out e w1 h
    have HB := Lib.hid hb
    have HBB := Lib.hid hB
    have HS := Lib.hid hs
    have hcn := hB.1.cnt
    obtain ⟨bo, bcap, rfl, hbcap, hbmax, hbnil, hem⟩ := hs
    have HEM := Lib.hid hem
    have HSP := Lib.hid (fun k => selV_take_bd hB.1 ha.out k)
    clear h hB hb hem
    obtain ⟨n, hn⟩ : ∃ n, n = selV l B := ⟨_, rfl⟩
    rw [← hn]
    have HN := Lib.hid hn
    clear hn
    go_wp2
    go_loopg [10, 11] B.length (fun gg s10 s11 wr => ∃ (k : Nat) (z : Int), k ≤ B.length ∧ B.length - k ≤ gg ∧ s11 = .int .i64 k ∧ s10 = .int .i64 z ∧ 0 ≤ z ∧ z ≤ 16000000000 ∧ Aside (z = selV l (B.take k)) ∧ wr = w1)
    case atStart => exact ⟨0, 0, Nat.zero_le _, by omega, rfl, rfl, by omega, by omega, (show Aside _ from rfl), rfl⟩
    case round =>
      obtain ⟨k, z, hk, hg, rfl, rfl, hz0, hz1, HZ, rfl⟩ := hrel
      by_cases hlt : k < B.length
      · have hltz : (k : Int) < (B.length : Int) := by omega
        obtain ⟨j, hj⟩ : ∃ j, B[k]? = some j := ⟨B[k], by simp [hlt]⟩
        obtain ⟨b, off, hao, hc⟩ := HEM.out k j hj
        subst hao
        have c0 : wr.cell? ⟨b, off + k, none⟩ = some (.int .i64 j) := by simpa using hc 0 _ rfl
        have hjr := HBB.out.1.rng j (List.mem_of_getElem? hj)
        obtain ⟨q, rfl⟩ := Int.eq_ofNat_of_zero_le hjr.1
        have hq : q < l.length := by omega
        have hqz : (q : Int) < (l.length : Int) := by omega
        obtain ⟨x, hx⟩ : ∃ x, l[q]? = some x := ⟨l[q], by simp [hq]⟩
        obtain ⟨b2, off2, hao2, hd⟩ := HEL.out q x hx
        subst hao2
        have d2 : wr.cell? ⟨b2, off2 + q * 4 + 2, none⟩ = some (.int .i64 x.va) := (HB.out.cell (p := ⟨b2, off2 + q * 4 + 2, none⟩) (World.block_lt_of_cell? w ⟨b2, off2 + q * 4 + 2, none⟩ (hd 2 _ rfl))).trans (hd 2 _ rfl)
        have hxb := (ha.out.2 x (List.mem_of_getElem? hx)).2
        have HNX : Hid (z + x.va = selV l (B.take (k + 1))) := Lib.hid (by
          rw [take_next hj, selV_snoc, HZ.out]
          unfold adAt
          rw [Int.toNat_natCast, getD_of hx])
        have hnb := HSP.out (k + 1)
        rw [← HNX.out] at hnb
        clear hj hc hx hd hjr
        go_wp2
        go_roundg (B.length - (k + 1))
        case measure => omega
        case rel => exact ⟨k + 1, z + x.va, by omega, by omega, by go_num, rfl, by omega, by omega, HNX.out, rfl⟩
      · obtain rfl : k = B.length := by omega
        obtain rfl : z = n := by rw [HZ.out, List.take_length, HN.out]
        clear HZ HSP HEM hlt hk hg
        go_wp2
        obtain ⟨wo, rfl⟩ : ∃ wo, wo = wr := ⟨_, rfl⟩
        go_loopg [12, 13, 14, 15] l.length (fun gg s12 s13 s14 _ wr => ∃ i : Nat, i ≤ l.length ∧ l.length - i ≤ gg ∧ s14 = .int .i64 i ∧ s12 = .int .i64 (selL l (bitsL (intBit s) i)) ∧ s13 = .int .i64 (selV l (bitsL (intBit s) i)) ∧ Aside (rgtB l (intBit s) i = true) ∧ (∃ nn, wr = wo.drewN nn))
        case atStart => exact ⟨0, Nat.zero_le _, by omega, rfl, rfl, rfl, (show Aside _ from rfl), ⟨0, rfl⟩⟩
        case round =>
          obtain ⟨i, hi, hg, rfl, rfl, rfl, HR, ⟨nn, rfl⟩⟩ := hrel
          by_cases hlt : i < l.length
          · have hltz : (i : Int) < (l.length : Int) := by omega
            have htb := tmod_bit s i
            obtain ⟨x, hx⟩ : ∃ x, l[i]? = some x := ⟨l[i], by simp [hlt]⟩
            obtain ⟨b, off, hao, hd⟩ := HEL.out i x hx
            subst hao
            have hblt : b < w.heap.size := World.block_lt_of_cell? w _ (hd 2 _ rfl)
            have x1 : wo.cell? ⟨b, off + i * 4 + 1, none⟩ = some (.int .i64 x.ln) := (HB.out.cell (p := ⟨b, off + i * 4 + 1, none⟩) hblt).trans (hd 1 _ rfl)
            have x2 : wo.cell? ⟨b, off + i * 4 + 2, none⟩ = some (.int .i64 x.va) := (HB.out.cell (p := ⟨b, off + i * 4 + 2, none⟩) hblt).trans (hd 2 _ rfl)
            have x3 : wo.cell? ⟨b, off + i * 4 + 3, none⟩ = some (.string x.ri) := (HB.out.cell (p := ⟨b, off + i * 4 + 3, none⟩) hblt).trans (hd 3 _ rfl)
            have HAX : Hid (adAt l i = x) := Lib.hid (by unfold adAt; rw [Int.toNat_natCast, getD_of hx])
            have hxb := ha.out.2 x (List.mem_of_getElem? hx)
            obtain ⟨hxl, hxv⟩ := hxb
            have hsb := sel_bits l ha.out (intBit s) i (by omega)
            obtain ⟨hsb1, hsb2⟩ := hsb
            clear hx hd
            cases e : intBit s i
            case false =>
              rw [e] at htb
              have htb' : ((s / 2 ^ i).tmod 2 == 0) = true := htb
              have e1 : Hid (bitsL (intBit s) (i + 1) = bitsL (intBit s) i) := Lib.hid (by simp only [bitsL, e]; rfl)
              have e2 : Hid (rgtB l (intBit s) (i + 1) = rgtB l (intBit s) i) := Lib.hid (by simp only [rgtB, e]; rfl)
              clear htb e
              go_wp2
              go_roundg (l.length - (i + 1))
              case measure => omega
              case rel => exact ⟨i + 1, by omega, by omega, by go_num, by rw [e1.out], by rw [e1.out], (show Aside _ from e2.out.trans HR.out), ⟨nn, rfl⟩⟩
            case true =>
              rw [e] at htb
              have htb' : ((s / 2 ^ i).tmod 2 == 0) = false := htb
              have e1 : Hid (bitsL (intBit s) (i + 1) = bitsL (intBit s) i ++ [(i : Int)]) := Lib.hid (by simp only [bitsL, e, if_true])
              have e2 : Hid (rgtB l (intBit s) (i + 1) = (rgtB l (intBit s) i && !((bitsL (intBit s) i).any fun j => riv l j i))) := Lib.hid (by simp only [rgtB, e, if_true])
              clear htb e
              go_wp2
              go_loopg [15] i (fun gg s15 wr => ∃ k : Nat, k ≤ i ∧ i - k ≤ gg ∧ s15 = .int .i64 k ∧ Aside (∀ j : Nat, j < k → intBit s j = true → riv l (j : Int) i = false) ∧ (∃ n2, wr = wo.drewN n2))
              case atStart => exact ⟨0, Nat.zero_le _, by omega, rfl, (show Aside _ from fun j hj => absurd hj (Nat.not_lt_zero _)), ⟨nn, rfl⟩⟩
              obtain ⟨k, hk, hgk, rfl, HK, ⟨n2, rfl⟩⟩ := hrel
              by_cases hki : k < i
              · have hkz : (k : Int) < (i : Int) := by omega
                have hkz2 : (k : Int) < (l.length : Int) := by omega
                have htk := tmod_bit' s k
                obtain ⟨y, hy⟩ : ∃ y, l[k]? = some y := ⟨l[k], by simp [show k < l.length by omega]⟩
                obtain ⟨b', off', hao', hd'⟩ := HEL.out k y hy
                simp only [Option.some.injEq, Addr.mk.injEq, and_true] at hao'
                obtain ⟨rfl, rfl⟩ := hao'
                have y3 : wo.cell? ⟨b, off + k * 4 + 3, none⟩ = some (.string y.ri) := (HB.out.cell (p := ⟨b, off + k * 4 + 3, none⟩) hblt).trans (hd' 3 _ rfl)
                have HRI : Hid (riv l (k : Int) i = (!x.ri.toList.isEmpty && y.ri.toList == x.ri.toList)) := Lib.hid (by
                  unfold riv
                  rw [HAX.out]
                  unfold adAt
                  rw [Int.toNat_natCast, getD_of hy])
                have HNX : Hid ((intBit s k = true → riv l (k : Int) i = false) → ∀ j : Nat, j < k + 1 → intBit s j = true → riv l (j : Int) i = false) := Lib.hid (fun h j hj hb => by
                  by_cases ej : j = k
                  · subst ej; exact h hb
                  · exact HK.out j (by omega) hb)
                clear hy hd'
                cases ek : intBit s k
                case false =>
                  rw [ek] at htk HNX
                  go_wp2
                  go_quiet (fail)
                  go_wp2
                  go_roundg (i - (k + 1))
                  case measure => omega
                  case rel => exact ⟨k + 1, by omega, by omega, by go_num, (show Aside _ from HNX.out (fun h => by cases h)), ⟨_, rfl⟩⟩
                rw [ek] at htk
                cases e7 : y.ri.toList.isEmpty
                case true =>
                  have e7' : y.ri.toList = [] := by simpa using e7
                  have hrf : Hid (riv l (k : Int) i = false) := Lib.hid (by
                    rw [HRI.out, e7']
                    cases hxe : x.ri.toList with
                    | nil => rfl
                    | cons a r => rfl)
                  go_wp2
                  go_quiet (fail)
                  go_wp2
                  go_roundg (i - (k + 1))
                  case measure => omega
                  case rel => exact ⟨k + 1, by omega, by omega, by go_num, (show Aside _ from HNX.out (fun _ => hrf.out)), ⟨_, rfl⟩⟩
                have e7' : ¬ y.ri.toList = [] := by simpa using e7
                cases e8 : (y.ri.toList == x.ri.toList)
                case false =>
                  have hrf : Hid (riv l (k : Int) i = false) := Lib.hid (by rw [HRI.out, e8, Bool.and_false])
                  go_wp2
                  go_quiet (fail)
                  go_wp2
                  go_roundg (i - (k + 1))
                  case measure => omega
                  case rel => exact ⟨k + 1, by omega, by omega, by go_num, (show Aside _ from HNX.out (fun _ => hrf.out)), ⟨_, rfl⟩⟩
                case true =>
                  go_wp2
                  go_quiet (fail)
                  go_wp2_with (go_at_call 6; refine (awake_any _).mono ?_; rintro e w4 ⟨rfl, hb4⟩)
                  go_ret
                  exact ⟨rfl, (below_drewN HB.out _).thru hb4⟩
              · obtain rfl : k = i := by omega
                have hkz : ¬ (k : Int) < (k : Int) := by omega
                have HA : Hid (rgtB l (intBit s) (k + 1) = true) := Lib.hid (by
                  rw [e2.out, HR.out, Bool.true_and, Bool.not_eq_true', List.any_eq_false]
                  intro j hj
                  have hr := bitsL_rng (intBit s) k j hj
                  obtain ⟨q, rfl⟩ := Int.eq_ofNat_of_zero_le hr.1
                  have := (bitsL_mem (intBit s) k q).1 hj
                  rw [HK.out q this.1 this.2]
                  simp)
                have HV1 : Hid (selL l (bitsL (intBit s) (k + 1)) = selL l (bitsL (intBit s) k) + x.ln) := Lib.hid (by rw [e1.out, selL_snoc, HAX.out])
                have HV2 : Hid (selV l (bitsL (intBit s) (k + 1)) = selV l (bitsL (intBit s) k) + x.va) := Lib.hid (by rw [e1.out, selV_snoc, HAX.out])
                go_wp2
                go_roundg (l.length - (k + 1))
                case measure => omega
                case rel => exact ⟨k + 1, by omega, by omega, by go_num, by rw [HV1.out], by rw [HV2.out], (show Aside _ from HA.out), ⟨_, rfl⟩⟩
          · obtain rfl : i = l.length := by omega
            have hltz : ¬ (l.length : Int) < (l.length : Int) := by omega
            have hbest : m < selL l (bitsL (intBit s) l.length) ∨ selV l (bitsL (intBit s) l.length) ≤ z := by
              by_cases h : selL l (bitsL (intBit s) l.length) ≤ m
              · right
                have h1 := HBB.out.2 _ (bitsL_ok HR.out h)
                rw [Bool.eq_false_iff] at h1
                have h2 : ¬ selV l B < selV l (bitsL (intBit s) l.length) := fun h => h1 ((betB_iff l _ _).2 (.inl h))
                rw [HN.out]
                exact Int.not_lt.1 h2
              · left; omega
            by_cases hm : m < selL l (bitsL (intBit s) l.length)
            · have hd : decide (m < selL l (bitsL (intBit s) l.length)) = true := decide_eq_true hm
              clear hbest
              go_wp2_with (go_at_call 6; refine (awake_any _).mono ?_; rintro e w4 ⟨rfl, hb4⟩)
              go_ret
              exact ⟨rfl, (below_drewN HB.out _).thru hb4⟩
            · have hd : decide (m < selL l (bitsL (intBit s) l.length)) = false := decide_eq_false hm
              have hv : selV l (bitsL (intBit s) l.length) ≤ z := by
                rcases hbest with h | h
                · exact absurd h hm
                · exact h
              clear hbest
              go_wp2_with (go_at_call 6; refine (awake_any _).mono ?_; rintro e w4 ⟨rfl, hb4⟩)
              go_ret
              exact ⟨rfl, (below_drewN HB.out _).thru hb4⟩
  · have K1 := Lib.hid (fun (W : World) (e : Ending) (w' : World) (h : FlP W l m e w') => h.isBad h0)
    have h0' : (fillF l m != 0) = true := by simpa using h0
    generalize fillF l m = f at K1 h0'
    clear h0 hl hw
    go_enter Try.func3, Try.ntmps3
    go_wp2_with fail
    refine H1.out.mono ?_
    rintro e w1 h
    obtain ⟨rfl, hb⟩ := K1.out _ e w1 h
    have HB := Lib.hid hb
    clear h hb
    go_wp2_with (go_at_call 6; refine (awake_any _).mono ?_; rintro e w4 ⟨rfl, hb4⟩)
    go_ret
    exact ⟨rfl, HB.out.thru hb4⟩
end Go.Proofs.Ytaajjngfmaiicaa

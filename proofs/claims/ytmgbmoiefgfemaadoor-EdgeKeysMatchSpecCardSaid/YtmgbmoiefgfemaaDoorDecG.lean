/- decoded of the program: the walk. -/
import Derived.Test.YtmgbmoiefgfemaaDoorDecW
namespace Go.Proofs.YtmgbmoiefgfemaaDoor
open Go.RowKit

theorem num_char {l : List UInt8} : strOfNums (l.map fun c => (c.toNat : Int)) = ⟨l.toArray⟩ := by
  unfold strOfNums
  have : (l.map fun c => (c.toNat : Int)).map (fun n => UInt8.ofNat n.toNat) = l := by
    rw [List.map_map]
    conv => rhs; rw [← List.map_id l]
    apply List.map_congr_left
    intro c _
    show UInt8.ofNat ((c.toNat : Int).toNat) = c
    rw [Int.toNat_natCast, UInt8.ofNat_toNat]
  rw [this]
theorem conv_u (w : World) (l : List UInt8) (v : Value) (hl : Sl w 1 encU v l) : (convert 103 9 v).run Tryd.prog w = .ok (.string ⟨l.toArray⟩) w := by
  have h := conv_own w (l.map fun c => (c.toNat : Int)) v (by
    obtain ⟨ao, cap, rfl, h1, h2, h3, h4⟩ := hl
    refine ⟨ao, cap, by rw [List.length_map], by rw [List.length_map]; exact h1, h2, h3, fun i x hx => ?_⟩
    rw [List.getElem?_map] at hx
    cases hc : l[i]? with
    | none => rw [hc] at hx; cases hx
    | some c =>
      rw [hc] at hx
      simp only [Option.map_some, Option.some.injEq] at hx
      subst hx
      exact h4 i c hc)
  rw [num_char] at h
  exact h
/-- What a request reads as, and whether it can be read. -/
def decS (s : ByteArray) : ByteArray := match decG s.data.toList with | some t => ⟨t.toArray⟩ | none => ⟨#[]⟩
def decOk (s : ByteArray) : Bool := (decG s.data.toList).isSome
theorem digs_any : ∀ k, k < 16 → (([48, 49, 50, 51, 52, 53, 54, 55, 56, 57, 65, 66, 67, 68, 69, 70] : List UInt8).getD k 0) = digU k := by decide +kernel
theorem hexs_at : ∀ k : Fin 16, (({ data := #[48, 49, 50, 51, 52, 53, 54, 55, 56, 57, 65, 66, 67, 68, 69, 70] } : ByteArray)[k.val]'(k.isLt)) = digU k.val := by decide +kernel
set_option maxRecDepth 100000 in
set_option maxHeartbeats 2000000 in
theorem decoded_any (s : ByteArray) (w : World) (hs : s.size ≤ 300) :
    Calls Tryd.prog 51 #[.string s] w fun e w' => e = .returned (.tuple #[.string (decS s), .bool (decOk s)]) ∧ Below w.heap.size w w' := by
  obtain ⟨l, hl⟩ : ∃ l, l = s.data.toList := ⟨_, rfl⟩
  have hll : l.length = s.size := by rw [hl, Array.length_toList]; rfl
  have HS : Hid (∀ t, decG l = some t → decS s = ⟨t.toArray⟩ ∧ decOk s = true) := Lib.hid (fun t h => by unfold decS decOk; rw [← hl, h]; exact ⟨rfl, rfl⟩)
  have HN : Hid (decG l = none → decS s = ⟨#[]⟩ ∧ decOk s = false) := Lib.hid (fun h => by unfold decS decOk; rw [← hl, h]; exact ⟨rfl, rfl⟩)
  have HC : Hid (∀ i (c : UInt8), l[i]? = some c → chr s i = (c.toNat : Int)) := Lib.hid (fun i c h => chr_nat (by rw [← hl]; exact h))
  have HLL := Lib.hid hll
  have hs1 : (s.size : Int) ≤ 300 := by omega
  have hs' : s.size ≤ 9223372036854775807 := by omega
  generalize decS s = R at HS HN ⊢
  generalize decOk s = K at HS HN ⊢
  clear hl hll
  go_enter Tryd.func51, Tryd.ntmps51
  go_wp2_with fail
  go_loopg [4, 5, 6] s.size (fun gg s4 s5 s6 wr => ∃ (i : Nat) (acc : List UInt8), i ≤ s.size ∧ s.size - i ≤ gg ∧ s5 = .int .i64 i ∧ acc.length ≤ i ∧ Aside (Own wr w.heap.size 5 1 encU s4 acc) ∧ Aside (Below w.heap.size w wr) ∧ Aside (decG l = (decG (l.drop i)).map (acc ++ ·)))
  case atStart => exact ⟨0, [], by omega, by omega, rfl, by simp, (show Aside _ from Own.nil), (show Aside _ from Below.refl _ w), (show Aside (decG l = (decG (l.drop 0)).map ([] ++ ·)) from by show _ = _; rw [List.drop_zero]; cases decG l <;> rfl)⟩
  case round =>
    obtain ⟨wq, rfl⟩ : ∃ wq : World, wq = wr := ⟨_, rfl⟩
    obtain ⟨i, acc, hi, hgi, rfl, hacc, OW, BW, DG⟩ := hrel
    obtain ⟨xa, xc, rfl, hxc, hxm⟩ := Own.slvL encU_len OW.out
    have HO := Lib.hid OW.out
    have HB := Lib.hid BW.out
    have HD := Lib.hid DG.out
    have hsz := HB.out.size
    clear OW BW DG
    by_cases hlt : i < s.size
    · have hltz : (i : Int) < (s.size : Int) := by omega
      obtain ⟨c, hcx⟩ : ∃ c, l[i]? = some c := ⟨l[i]'(by have := HLL.out; omega), by simp⟩
      have hc := (chr_of hlt).trans (HC.out i c hcx)
      have HDR := Lib.hid (drop_next hcx)
      have hcl := c.toNat_lt
      by_cases h37 : c = 37
      · subst h37
        have hc37 : (((37 : UInt8).toNat : Nat) : Int) = 37 := rfl
        rw [hc37] at hc
        by_cases h2 : i + 2 < s.size
        · obtain ⟨J1, hJ1⟩ : ∃ J, J = i + 1 := ⟨_, rfl⟩
          obtain ⟨J2, hJ2⟩ : ∃ J, J = i + 2 := ⟨_, rfl⟩
          have e1 : (i : Int) + 1 = (J1 : Int) := by omega
          have e2 : (i : Int) + 2 = (J2 : Int) := by omega
          have hj1 : J1 < s.size := by omega
          have hj2 : J2 < s.size := by omega
          have hj1z : (J1 : Int) < (s.size : Int) := by omega
          have hj2z : (J2 : Int) < (s.size : Int) := by omega
          obtain ⟨a, hax⟩ : ∃ c, l[J1]? = some c := ⟨l[J1]'(by have := HLL.out; omega), by simp⟩
          obtain ⟨b, hbx⟩ : ∃ c, l[J2]? = some c := ⟨l[J2]'(by have := HLL.out; omega), by simp⟩
          have hca := (chr_of hj1).trans (HC.out J1 a hax)
          have hcb := (chr_of hj2).trans (HC.out J2 b hbx)
          have HDA := Lib.hid (drop_next hax)
          have HDB := Lib.hid (drop_next hbx)
          have HDD : Hid (decG l = (decG (37 :: a :: b :: l.drop (i + 3))).map (acc ++ ·)) := Lib.hid (by
            have h1 := HDA.out
            have h3 := HDB.out
            rw [hJ1] at h1
            rw [hJ2] at h3
            rw [HD.out, HDR.out, h1, show i + 1 + 1 = i + 2 by omega, h3, show i + 2 + 1 = i + 3 by omega])
          have HHA := Lib.hid (fun W => hex_any a W)
          have HHB := Lib.hid (fun W => hex_any b W)
          have HJ := Lib.hid (And.intro hJ1 hJ2)
          obtain ⟨A, hA⟩ : ∃ A, A = a.toNat := ⟨_, rfl⟩
          obtain ⟨B, hB⟩ : ∃ A, A = b.toNat := ⟨_, rfl⟩
          rw [← hA] at HHA hca
          rw [← hB] at HHB hcb
          clear hA hB hJ1 hJ2 hax hbx hcx HDA HDB HDR HD
          cases ha : hexV a with
          | none =>
            obtain ⟨hR, hK⟩ := HN.out (by rw [HDD.out, decG_no _ (.inl ha)]; rfl)
            have HR := Lib.hid (And.intro hR hK)
            rw [show hexI a = -1 by unfold hexI; rw [ha]] at HHA
            clear hR hK ha HHB
            go_wp2_with (go_at_call 86; with_reducible refine (HHA.out _).mono ?_; rintro e w' ⟨rfl, rfl⟩)
            go_ret2
            exact ⟨by rw [HR.out.1, HR.out.2]; rfl, HB.out⟩
          | some x =>
            rw [hexI_some ha] at HHA
            have hx16 := hexV_lt ha
            have hx0 : ¬ (x : Int) < 0 := by omega
            cases hb : hexV b with
            | none =>
              obtain ⟨hR, hK⟩ := HN.out (by rw [HDD.out, decG_no _ (.inr hb)]; rfl)
              have HR := Lib.hid (And.intro hR hK)
              rw [show hexI b = -1 by unfold hexI; rw [hb]] at HHB
              clear hR hK hb ha
              go_wp2_with (first | (go_at_call 86; with_reducible refine (HHA.out _).mono ?_; rintro e w' ⟨rfl, rfl⟩) | (go_at_call 86; with_reducible refine (HHB.out _).mono ?_; rintro e w' ⟨rfl, rfl⟩))
              go_ret2
              exact ⟨by rw [HR.out.1, HR.out.2]; rfl, HB.out⟩
            | some y =>
              rw [hexI_some hb] at HHB
              have hy16 := hexV_lt hb
              have hy0 : ¬ (y : Int) < 0 := by omega
              have hpc := decG_pct (l.drop (i + 3)) ha hb
              obtain ⟨N, hN⟩ : ∃ N, N = 16 * x + y := ⟨_, rfl⟩
              rw [← hN] at hpc
              have hN256 : N < 256 := by omega
              have HNX : Hid (decG l = (decG (l.drop (i + 3))).map (acc ++ pctU N ++ ·)) := Lib.hid (by
                rw [HDD.out, hpc]
                cases decG (l.drop (i + 3)) with
                | none => rfl
                | some t => simp)
              obtain ⟨M, hM⟩ : ∃ M, M = 16 * x := ⟨_, rfl⟩
              have f1 : 16 * (x : Int) = (M : Int) := by omega
              have f2 : (M : Int) + (y : Int) = (N : Int) := by omega
              have f3 : (N : Int) % 256 = (N : Int) := by omega
              have g1 : IntKind.i64.wrap (16 * (x : Int)) = (M : Int) := by rw [f1]; exact IntWalk.i64_in _ (by omega)
              have g2 : IntKind.i64.wrap ((M : Int) + (y : Int)) = (N : Int) := by rw [f2]; exact IntWalk.i64_in _ (by omega)
              have g3 : IntKind.u8.wrap (N : Int) = (N : Int) := by rw [IntKind.wrap_u8]; omega
              have hwj1 : IntKind.i64.wrap ((i : Int) + 1) = (J1 : Int) := by rw [e1]; exact IntWalk.i64_in _ (by omega)
              have hwj2 : IntKind.i64.wrap ((i : Int) + 2) = (J2 : Int) := by rw [e2]; exact IntWalk.i64_in _ (by omega)
              have HCM := Lib.hid (fun W => common_any (UInt8.ofNat N) W)
              have hun : (UInt8.ofNat N).toNat = N := by rw [u8_toNat, Nat.mod_eq_of_lt hN256]
              rw [hun] at HCM
              have HPU : Hid (pctU N = if comU (UInt8.ofNat N) = true then [UInt8.ofNat N] else [37, digU (N / 16), digU (N % 16)]) := Lib.hid rfl
              have hcU : encU (UInt8.ofNat N) = [Value.int .u8 (N : Int)] := by unfold encU; rw [hun]
              have HNN := Lib.hid (And.intro hN hM)
              have hNz : (N : Int) < 256 := by omega
              clear ha hb hpc hN hM hun
              go_upto_region 9 with (first | (go_at_call 86; with_reducible refine (HHA.out _).mono ?_; rintro e w' ⟨rfl, rfl⟩) | (go_at_call 86; with_reducible refine (HHB.out _).mono ?_; rintro e w' ⟨rfl, rfl⟩))
              go_cut [6] (fun s6 wc => s6 = .int .u8 N ∧ ∃ q, wc = wq.drewN q)
              case first =>
                go_quiet (first | (go_at_call 86; with_reducible exact Calls.quiet_of_same ((HHA.out _).mono fun _ _ h => ⟨h.1, h.2.symm⟩)) | (go_at_call 86; with_reducible exact Calls.quiet_of_same ((HHB.out _).mono fun _ _ h => ⟨h.1, h.2.symm⟩)))
                go_wp2
                go_meet
                exact ⟨rfl, _, rfl⟩
              obtain ⟨rfl, q9, rfl⟩ := hcut
              have HO9 : Hid (Own (wq.drewN q9) w.heap.size 5 1 encU (.slice xa acc.length xc) acc) := HO
              have HB9 := Lib.hid (below_drewN HB.out q9)
              obtain ⟨w9, hw9⟩ : ∃ w9, w9 = wq.drewN q9 := ⟨_, rfl⟩
              rw [← hw9] at HO9 HB9 ⊢
              have hsz9 := HB9.out.size
              clear hw9 HO HB hsz hwj1 hwj2 g1 g2 g3 f1 f2 f3 HHA HHB
              cases hcm : comU (UInt8.ofNat N)
              case true =>
                rw [hcm] at HCM
                have HP1 : Hid (pctU N = [UInt8.ofNat N]) := Lib.hid (by rw [HPU.out, if_pos hcm])
                rw [HP1.out] at HNX
                have hbd : (acc.length + 1) * 1 ≤ 140737488355328 := by omega
                clear hcm
                go_wp2_with (first | (go_at_call 87; with_reducible refine (HCM.out _).mono ?_; rintro e w' ⟨rfl, rfl⟩) | (at_builtin; go_loud (refine wpList_push (l := acc) rfl _ _ 103 rfl slU rfl rfl (UInt8.ofNat N) hcU rfl rfl HO9.out rfl hbd hsz9 ?_; intro v5 w5 ho5 hb5; obtain ⟨ya, yc, rfl, -, -⟩ := Own.slvL encU_len ho5; have HO5 := Lib.hid ho5; have HB5 := Lib.hid (HB9.out.trans hb5); clear ho5 hb5)))
                go_roundg (s.size - (i + 3))
                case measure => omega
                case rel => exact ⟨i + 3, acc ++ [UInt8.ofNat N], by omega, by omega, (by have h := HJ.out.2; first | (rw [h]; go_num) | (subst h; go_num)), by simp; omega, (show Own _ _ _ _ _ (.slice ya (acc.length + 1) yc) _ from by have h := HO5.out; rw [List.length_append] at h; exact h), HB5.out, HNX.out⟩
              case false =>
                rw [hcm] at HCM
                have HP1 : Hid (pctU N = [37, digU (N / 16), digU (N % 16)]) := Lib.hid (by rw [HPU.out, if_neg (by simp [hcm])])
                clear hcm
                go_upto_region 12 with (go_at_call 87; with_reducible refine (HCM.out _).mono ?_; rintro e w' ⟨rfl, rfl⟩)
                obtain ⟨k1, hk1⟩ : ∃ k, k = N / 16 := ⟨_, rfl⟩
                obtain ⟨k2, hk2⟩ : ∃ k, k = N % 16 := ⟨_, rfl⟩
                have g1 : (N : Int) / 16 = (k1 : Int) := by omega
                have g2 : (N : Int) % 16 = (k2 : Int) := by omega
                have g3 : (N : Int).tmod 16 = (k2 : Int) := by rw [Int.tmod_eq_emod_of_nonneg (by omega)]; omega
                have gw1 : IntKind.u8.wrap (k1 : Int) = (k1 : Int) := by rw [IntKind.wrap_u8]; omega
                have gw2 : IntKind.u8.wrap (k2 : Int) = (k2 : Int) := by rw [IntKind.wrap_u8]; omega
                have hk1l : k1 < 16 := by omega
                have hk2l : k2 < 16 := by omega
                have hk1z : (k1 : Int) < 16 := by omega
                have hk2z : (k2 : Int) < 16 := by omega
                have q1 : ((({ data := #[48, 49, 50, 51, 52, 53, 54, 55, 56, 57, 65, 66, 67, 68, 69, 70] } : ByteArray)[k1]'hk1l).toNat : Int) = ((digU k1).toNat : Int) := by rw [hexs_at ⟨k1, hk1l⟩]
                have q2 : ((({ data := #[48, 49, 50, 51, 52, 53, 54, 55, 56, 57, 65, 66, 67, 68, 69, 70] } : ByteArray)[k2]'hk2l).toNat : Int) = ((digU k2).toNat : Int) := by rw [hexs_at ⟨k2, hk2l⟩]
                rw [← hk1, ← hk2] at HP1
                rw [HP1.out] at HNX
                have hCC : ([37, digU k1, digU k2] : List UInt8).flatMap encU = [Value.int .u8 37, .int .u8 ((digU k1).toNat : Nat), .int .u8 ((digU k2).toNat : Nat)] := rfl
                have hbd : (acc.length + 3) * 1 ≤ 140737488355328 := by omega
                have HO9D : Hid (Own w9.drew w.heap.size 5 1 encU (.slice xa acc.length xc) acc) := Lib.hid (show Own w9 w.heap.size 5 1 encU (.slice xa acc.length xc) acc from HO9.out)
                have hszd : w.heap.size ≤ w9.drew.heap.size := hsz9
                have HB9D := Lib.hid HB9.out.drew
                clear hk1 hk2 HP1 HPU
                go_region_law (refine step_pushes (l := acc) (ys := [37, digU k1, digU k2]) rfl _ _ 103 rfl slU rfl rfl hCC rfl rfl rfl HO9.out rfl hbd hsz9 ?_; intro v5 w5 ho5 hb5; obtain ⟨ya, yc, rfl, -, -⟩ := Own.slvL encU_len ho5; have HO5 := Lib.hid ho5; have HB5 := Lib.hid (HB9.out.trans hb5); clear ho5 hb5)
                all_goals go_wp2
                all_goals
                  go_roundg (s.size - (i + 3))
                  case measure => omega
                  case rel => exact ⟨i + 3, acc ++ [37, digU k1, digU k2], by omega, by omega, (by have h := HJ.out.2; first | (rw [h]; go_num) | (subst h; go_num)), by simp; omega, (show Own _ _ _ _ _ (.slice ya (acc.length + 3) yc) _ from by have h := HO5.out; rw [List.length_append] at h; exact h), HB5.out, HNX.out⟩
        · have h2z : ¬ (i : Int) + 2 < (s.size : Int) := by omega
          have h2z' : (s.size : Int) ≤ (i : Int) + 2 := by omega
          obtain ⟨hR, hK⟩ := HN.out (by
            rw [HD.out, HDR.out, decG_short (by rw [List.length_drop]; have := HLL.out; omega)]
            rfl)
          have HR := Lib.hid (And.intro hR hK)
          clear hR hK hcx h2
          go_wp2_with fail
          go_ret2
          exact ⟨by rw [HR.out.1, HR.out.2]; rfl, HB.out⟩
      · have hn : ¬ (c.toNat : Int) = 37 := fun e => h37 (UInt8.toNat_inj.1 (by show c.toNat = 37; omega))
        have hnb : ((c.toNat : Int) != 37) = true := by rw [bne_iff_ne]; exact hn
        have HNX : Hid (decG l = (decG (l.drop (i + 1))).map (acc ++ [c] ++ ·)) := Lib.hid (by
          rw [HD.out, HDR.out, decG_as _ h37]
          cases decG (l.drop (i + 1)) with
          | none => rfl
          | some t => simp)
        have hbd : (acc.length + 1) * 1 ≤ 140737488355328 := by omega
        clear h37 hcx hn
        go_wp2_with (at_builtin; go_loud (refine wpList_push (l := acc) rfl _ _ 103 rfl slU rfl rfl c rfl rfl rfl HO.out rfl hbd hsz ?_; intro v5 w5 ho5 hb5; obtain ⟨ya, yc, rfl, -, -⟩ := Own.slvL encU_len ho5; have HO5 := Lib.hid ho5; have HB5 := Lib.hid (HB.out.trans hb5); clear ho5 hb5))
        go_roundg (s.size - (i + 1))
        case measure => omega
        case rel => exact ⟨i + 1, acc ++ [c], by omega, by omega, by go_num, by simp; omega, (show Own _ _ _ _ _ (.slice ya (acc.length + 1) yc) _ from by have h := HO5.out; rw [List.length_append] at h; exact h), HB5.out, HNX.out⟩
    · obtain rfl : i = s.size := by omega
      have hcv := conv_u wq acc _ (HO.out.sl encU_len)
      obtain ⟨hR, hK⟩ := HS.out acc (by
        rw [HD.out, List.drop_eq_nil_of_le (by have := HLL.out; omega), show decG [] = some [] by rw [decG]]
        simp)
      have HR := Lib.hid hR
      have HK := Lib.hid hK
      clear hR hK
      go_wp2_with fail
      go_ret2
      exact ⟨by rw [HR.out, HK.out]; rfl, HB.out⟩
end Go.Proofs.YtmgbmoiefgfemaaDoor

/- The digest of the reference: the walk. -/
import Derived.Test.YteepbfpcdhdgfaaDoorG13
import Derived.Test.YteepbfpcdhdgfaaDoorG14
import Derived.Shelf.Slices.Turned
import Derived.Shelf.Slices.Cells
import Derived.Shelf.Spec.SlicesInsertGrow
import Derived.Shelf.SlGeneric
import Derived.Test.YteepbfpcdhdgfaaDoorProg
namespace Go.Proofs.YteepbfpcdhdgfaaDoor
open Go.RowKit

theorem bytesOf8_any (w : World) (n : Nat) (hn : n < 18446744073709551616) :
    Calls Tryd.prog 74 #[.int .u64 n, .int .i64 8] w (UPost w (bytes4 (n / 4294967296 % 4294967296) ++ bytes4 (n % 4294967296))) := by
  have h := bytesOf_any w n 8 (by omega) (by omega)
  rw [bytesN8] at h
  exact h
def startN (i : Nat) : List UInt8 := (List.range i).map UInt8.ofNat
theorem startN_next (i : Nat) : startN i ++ [UInt8.ofNat i] = startN (i + 1) := by
  unfold startN
  rw [List.range_succ]
  simp
theorem startN_all : startN 16 = dgStart := by decide +kernel
theorem Own.slvL {α : Type} {w : World} {base : Nat} {E : TypeId} {k : Nat} {enc : α → List Value} {v : Value} {l : List α} (hk : ∀ x, (enc x).length = k) (h : Own w base E k enc v l) : ∃ ao cap, v = .slice ao l.length cap ∧ l.length ≤ cap ∧ cap ≤ 9223372036854775807 := by
  obtain ⟨ao, cap, P, e, h1, h2, _⟩ := own_parts hk h
  exact ⟨ao, cap, e, h1, by unfold maxLen at h2; omega⟩
set_option maxRecDepth 100000 in
set_option maxHeartbeats 2000000 in
theorem digestR_any (w : World) (l : List UInt8) (v : Value) (hl : Sl w 1 encU v l) (hn : l.length ≤ 1000) :
    Calls Tryd.prog 57 #[v] w (OwnRet w 5 1 encU (digN l)) := by
  have HC := Lib.hid (cloneU_any w l v hl (by omega))
  obtain ⟨bo, bcap, rfl, hbc, hbm, -, -⟩ := hl
  unfold maxLen at hbm
  unfold OwnRet at HC
  go_enter Tryd.func57, Tryd.ntmps57
  go_wp2_with fail
  refine HC.out.mono ?_
  rintro e w1 ⟨v1, rfl, ho1, hb1⟩
  obtain ⟨a1, c1, rfl, hc1, hm1⟩ := Own.slvL encU_len ho1
  have HO1 := Lib.hid ho1
  have HB1 := Lib.hid hb1
  clear ho1 hb1
  go_wp2_with (at_builtin; go_loud (refine wpList_push (l := l) rfl _ _ 58 rfl slU rfl rfl (128 : UInt8) rfl rfl rfl HO1.out rfl (by omega) HB1.out.size ?_; intro v2 w2 ho2 hb2; have HO2 := Lib.hid ho2; have HB2 := Lib.hid (HB1.out.trans hb2); clear ho2 hb2))
  clear hc1 hm1
  go_loopg [3] 24 (fun gg s3 wr => ∃ t : List UInt8, (24 - t.length % 16) % 16 ≤ gg ∧ l.length < t.length ∧ t.length + (24 - t.length % 16) % 16 ≤ l.length + 16 ∧ Aside (Below w.heap.size w wr) ∧ Aside (Own wr w.heap.size 5 1 encU s3 t) ∧ Aside (∃ q, (24 - t.length % 16) % 16 ≤ q ∧ padZ q t = padZ 16 (l ++ [128])))
  case atStart => exact ⟨l ++ [128], by omega, by simp, by simp; omega, HB2.out, HO2.out, (show Aside _ from ⟨16, by omega, rfl⟩)⟩
  case round =>
    obtain ⟨wq, rfl⟩ : ∃ wq : World, wq = wr := ⟨_, rfl⟩
    obtain ⟨t, hgt, htl, htb, BW, OW, PW⟩ := hrel
    obtain ⟨xa, xc, rfl, hxc, hxm⟩ := Own.slvL encU_len OW.out
    obtain ⟨r, hr⟩ : ∃ r, r = (t.length + 8) % 16 := ⟨_, rfl⟩
    have hrm : ((t.length : Int) + 8).tmod 16 = (r : Int) := by rw [Int.tmod_eq_emod_of_nonneg (by omega)]; omega
    by_cases h8 : r = 0
    · obtain ⟨q, -, hpad⟩ := PW.out
      rw [padZ_end (by omega)] at hpad
      have HP := Lib.hid hpad
      have hr8 : ((r : Int) != 0) = false := by simp [h8]
      have HB3 := Lib.hid BW.out
      have HO3 := Lib.hid OW.out
      have HR := Lib.hid hr
      have hZ : bytes4 (l.length / 4294967296 % 4294967296) ++ bytes4 (l.length % 4294967296) = bytes4 0 ++ bytes4 l.length := by
        rw [show l.length / 4294967296 % 4294967296 = 0 by omega, show l.length % 4294967296 = l.length by omega]
      obtain ⟨Z, hZ2⟩ : ∃ Z, Z = bytes4 (l.length / 4294967296 % 4294967296) ++ bytes4 (l.length % 4294967296) := ⟨_, rfl⟩
      have hZl : Z.length = 8 := by rw [hZ2]; rfl
      have HWB := Lib.hid (fun W => bytesOf8_any W l.length (by omega))
      rw [← hZ2] at HWB
      have HTX : Hid (dgText l = t ++ Z) := Lib.hid (by
        unfold dgText
        rw [← hpad, hZ2])
      have hlw : IntKind.u64.wrap (l.length : Int) = (l.length : Int) := by rw [IntKind.wrap_u64]; omega
      have HZL := Lib.hid hZl
      have HTL : Hid ((dgText l).length % 16 = 0) := Lib.hid (by rw [HTX.out, List.length_append, hZl]; omega)
      have HTL2 : Hid ((dgText l).length ≤ 2000) := Lib.hid (by rw [HTX.out, List.length_append, hZl]; omega)
      clear hpad PW BW OW hr HB2 HO2 HB1 HO1 hZ hZ2 hZl
      unfold UPost at HWB
      rw [HZL.out] at HWB
      go_wp2_with fail
      refine (HWB.out _).mono ?_
      rintro e w4 ⟨S4, hS4, rfl, hk4, hb4⟩
      have HB4 := Lib.hid (HB3.out.thru hb4)
      have HO4 := Lib.hid (HO3.out.below hb4 (Nat.le_refl _))
      have HS4 := Lib.hid (hk4.bytes.sl HZL.out (Nat.le_refl _) (by unfold maxLen; omega))
      have hn4 : (t.length + Z.length) * 1 ≤ 140737488355328 := by rw [HZL.out]; omega
      clear hS4 hk4 hb4
      go_wp2_with (at_builtin; go_loud (refine wpList_extend (v := .slice xa t.length xc) (u := .slice (some ⟨S4, 0, none⟩) 8 8) (l := t) (m := Z) rfl _ _ 58 rfl slU encU_len (fun _ => rfl) rfl rfl HO4.out HS4.out hn4 HB4.out.size ?_; intro v6 w6 ho6 hb6; rw [← HTX.out] at ho6; have HO6 := Lib.hid ho6; have HB6 := Lib.hid (HB4.out.trans hb6); clear ho6 hb6))
      obtain ⟨T, hT⟩ : ∃ T, T = dgText l := ⟨_, rfl⟩
      have HDG : Hid (dgRun (T.length + 1) dgStart T = digN l) := Lib.hid (by rw [hT]; rfl)
      rw [← hT] at HO6 HTL HTL2 HTX
      have hne : T ≠ [] := by rw [HTX.out]; intro e; have h0 := congrArg List.length e; rw [List.length_append, List.length_nil, HZL.out] at h0; omega
      obtain ⟨tb, tcap, rfl, -, htb2, hcap1, hcap2, -, -⟩ := Own.getk encU_len HO6.out hne
      have HBT := Lib.hid HO6.out.bytes
      unfold maxLen at hcap2
      have hTm := HTL.out
      have hT2 := HTL2.out
      clear hT hne HO6 HTX HTL HTL2 HB3 HB4 HO3 HO4 HS4 HP HR HC hn4 htb2
      go_loopg [4, 5, 31] 16 (fun gg s4 s5 s31 wr => ∃ i : Nat, i ≤ 16 ∧ 16 - i ≤ gg ∧ s31 = .int .i64 i ∧ Aside (Below w6.heap.size w6 wr) ∧ Aside (Own wr w6.heap.size 5 1 encU s4 (startN i)))
      case atStart => exact ⟨0, by omega, by omega, rfl, (show Aside _ from Below.refl _ _), (show Aside _ from Own.nil)⟩
      case round =>
        obtain ⟨wp, rfl⟩ : ∃ wp : World, wp = wr := ⟨_, rfl⟩
        obtain ⟨i, hi, hgi, rfl, BP, OP⟩ := hrel
        have hsl : (startN i).length = i := by simp [startN]
        obtain ⟨ya, yc, rfl, hyc, hym⟩ := Own.slvL encU_len OP.out
        rw [hsl] at hyc OP ⊢
        by_cases hil : i < 16
        · have hiz : (i : Int) < 16 := by omega
          have hi8 : (i : Int) % 256 = (i : Int) := by omega
          have hcU : encU (UInt8.ofNat i) = [Value.int .u8 (i : Int)] := by
            unfold encU
            rw [u8_toNat, Nat.mod_eq_of_lt (by omega)]
          have HSN := Lib.hid (startN_next i)
          have HPB := Lib.hid BP.out.size
          have HSL := Lib.hid hsl
          clear hsl
          go_wp2_with (at_builtin; go_loud (refine wpList_push (l := startN i) rfl _ _ 58 rfl slU rfl rfl (UInt8.ofNat i) hcU rfl rfl OP.out rfl (by rw [HSL.out]; omega) HPB.out ?_; intro v7 w7 ho7 hb7; rw [HSN.out] at ho7; have HO7 := Lib.hid ho7; have HB7 := Lib.hid (BP.out.trans hb7); clear ho7 hb7))
          go_roundg (16 - (i + 1))
          case measure => omega
          case rel => exact ⟨i + 1, by omega, by omega, by go_num, HB7.out, HO7.out⟩
        · obtain rfl : i = 16 := by omega
          rw [startN_all] at OP
          rw [show (((16 : Nat) : Nat) : Int) = 16 from rfl]
          have HOP := Lib.hid OP.out
          have HBP := Lib.hid BP.out
          clear OP BP hyc hym hsl
          go_wp2_with fail
          go_loopg [4, 6, 7, 8, 11, 12] T.length (fun gg s4 s6 s7 s8 s11 s12 wr => ∃ (i : Nat) (st : List UInt8), i ≤ T.length ∧ T.length - i ≤ gg ∧ i % 16 = 0 ∧ s6 = .int .i64 i ∧ st.length = 16 ∧ Aside (Below w6.heap.size w6 wr) ∧ Aside (Own wr w6.heap.size 5 1 encU s4 st) ∧ Aside (∃ q, T.length - i < q ∧ dgRun q st (T.drop i) = digN l))
          case atStart => exact ⟨0, dgStart, by omega, by omega, rfl, rfl, rfl, HBP.out, HOP.out, (show Aside _ from ⟨T.length + 1, by omega, HDG.out⟩)⟩
          case round =>
            obtain ⟨w8, rfl⟩ : ∃ w8 : World, w8 = wr := ⟨_, rfl⟩
            obtain ⟨i, st, hi, hgi, him, rfl, hst, BP, OP, DR⟩ := hrel
            have hB8 := Lib.hid BP.out
            have hO8 := Lib.hid OP.out
            clear HOP HBP
            by_cases hil : i < T.length
            · have hiz : (i : Int) < (T.length : Int) := by omega
              have hi16 : i + 16 ≤ T.length := by omega
              have hi16z : (i : Int) + 16 ≤ (T.length : Int) := by omega
              have hcz : (T.length : Int) ≤ (tcap : Int) := by omega
              obtain ⟨q, hq, hdr⟩ := DR.out
              obtain ⟨q, rfl⟩ : ∃ q', q = q' + 1 := ⟨q - 1, by omega⟩
              have hdr2 : dgRun q (dgStep st ((T.drop i).take 16)) (T.drop (i + 16)) = digN l := by
                rw [← hdr]
                show _ = (if T.drop i = [] then st else _)
                rw [if_neg (fun e => by have := congrArg List.length e; rw [List.length_drop] at this; simp at this; omega), List.drop_drop]
              have HDR := Lib.hid hdr2
              have HQ := Lib.hid hq
              obtain ⟨P, hP⟩ : ∃ P, P = (T.drop i).take 16 := ⟨_, rfl⟩
              have HPL : Hid (P.length = 16) := Lib.hid (by rw [hP, List.length_take, List.length_drop]; omega)
              have HPB : Hid (BytesAt w6 tb i P) := Lib.hid (by
                have h1 := (HBT.out.drop i).take 16
                rw [Nat.zero_add, ← hP] at h1
                exact h1)
              rw [← hP] at HDR
              obtain ⟨sb, scap, hsv, -, -, hs3, hs4, -, -⟩ := Own.getk encU_len OP.out (fun e => by rw [e] at hst; simp at hst)
              subst hsv
              rw [hst] at hO8 hs3
              rw [hst]
              unfold maxLen at hs4
              clear hdr hdr2 hq BP OP DR hP
              go_wp2_with fail
              rw [show i + 16 - i = 16 by omega]
              go_loopg [8, 10, 53] 16 (fun gg s8 s10 s53 wr => ∃ j : Nat, j ≤ 16 ∧ 16 - j ≤ gg ∧ s53 = .int .i64 j ∧ Aside (Below w8.heap.size w8 wr) ∧ Aside (Own wr w8.heap.size 5 1 encU s8 ((P.take j).map (fun x => ~~~ x))))
              case atStart => exact ⟨0, by omega, by omega, rfl, (show Aside _ from Below.refl _ _), (show Aside _ from Own.nil)⟩
              case round =>
                obtain ⟨wp, rfl⟩ : ∃ wp : World, wp = wr := ⟨_, rfl⟩
                obtain ⟨j, hj, hgj, rfl, BP, OP⟩ := hrel
                have hsl : ((P.take j).map (fun x => ~~~ x)).length = j := by rw [List.length_map, List.length_take, HPL.out]; omega
                obtain ⟨ya, yc, rfl, hyc, hym⟩ := Own.slvL encU_len OP.out
                rw [hsl] at hyc OP ⊢
                by_cases hjl : j < 16
                · have hjz : (j : Int) < 16 := by omega
                  obtain ⟨x, hx⟩ : ∃ x, P[j]? = some x := ⟨P[j]'(by have := HPL.out; omega), by simp⟩
                  have hxc := HPB.out j x hx
                  have c0 := ((hB8.out.thru BP.out).cell (p := ⟨tb, i + j, none⟩) (World.block_lt_of_cell? w6 _ hxc)).trans hxc
                  have HSN : Hid ((P.take j).map (fun x => ~~~ x) ++ [~~~ x] = (P.take (j + 1)).map (fun x => ~~~ x)) := Lib.hid (by rw [take_next hx, List.map_append]; rfl)
                  obtain ⟨X, hX⟩ : ∃ X, X = x.toNat := ⟨_, rfl⟩
                  have hX8 : X < 256 := by rw [hX]; exact x.toNat_lt
                  have hcU : encU (~~~ x) = [Value.int .u8 (255 - (X : Int))] := by
                    unfold encU
                    rw [not_toNat, ← hX, show ((255 - X : Nat) : Int) = 255 - (X : Int) by omega]
                  rw [← hX] at c0
                  have HPB2 := Lib.hid BP.out.size
                  have HSL := Lib.hid hsl
                  clear hsl hx hxc hX
                  go_wp2_with (at_builtin; go_loud (refine wpList_push (l := (P.take j).map (fun x => ~~~ x)) rfl _ _ 58 rfl slU rfl rfl (~~~ x) hcU rfl rfl OP.out rfl (by rw [HSL.out]; omega) HPB2.out ?_; intro v7 w7 ho7 hb7; rw [HSN.out] at ho7; have HO7 := Lib.hid ho7; have HB7 := Lib.hid (BP.out.trans hb7); clear ho7 hb7))
                  go_roundg (16 - (j + 1))
                  case measure => omega
                  case rel => exact ⟨j + 1, by omega, by omega, by go_num, HB7.out, HO7.out⟩
                · obtain rfl : j = 16 := by omega
                  rw [List.take_of_length_le (by rw [HPL.out]; omega)] at OP hsl
                  have hqne : P.map (fun x => ~~~ x) ≠ [] := fun e => by rw [e] at hsl; simp at hsl
                  obtain ⟨qb, qcap, hqv, -, -, hq3, hq4, -, -⟩ := Own.getk encU_len (show Own _ _ _ _ _ _ (P.map (fun x => ~~~ x)) from OP.out) hqne
                  rw [hsl] at hqv hq3
                  rw [hqv] at OP ⊢
                  obtain ⟨Q, hQ⟩ : ∃ Q, Q = P.map (fun x => ~~~ x) := ⟨_, rfl⟩
                  have HQE := Lib.hid hQ
                  rw [← hQ] at hsl OP
                  have HQL := Lib.hid hsl
                  have HB9 := Lib.hid (hB8.out.thru BP.out)
                  have HS9 := Lib.hid (hO8.out.below BP.out (Nat.le_refl _))
                  have HQ9 := Lib.hid OP.out
                  have hs1 : (st.take 8).length = 8 := by rw [List.length_take]; omega
                  have hs2 : (st.drop 8).length = 8 := by rw [List.length_drop]; omega
                  have HL1 := Lib.hid hs1
                  have HL2 := Lib.hid hs2
                  unfold maxLen at hq4
                  clear OP BP hyc hym hsl hqne hqv hQ hs1 hs2
                  obtain ⟨w9, hw9⟩ : ∃ w9 : World, w9 = wp := ⟨_, rfl⟩
                  rw [← hw9] at HB9 HS9 HQ9 ⊢
                  clear hw9
                  go_upto_region 21 with (fail)
                  go_cut [11, 12] (fun s11 s12 wc => s11 = .slice (some ⟨sb, 0, none⟩) 8 scap ∧ s12 = .slice (some ⟨sb, 8, none⟩) 8 (scap - 8) ∧ ∃ q, wc = w9.drewN q)
                  case first =>
                    go_quiet (fail)
                    go_wp2
                    go_meet
                    exact ⟨rfl, rfl, _, rfl⟩
                  obtain ⟨rfl, rfl, q9, rfl⟩ := hcut
                  obtain ⟨wd, hwd⟩ : ∃ wd, wd = w9.drewN q9 := ⟨_, rfl⟩
                  have HBd : Hid (Below w9.heap.size w9 wd) := Lib.hid (by rw [hwd]; exact below_drewN (Below.refl _ w9) q9)
                  have HWB9 : Hid (Below w6.heap.size w6 wd) := Lib.hid (HB9.out.thru HBd.out)
                  have HPd := Lib.hid ((HPB.out.below HWB9.out).sl HPL.out (cap := tcap - i) (by omega) (by unfold maxLen; omega))
                  have HPy := Lib.hid (HPB.out.below HWB9.out)
                  have HSd := Lib.hid (HS9.out.below HBd.out (Nat.le_refl _)).bytes
                  have HQd := Lib.hid (HQ9.out.below HBd.out (Nat.le_refl _)).bytes
                  rw [← hwd]
                  clear hwd HB9 HS9 HQ9
                  obtain ⟨E1, hE1⟩ : ∃ E, E = encZ P (st.take 8) := ⟨_, rfl⟩
                  obtain ⟨E2, hE2⟩ : ∃ E, E = encZ Q (st.drop 8) := ⟨_, rfl⟩
                  obtain ⟨X1, hX1⟩ : ∃ E, E = xorB E1 (st.take 8) := ⟨_, rfl⟩
                  obtain ⟨X2, hX2⟩ : ∃ E, E = xorB E2 (st.drop 8) := ⟨_, rfl⟩
                  have HE1L : Hid (E1.length = 8) := Lib.hid (by rw [hE1]; exact encZ_len _ _)
                  have HE2L : Hid (E2.length = 8) := Lib.hid (by rw [hE2]; exact encZ_len _ _)
                  have HX1L : Hid (X1.length = 8) := Lib.hid (by rw [hX1]; exact xorB_len HE1L.out HL1.out)
                  have HX2L : Hid (X2.length = 8) := Lib.hid (by rw [hX2]; exact xorB_len HE2L.out HL2.out)
                  have HST : Hid (dgStep st P = X1 ++ X2) := Lib.hid (by rw [hX1, hX2, hE1, hE2, HQE.out]; rfl)
                  have HC1 := Lib.hid (encrypted_any wd tb i (tcap - i) sb 0 scap P (st.take 8) HPy.out HPL.out (by omega) (by unfold maxLen; omega) (HSd.out.take 8) HL1.out (by omega) (by unfold maxLen; omega))
                  rw [← hE1] at HC1
                  have HD8 : ∀ {W : World}, BytesAt W sb 0 st → BytesAt W sb 8 (st.drop 8) := fun h => by have := h.drop 8; rw [Nat.zero_add] at this; exact this
                  have HC2 := Lib.hid (fun (W : World) (hb : Below wd.heap.size wd W) => encrypted_any W qb 0 qcap sb 8 (scap - 8) Q (st.drop 8) (HQd.out.below hb) HQL.out (by omega) (by unfold maxLen; omega) (HD8 (HSd.out.below hb)) HL2.out (by omega) (by unfold maxLen; omega))
                  rw [← hE2] at HC2
                  have HY1 := Lib.hid (fun (W : World) (hb : Below wd.heap.size wd W) g cap (h : BytesAt W g 0 E1) => xored_any W g 0 cap sb 0 scap E1 (st.take 8) h HE1L.out ((HSd.out.below hb).take 8) HL1.out)
                  have HY2 := Lib.hid (fun (W : World) (hb : Below wd.heap.size wd W) g cap (h : BytesAt W g 0 E2) => xored_any W g 0 cap sb 8 (scap - 8) E2 (st.drop 8) h HE2L.out (HD8 (HSd.out.below hb)) HL2.out)
                  rw [← hX1] at HY1
                  rw [← hX2] at HY2
                  clear hE1 hE2 hX1 hX2 HD8
                  unfold OwnRet at HC1 HC2
                  unfold UPost at HY1 HY2
                  rw [HX1L.out] at HY1
                  rw [HX2L.out] at HY2
                  go_wp2_with fail
                  refine HC1.out.mono ?_
                  rintro e w10 ⟨va, rfl, ho10, hb10⟩
                  obtain ⟨ga, ca, rfl, -, -, -, -, -, -⟩ := Own.getk encU_len ho10 (fun e => by have := HE1L.out; rw [e] at this; simp at this)
                  rw [HE1L.out] at ho10 ⊢
                  have HB10 := Lib.hid hb10
                  have HY1a := Lib.hid (HY1.out _ hb10 ga ca ho10.bytes)
                  clear ho10 hb10
                  go_wp2_with fail
                  refine HY1a.out.mono ?_
                  rintro e w11 ⟨Sa, hSa, rfl, hk11, hb11⟩
                  have HB11 := Lib.hid (HB10.out.thru hb11)
                  have hsz10 := HB10.out.size
                  have HO11 := Lib.hid (hk11.own (base := wd.heap.size) (by omega) HX1L.out (by rw [HX1L.out]; omega))
                  have HC2a := Lib.hid (HC2.out _ HB11.out)
                  clear hSa hk11 hb11 hsz10
                  go_wp2_with fail
                  refine HC2a.out.mono ?_
                  rintro e w12 ⟨vb, rfl, ho12, hb12⟩
                  obtain ⟨gb, cb, rfl, -, -, -, -, -, -⟩ := Own.getk encU_len ho12 (fun e => by have := HE2L.out; rw [e] at this; simp at this)
                  rw [HE2L.out] at ho12 ⊢
                  have HB12 := Lib.hid (HB11.out.thru hb12)
                  have HO12 := Lib.hid (HO11.out.below hb12 (Nat.le_refl _))
                  have HY2a := Lib.hid (HY2.out _ HB12.out gb cb ho12.bytes)
                  clear ho12 hb12
                  go_wp2_with fail
                  refine HY2a.out.mono ?_
                  rintro e w13 ⟨Sb, hSb, rfl, hk13, hb13⟩
                  have HB13 := Lib.hid (HB12.out.thru hb13)
                  have HO13 := Lib.hid (HO12.out.below hb13 (Nat.le_refl _))
                  have HS13 := Lib.hid (hk13.bytes.sl HX2L.out (Nat.le_refl _) (by unfold maxLen; omega))
                  have hn13 : (X1.length + X2.length) * 1 ≤ 140737488355328 := by rw [HX1L.out, HX2L.out]; omega
                  clear hSb hk13 hb13
                  go_wp2_with (at_builtin; go_loud (refine wpList_extend (v := .slice (some ⟨Sa, 0, none⟩) 8 8) (u := .slice (some ⟨Sb, 0, none⟩) 8 8) (l := X1) (m := X2) rfl _ _ 58 rfl slU encU_len (fun _ => rfl) rfl rfl HO13.out HS13.out hn13 HB13.out.size ?_; intro v14 w14 ho14 hb14; have HO14 := Lib.hid ho14; have HB14 := Lib.hid (HB13.out.trans hb14); clear ho14 hb14))
                  have hszd := HWB9.out.size
                  go_roundg (T.length - (i + 16))
                  case measure => omega
                  case rel => exact ⟨i + 16, dgStep st P, by omega, by omega, by omega, by go_num, (by rw [HST.out, List.length_append, HX1L.out, HX2L.out]), (show Aside _ from HWB9.out.thru HB14.out), (show Aside _ from by rw [HST.out]; exact HO14.out.rebase hszd), (show Aside _ from ⟨q, by have := HQ.out; omega, HDR.out⟩)⟩
            · obtain rfl : i = T.length := by omega
              have hdr : Hid (st = digN l) := Lib.hid (by
                obtain ⟨q, hq, h⟩ := DR.out
                rw [← h]
                obtain ⟨q, rfl⟩ : ∃ q', q = q' + 1 := ⟨q - 1, by omega⟩
                rw [List.drop_length]
                rfl)
              have hsz := HB6.out.size
              clear DR
              go_wp2_with fail
              go_ret
              exact ⟨_, rfl, by rw [← hdr.out]; exact hO8.out.rebase hsz, HB6.out.thru hB8.out⟩
    · have hr8 : ((r : Int) != 0) = true := by rw [bne_iff_ne]; omega
      obtain ⟨q, hq, hpad⟩ := PW.out
      obtain ⟨q, rfl⟩ : ∃ q', q = q' + 1 := ⟨q - 1, by omega⟩
      rw [padZ_go (by omega)] at hpad
      have HP := Lib.hid hpad
      have HR := Lib.hid hr
      have hbd : (t.length + 1) * 1 ≤ 140737488355328 := by omega
      clear hpad PW hr
      go_wp2_with (at_builtin; go_loud (refine wpList_push (l := t) rfl _ _ 58 rfl slU rfl rfl (0 : UInt8) rfl rfl rfl OW.out rfl hbd BW.out.size ?_; intro v5 w5 ho5 hb5; have HO5 := Lib.hid ho5; have HB5 := Lib.hid (BW.out.trans hb5); clear ho5 hb5))
      go_roundg ((24 - (t.length + 1) % 16) % 16)
      case measure => have := HR.out; omega
      case rel => exact ⟨t ++ [0], by simp, by simp; omega, by rw [List.length_append, List.length_singleton]; have := HR.out; omega, HB5.out, HO5.out, (show Aside _ from ⟨q, by rw [List.length_append, List.length_singleton]; have := HR.out; omega, HP.out⟩)⟩
end Go.Proofs.YteepbfpcdhdgfaaDoor

/- weight of the reference. -/
namespace Go.Proofs.YteepbfpcdhdgfaaDoor
open Go.RowKit

set_option maxRecDepth 100000 in
set_option maxHeartbeats 4000000 in
theorem weightR_any (w : World) (a k : ByteArray) (ha : a.size ≤ 40) (hk : k.size ≤ 300) :
    Calls Tryd.prog 42 #[.string a, .string k] w fun e w' => e = .returned (.int .u64 (wgtK a k : Nat)) ∧ Below w.heap.size w w' := by
  have h1 : ¬ 9223372036854775807 < a.size + 1 := by omega
  have h2 : ¬ 9223372036854775807 < a.size + 1 + k.size := by omega
  have hcv := Lib.run_convert_string_bytes (P := Tryd.prog) w 9 58 5 (a ++ { data := #[0] } ++ k) Tryd.underlying9 Tryd.underlying58 Tryd.underlying5
  obtain ⟨X, hX⟩ : ∃ X, X = a ++ ({ data := #[0] } : ByteArray) ++ k := ⟨_, rfl⟩
  rw [← hX] at hcv
  have hxs : X.size ≤ 341 := by
    have hd : ({ data := #[0] } : ByteArray).size = 1 := rfl
    rw [hX]
    simp
    omega
  obtain ⟨w1, hw1⟩ : ∃ w1, w1 = Lib.bytesWorld w 5 X := ⟨_, rfl⟩
  obtain ⟨C, hC⟩ : ∃ C, C = grownCap w X.size 0 5 := ⟨_, rfl⟩
  have HB1 : Hid (Below w.heap.size w w1) := Lib.hid (by rw [hw1]; exact Joins.below_bytesWorld _ w _ X (Nat.le_refl _))
  have hbt : BytesAt w1 w.heap.size 0 X.data.toList := fun i x hx => by
    have hi := (List.getElem?_eq_some_iff.1 hx).1
    have h := Lib.bytesWorld_cell w 5 X i (by rw [Array.length_toList] at hi; exact hi)
    rw [hw1, Nat.zero_add, h, List.getD_eq_getElem?_getD, hx]
    rfl
  have hsl := hbt.sl (n := X.size) (cap := C) (by rw [Array.length_toList]; rfl) (by rw [hC]; exact grownCap_ge _ _ _ _) (by rw [hC]; exact grownCap_le_maxLen _ _ _ _ (by unfold maxLen; omega))
  have HDG := Lib.hid (digestR_any w1 X.data.toList _ hsl (by rw [Array.length_toList]; show X.size ≤ 1000; omega))
  rw [← hw1, ← hC, hX] at hcv
  rw [← hX] at hcv
  have hcv2 : (convert 9 58 (.string (a ++ { data := #[0] } ++ k))).run Tryd.prog w = .ok (.slice (some ⟨w.heap.size, 0, none⟩) X.size C) w1 := by rw [← hX]; exact hcv
  clear hcv
  have HV : Hid (wgtK a k = wgtN ((digN X.data.toList).take 8) 0) := Lib.hid (by rw [hX]; rfl)
  have HZ := Lib.hid (digN_len X.data.toList)
  have HX := Lib.hid hX
  unfold OwnRet at HDG
  generalize digN X.data.toList = z at HDG HV HZ
  clear hX hbt hsl hw1 hC
  go_enter Tryd.func42, Tryd.ntmps42
  go_wp2_with fail
  refine HDG.out.mono ?_
  rintro e w2 ⟨v2, rfl, ho2, hb2⟩
  obtain ⟨S, scap, rfl, -, -, hs3, hs4, -, -⟩ := Own.getk encU_len ho2 (fun e => by have := HZ.out; rw [e] at this; simp at this)
  rw [HZ.out] at ho2 hs3 ⊢
  have HB2 := Lib.hid (HB1.out.thru hb2)
  have HK2 := Lib.hid ho2.bytes
  unfold maxLen at hs4
  clear ho2 hb2 hcv2
  go_wp2_with fail
  go_loopg [5, 16] 8 (fun gg s5 s16 wr => ∃ i : Nat, i ≤ 8 ∧ 8 - i ≤ gg ∧ s16 = .int .i64 i ∧ s5 = .int .u64 (wgtN (z.take i) 0 : Nat) ∧ wr = w2)
  case atStart => exact ⟨0, by omega, by omega, rfl, rfl, rfl⟩
  case round =>
    obtain ⟨i, hi, hgi, rfl, rfl, hwr⟩ := hrel
    subst hwr
    by_cases hil : i < 8
    · have hiz : (i : Int) < 8 := by omega
      have hzl := HZ.out
      obtain ⟨x, hx⟩ : ∃ x, z[i]? = some x := ⟨z[i]'(by omega), by simp⟩
      have hc := HK2.out i x hx
      rw [Nat.zero_add] at hc
      have hlt := wgtN_lt (z.take i) 0 0 (by decide)
      rw [List.length_take, Nat.min_eq_left (by omega), Nat.zero_add] at hlt
      have hpw : 256 ^ i ≤ 256 ^ 7 := Nat.pow_le_pow_right (by decide) (by omega)
      have h256 : (256 : Nat) ^ 7 = 72057594037927936 := by decide
      have HNX : Hid (wgtN (z.take (i + 1)) 0 = wgtN (z.take i) 0 * 256 + x.toNat) := Lib.hid (by rw [take_next hx, wgtN_snoc])
      obtain ⟨m, hm⟩ : ∃ m, m = wgtN (z.take i) 0 := ⟨_, rfl⟩
      obtain ⟨y, hy⟩ : ∃ y, y = x.toNat := ⟨_, rfl⟩
      have hy8 : y < 256 := by rw [hy]; exact x.toNat_lt
      rw [← hy] at hc HNX
      rw [← hm] at hlt HNX ⊢
      have hm56 : m < 72057594037927936 := by omega
      obtain ⟨r, hr⟩ : ∃ r, r = m * 256 + y := ⟨_, rfl⟩
      have e1 : (m : Int) * 256 + (y : Int) = (r : Int) := by omega
      have hr64 : (r : Int) < 18446744073709551616 := by omega
      have HR := Lib.hid hr
      clear hlt hpw h256 hx hm hy hr hzl
      go_wp2
      go_roundg (8 - (i + 1))
      case measure => omega
      case rel => exact ⟨i + 1, by omega, by omega, by go_num, by rw [HNX.out, ← HR.out, ← e1], rfl⟩
    · obtain rfl : i = 8 := by omega
      go_wp2
      go_ret
      exact ⟨ret_u (by rw [HV.out]; rfl), HB2.out⟩
end Go.Proofs.YteepbfpcdhdgfaaDoor

/- Contracts of the library, laid by the shelf at this seat. -/
namespace Go.Proofs
open Go.Shelf
def Tryd.lays109_ren : Go.Shelf.Ren := ⟨fun | 109 => 50 | n => n, fun | 31 => 22 | 9 => 9 | 3 => 3 | 0 => 0 | 4 => 4 | n => n, fun | n => n⟩
theorem Tryd.lays109 : Go.Proofs.Lays.n109 Tryd.prog Tryd.lays109_ren := {
  mixed := by kernel_rfl
  f109 := Tryd.func50.trans (congrArg some (by kernel_rfl))
  t0 := Tryd.underlying0
  a0 := Tryd.isAgg0
  z0 := Tryd.sizeOf0
  v0 := Tryd.zeroValue0
  t3 := Tryd.underlying3
  a3 := Tryd.isAgg3
  z3 := Tryd.sizeOf3
  v3 := Tryd.zeroValue3
  t4 := Tryd.underlying4
  a4 := Tryd.isAgg4
  z4 := Tryd.sizeOf4
  v4 := Tryd.zeroValue4
  t9 := Tryd.underlying9
  a9 := Tryd.isAgg9
  z9 := Tryd.sizeOf9
  v9 := Tryd.zeroValue9
  t31 := Tryd.underlying22
  a31 := Tryd.isAgg22
  z31 := Tryd.sizeOf22
  v31 := Tryd.zeroValue22 }
def Tryd.lays22_ren : Go.Shelf.Ren := ⟨fun | 22 => 43 | 29 => 58 | 30 => 59 | 36 => 77 | 17 => 93 | n => n, fun | 24 => 22 | 9 => 9 | 3 => 3 | 4 => 4 | 0 => 0 | n => n, fun | n => n⟩
theorem Tryd.lays22 : Go.Proofs.Lays2.n22 Tryd.prog Tryd.lays22_ren := {
  mixed := by kernel_rfl
  f17 := Tryd.func93.trans (congrArg some (by kernel_rfl))
  f22 := Tryd.func43.trans (congrArg some (by kernel_rfl))
  f29 := Tryd.func58.trans (congrArg some (by kernel_rfl))
  f30 := Tryd.func59.trans (congrArg some (by kernel_rfl))
  f36 := Tryd.func77.trans (congrArg some (by kernel_rfl))
  t0 := Tryd.underlying0
  a0 := Tryd.isAgg0
  z0 := Tryd.sizeOf0
  v0 := Tryd.zeroValue0
  t3 := Tryd.underlying3
  a3 := Tryd.isAgg3
  z3 := Tryd.sizeOf3
  v3 := Tryd.zeroValue3
  t4 := Tryd.underlying4
  a4 := Tryd.isAgg4
  z4 := Tryd.sizeOf4
  v4 := Tryd.zeroValue4
  t9 := Tryd.underlying9
  a9 := Tryd.isAgg9
  z9 := Tryd.sizeOf9
  v9 := Tryd.zeroValue9
  t24 := Tryd.underlying22
  a24 := Tryd.isAgg22
  z24 := Tryd.sizeOf22
  v24 := Tryd.zeroValue22
  i9 := by kernel_rfl }
def Tryd.lays24_ren : Go.Shelf.Ren := ⟨fun | 24 => 9 | n => n, fun | 24 => 22 | 9 => 9 | 3 => 3 | 4 => 4 | 0 => 0 | n => n, fun | n => n⟩
theorem Tryd.lays24 : Go.Proofs.Lays2.n24 Tryd.prog Tryd.lays24_ren := {
  mixed := by kernel_rfl
  f24 := Tryd.func9.trans (congrArg some (by kernel_rfl))
  t0 := Tryd.underlying0
  a0 := Tryd.isAgg0
  z0 := Tryd.sizeOf0
  v0 := Tryd.zeroValue0
  t3 := Tryd.underlying3
  a3 := Tryd.isAgg3
  z3 := Tryd.sizeOf3
  v3 := Tryd.zeroValue3
  t4 := Tryd.underlying4
  a4 := Tryd.isAgg4
  z4 := Tryd.sizeOf4
  v4 := Tryd.zeroValue4
  t9 := Tryd.underlying9
  a9 := Tryd.isAgg9
  z9 := Tryd.sizeOf9
  v9 := Tryd.zeroValue9
  t24 := Tryd.underlying22
  a24 := Tryd.isAgg22
  z24 := Tryd.sizeOf22
  v24 := Tryd.zeroValue22
  i9 := by kernel_rfl }
end Go.Proofs

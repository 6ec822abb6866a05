/- packed of the reference. -/
import Derived.Test.YtkcnnfgdplccoaaRFld
namespace Go.Proofs.Ytkcnnfgdplccoaa
open Go.RowKit

/-- j bits of byte i, as a number; what lacks is 1. -/
def accB (L : List Bool) (i : Nat) : Nat → Nat
  | 0 => 0
  | j + 1 => accB L i j * 2 + b01 (L.getD (8 * i + j) true)
theorem accB_lt (L : List Bool) (i : Nat) : ∀ j, accB L i j < 2 ^ j
  | 0 => by simp [accB]
  | j + 1 => by
    have h := accB_lt L i j
    have h2 := b01_lt (L.getD (8 * i + j) true)
    simp only [accB, Nat.pow_succ]
    omega
theorem accB_le (L : List Bool) (i j : Nat) (hj : j ≤ 8) : accB L i j < 256 :=
  Nat.lt_of_lt_of_le (accB_lt L i j) (by have := Nat.pow_le_pow_right (n := 2) (by omega) hj; simpa using this)
theorem accB_8 (L : List Bool) (i : Nat) : accB L i 8 = byD true L i := by
  simp only [accB, byD, Nat.add_zero]
  omega
theorem pkD_take {d : Bool} {L : List Bool} {i : Nat} (h : i < (L.length + 7) / 8) : (pkD d L).take (i + 1) = (pkD d L).take i ++ [UInt8.ofNat (byD d L i)] := take_next (pkD_get h)

set_option maxRecDepth 100000 in
set_option maxHeartbeats 2000000 in
theorem packedR_any (w : World) (L : List Bool) (v : Value) (hl : Sl w 1 encT v L) (hL : L.length ≤ 1000) :
    Calls Try.prog 30 #[v] w (OwnRet w 5 1 encU (pkD true L)) := by
  obtain ⟨ao, cap, rfl, hcap, hmax, hnil, hel⟩ := hl
  unfold maxLen at hmax
  have HEL := Lib.hid hel
  have HB0 := Lib.hid (Below.refl w.heap.size w)
  have hpl := pkD_len true L
  have HPT := Lib.hid (fun i (h : i < (L.length + 7) / 8) => pkD_take (d := true) h)
  have HPA : Hid ((pkD true L).take ((L.length + 7) / 8) = pkD true L) := Lib.hid (List.take_of_length_le (by omega))
  generalize pkD true L = R at hpl HPT HPA ⊢
  clear hel hnil
  go_enter Try.func30, Try.ntmps30
  go_wp2
  go_loopg [3, 4] ((L.length + 7) / 8) (fun gg s3 s4 wr => ∃ (i p : Nat), i ≤ (L.length + 7) / 8 ∧ (L.length + 7) / 8 - i ≤ gg ∧ s4 = .int .i64 p ∧ Aside (p = 8 * i) ∧ p ≤ 1008 ∧ Aside (Own wr w.heap.size 5 1 encU s3 (R.take i)) ∧ Aside (Below w.heap.size w wr))
  case atStart => exact ⟨0, 0, Nat.zero_le _, by omega, rfl, (show _ = _ from rfl), by omega, (show Own _ _ _ _ _ _ (R.take 0) from Own.nil), HB0.out⟩
  obtain ⟨i, p, hi, hg, rfl, hp, hp1, OW, BW⟩ := hrel
  have HOW := Lib.hid OW.out
  have HBW := Lib.hid BW.out
  have HP := Lib.hid hp.out
  have hszw := BW.out.size
  clear OW BW hp
  by_cases hlt : p < L.length
  · have hltz : (p : Int) < (L.length : Int) := by omega
    have hiN : i < (L.length + 7) / 8 := by have := HP.out; omega
    have HNX := Lib.hid (HPT.out i hiN)
    have HA8 := Lib.hid (accB_8 L i)
    have HAL := Lib.hid (accB_le L i)
    go_wp2
    go_loopg [5, 6] 8 (fun gg s5 s6 wq => ∃ (m j k : Nat), j ≤ 8 ∧ 8 - j ≤ gg ∧ s6 = .int .i64 k ∧ Aside (k = p + j) ∧ k ≤ p + 8 ∧ s5 = .int .i64 m ∧ Aside (m = accB L i j) ∧ m < 256 ∧ wr = wq)
    case atStart => exact ⟨0, 0, p, by omega, by omega, rfl, (show _ = _ by omega), by omega, rfl, (show Aside _ from rfl), by omega, rfl⟩
    obtain ⟨m, j, k, hj, hgj, rfl, hk, hk1, rfl, M, hm1, rfl⟩ := hrel
    have HM := Lib.hid M.out
    have HK := Lib.hid hk.out
    clear M hk
    by_cases hlj : j < 8
    · have hkz : (k : Int) < (p : Int) + 8 := by have := HK.out; omega
      have HST : Hid (accB L i (j + 1) = m * 2 + b01 (L.getD k true)) := Lib.hid (by rw [HM.out, HK.out, HP.out]; rfl)
      have hml := HAL.out (j + 1) (by omega)
      have hbl := b01_lt (L.getD k true)
      rw [HST.out] at hml
      by_cases hkl : k < L.length
      · have hklz : (k : Int) < (L.length : Int) := by omega
        obtain ⟨x, hx⟩ : ∃ x, L[k]? = some x := ⟨L[k], by simp [hkl]⟩
        obtain ⟨b, off, hao, hc⟩ := HEL.out k x hx
        subst hao
        have hblt : b < w.heap.size := World.block_lt_of_cell? w ⟨b, off + k * 1 + 0, none⟩ (hc 0 _ rfl)
        have c0 : wr.cell? ⟨b, off + k, none⟩ = some (.int .i64 (b01 x : Nat)) := by simpa using (HBW.out.cell (p := ⟨b, off + k * 1 + 0, none⟩) hblt).trans (hc 0 _ rfl)
        have hbw : b < wr.heap.size := by omega
        rw [getD_of hx] at HST hml hbl
        generalize b01 x = t at c0 HST hml hbl
        clear hx hc
        go_wp2
        go_roundg (8 - (j + 1))
        case measure => omega
        case rel => exact ⟨m * 2 + t, j + 1, k + 1, by omega, by omega, by go_num, (show _ = _ by have := HK.out; omega), by have := HK.out; omega, by go_num, (show _ = _ from HST.out.symm), hml, rfl⟩
      · rw [getD_out (by omega)] at HST hml hbl
        go_wp2
        go_roundg (8 - (j + 1))
        case measure => omega
        case rel => exact ⟨m * 2 + 1, j + 1, k + 1, by omega, by omega, by go_num, (show _ = _ by have := HK.out; omega), by have := HK.out; omega, by go_num, (show _ = _ from HST.out.symm), hml, rfl⟩
    · obtain rfl : j = 8 := by omega
      have hkz : ¬ (k : Int) < (p : Int) + 8 := by have := HK.out; omega
      have hwu : IntKind.u8.wrap (m : Int) = (m : Int) := by rw [IntKind.wrap_u8']; omega
      have HC : Hid (encU (UInt8.ofNat m) = [.int .u8 (m : Int)]) := Lib.hid (by simp [encU, UInt8.toNat_ofNat']; omega)
      have HNX2 : Hid (R.take (i + 1) = R.take i ++ [UInt8.ofNat m]) := Lib.hid (by rw [HNX.out, ← HA8.out, ← HM.out])
      have hnl : ((R.take i).length + 1) * 1 ≤ 140737488355328 := by simp; omega
      have HNL := Lib.hid hnl
      clear hnl
      go_wp2_with (at_builtin; refine wpList_push rfl _ _ 22 rfl slU rfl rfl (UInt8.ofNat m) HC.out rfl rfl HOW.out rfl HNL.out hszw ?_; intro v8 w8 ho8 hb8; have HO8 := Lib.hid ho8; have HB8 := Lib.hid (HBW.out.trans hb8); clear ho8 hb8)
      go_roundg ((L.length + 7) / 8 - (i + 1))
      case measure => omega
      case rel => exact ⟨i + 1, p + 8, by omega, by omega, by go_num, (show _ = _ by have := HP.out; omega), by omega, (show Own _ _ _ _ _ _ _ by rw [HNX2.out]; exact HO8.out), HB8.out⟩
  · have hiN : i = (L.length + 7) / 8 := by have := HP.out; omega
    have HV : Hid (R.take i = R) := Lib.hid (by rw [hiN]; exact HPA.out)
    clear hiN
    go_wp2
    go_ret
    exact OwnRet.mk (by have := HOW.out; rw [HV.out] at this; exact this) HBW.out
end Go.Proofs.Ytkcnnfgdplccoaa

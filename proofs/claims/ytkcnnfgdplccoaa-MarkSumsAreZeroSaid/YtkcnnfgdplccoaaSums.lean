/- MarkSumsAreZero: bytes with their sum behind them have the sum 0. -/
import Derived.Test.YtkcnnfgdplccoaaCrc
import Derived.Test.YtkcnnfgdplccoaaApp
namespace Go.Proofs.Ytkcnnfgdplccoaa
open Go.RowKit

theorem infoU : (Try.prog.info? 5).map (fun i => (i.zero, i.size, i.bytes)) = some (some (.int .u8 0), 1, 1) := by kernel_rfl
theorem slU : SlT Try.prog 22 5 1 1 := by
  obtain ⟨i0, hi, hz0, hz1, hz2⟩ := info_parts infoU
  exact ⟨i0, _, Try.underlying22, hi, hz0, hz1, hz2, rfl, by decide, by decide⟩

theorem clone_any (w : World) (l : List UInt8) (v : Value) (hl : Sl w 1 encU v l) (hb : l.length ≤ 140737488355328) :
    Calls Try.prog 8 #[v] w (OwnRet w 5 1 encU l) := by
  have hl0 := Lib.hid hl
  obtain ⟨ao, cap, rfl, hcap, hmax, hnil, hel⟩ := hl
  unfold maxLen at hmax
  have hn := fun w => Lib.run_eql_slice_nil (P := Try.prog) w 22 5 ao l.length cap 0 0 Try.underlying22
  cases ao with
  | none =>
    obtain rfl : cap = 0 := hnil rfl
    obtain rfl : l = [] := List.length_eq_zero_iff.1 (by omega)
    clear hel hnil hn
    have hn := fun w => Lib.run_eql_slice_nil (P := Try.prog) w 22 5 none 0 0 0 0 Try.underlying22
    go_enter Try.func8, Try.ntmps8
    go_wp2
    go_ret
    exact OwnRet.mk Own.nil (Below.refl _ _)
  | some ad =>
    clear hel hnil
    have ho := Lib.hid (show Own (w.alloc (.cells #[] 5)) w.heap.size 5 1 encU (.slice (some ⟨w.heap.size, 0, none⟩) 0 0) [] from World.ownsRow_lit w #[] 0 (Nat.le_refl _) (by simp [maxLen]) rfl)
    go_enter Try.func8, Try.ntmps8
    go_wp2_with (at_builtin; refine wpList_extend rfl _ _ 22 rfl slU encU_len (fun _ => rfl) rfl rfl ho.out (hl0.out.below ((Below.refl _ _).alloc (Nat.le_refl _) _) (Nat.le_refl _)) (by simpa using hb) (by simp) ?_; intro v' w1 ho1 hb1; have HO := Lib.hid ho1; have HB := Lib.hid hb1; clear ho1 hb1)
    go_ret
    exact OwnRet.mk (by simpa using HO.out) (((Below.refl _ _).alloc (Nat.le_refl _) _).trans HB.out)

set_option maxHeartbeats 1000000 in
theorem sums_any (w : World) (l : List UInt8) (v : Value) (hl : Sl w 1 encU v l) (hb : l.length ≤ 140737488351232) :
    Calls Try.prog 3 #[v] w fun e w' => e = .returned (.bool true) ∧ Below w.heap.size w w' := by
  have h1 := sum_any w l v hl
  have h2 := clone_any w l v hl (by omega)
  have hlt := crc_lt l
  have hz := crc_sum l
  have H3 := fun (w1 : World) (v1 : Value) (h : Sl w1 1 encU v1 (l ++ sumBytes (crc l))) => sum_any w1 _ v1 h
  rw [hz] at H3
  have hC : Hid ((sumBytes (crc l)).flatMap encU = [.int .u8 ((crc l : Nat) / 16777216 : Int), .int .u8 ((crc l : Nat) / 65536 % 256 : Int), .int .u8 ((crc l : Nat) / 256 % 256 : Int), .int .u8 ((crc l : Nat) % 256 : Int)]) := Lib.hid (by
    simp [sumBytes, encU, UInt8.toNat_ofNat']
    omega)
  clear hl hz
  generalize hc : crc l = c at *
  clear hc
  have H3' := Lib.hid H3
  clear H3
  go_enter Try.func3, Try.ntmps3
  go_wp2_with (first | (go_at_call_of 7 v; refine h1.mono ?_; rintro e w' ⟨rfl, rfl⟩) | (go_at_call 7; refine (H3'.out w2 v2 (HO2.out.sl encU_len)).mono ?_; rintro e w' ⟨rfl, rfl⟩) | (go_at_call 8; refine h2.mono ?_; rintro e w1 ⟨v1, rfl, ho1, hb1⟩; have HO := Lib.hid ho1; clear ho1) | (at_builtin; refine wpList_pushes (m := 4) rfl _ _ 22 rfl slU encU_len (fun _ => rfl) rfl rfl (sumBytes c) hC.out rfl HO.out rfl (by omega) hb1.size ?_; intro v2 w2 ho2 hb2; have HO2 := Lib.hid ho2; have HB2 := Lib.hid (hb1.trans hb2); clear ho2 hb2) | (go_at_call 9; refine (awake_any _).mono ?_; rintro e w6 ⟨rfl, hb6⟩))
  go_ret
  exact ⟨rfl, HB2.out.thru hb6⟩
end Go.Proofs.Ytkcnnfgdplccoaa

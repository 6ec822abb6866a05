/- decoded, of a string without %. -/
import Derived.Test.YtmgbmoiefgfemaaDoorReq
import Derived.Test.YtmgbmoiefgfemaaDoorApp
import Derived.Laws.BytesArg
namespace Go.Proofs.YtmgbmoiefgfemaaDoor
open Go.RowKit

def encB (n : Int) : List Value := [.int .u8 n]
theorem encB_len (n : Int) : (encB n).length = 1 := rfl
theorem infoB : (Tryd.prog.info? 5).map (fun i => (i.zero, i.size, i.bytes)) = some (some (.int .u8 0), 1, 1) := by kernel_rfl
theorem slB : SlT Tryd.prog 103 5 1 1 := by
  obtain ⟨i0, hi, hz0, hz1, hz2⟩ := info_parts infoB
  exact ⟨i0, _, Tryd.underlying103, hi, hz0, hz1, hz2, rfl, by decide, by decide⟩
/-- The first n bytes of a string. -/
def bytL (s : ByteArray) (n : Nat) : List Int := (List.range n).map fun i => chr s i
theorem bytL_len (s : ByteArray) (n : Nat) : (bytL s n).length = n := by simp [bytL]
theorem bytL_next (s : ByteArray) (n : Nat) : bytL s n ++ [chr s n] = bytL s (n + 1) := by simp [bytL, List.range_succ]
theorem bytL_get {s : ByteArray} {n i : Nat} (h : i < n) : (bytL s n)[i]? = some (chr s i) := by
  unfold bytL
  rw [List.getElem?_map, List.getElem?_range h]
  rfl
theorem bytL_all (s : ByteArray) : strOfNums (bytL s s.size) = s := by
  have e : (bytL s s.size).map (fun n => UInt8.ofNat n.toNat) = s.data.toList := by
    apply List.ext_getElem?
    intro i
    by_cases hi : i < s.size
    · have hl : i < s.data.toList.length := hi
      rw [List.getElem?_map, bytL_get hi, List.getElem?_eq_getElem hl, ← chr_of hi]
      show some (UInt8.ofNat ((s[i]'hi).toNat : Int).toNat) = _
      rw [Int.toNat_natCast, UInt8.ofNat_toNat]
      rfl
    · have hl : ¬ i < s.data.toList.length := hi
      rw [List.getElem?_eq_none (by rw [List.length_map, bytL_len]; omega), List.getElem?_eq_none (by omega)]
  unfold strOfNums
  rw [e]

theorem conv_own (w : World) (l : List Int) (v : Value) (hl : Sl w 1 encB v l) : (convert 103 9 v).run Tryd.prog w = .ok (.string (strOfNums l)) w := by
  obtain ⟨ao, cap, rfl, _, _, hnil, hel⟩ := hl
  cases ao with
  | none =>
    have := hnil rfl
    obtain rfl : l = [] := List.length_eq_zero_iff.1 (by omega)
    exact run_convert_bytes_nil (P := Tryd.prog) w 103 5 Tryd.underlying103 Tryd.underlying5 0 cap 9 Tryd.underlying9
  | some ad =>
    obtain ⟨b, off, spot⟩ := ad
    by_cases he : l = []
    · subst he
      have h0 : (loadCells ⟨b, off, spot⟩ 0).run Tryd.prog w = .ok (([] : List Int).map (Value.int .u8)).toArray w := by
        have := run_loadCells_list (P := Tryd.prog) w ⟨b, off, spot⟩ [] (fun j v hj => by simp at hj)
        simpa using this
      exact (run_convert_bytes_string w 103 9 5 _ _ cap Tryd.underlying103 Tryd.underlying5 Tryd.underlying9).trans (run_bytesToString w _ 0 cap [] h0)
    have hsp : spot = none := by
      obtain ⟨b', off', e, _⟩ := hel 0 (l[0]'(List.length_pos_iff.2 he)) (by simp)
      simp only [Option.some.injEq, Addr.mk.injEq] at e
      exact e.2.2
    subst hsp
    refine run_convert_bytes_arg (P := Tryd.prog) w 103 5 Tryd.underlying103 Tryd.underlying5 b off l.length cap l rfl (fun i hi => ?_) 9 Tryd.underlying9
    obtain ⟨b', off', e, hc⟩ := hel i l[i] (by simp)
    simp only [Option.some.injEq, Addr.mk.injEq, and_true] at e
    obtain ⟨rfl, rfl⟩ := e
    have := hc 0 _ rfl
    simp only [Nat.mul_one, Nat.add_zero] at this
    rw [this]
    simp [List.getD_eq_getElem?_getD, hi]

set_option maxHeartbeats 1000000 in
theorem decoded0_any (s : ByteArray) (w : World) (hs : s.size ≤ 300) (h37 : ∀ i, i < s.size → ¬ chr s i = 37) :
    Calls Tryd.prog 51 #[.string s] w fun e w' => e = .returned (.tuple #[.string s, .bool true]) ∧ Below w.heap.size w w' := by
  have H37 := Lib.hid h37
  have HS := Lib.hid hs
  have hs' : s.size ≤ 9223372036854775807 := by omega
  have hs1 : (s.size : Int) ≤ 300 := by omega
  clear h37 hs
  go_enter Tryd.func51, Tryd.ntmps51
  go_wp2
  go_loopg [4, 5] s.size (fun gg s4 s5 wr => ∃ kk : Nat, kk ≤ s.size ∧ s.size - kk ≤ gg ∧ s5 = .int .i64 kk ∧ Aside (Own wr w.heap.size 5 1 encB s4 (bytL s kk)) ∧ Aside (Below w.heap.size w wr))
  case atStart => exact ⟨0, Nat.zero_le _, by omega, by go_num, Own.nil, Below.refl _ w⟩
  case round =>
    obtain ⟨kk, hkk, hg, rfl, OW, BW⟩ := hrel
    have HOW := Lib.hid OW.out
    have HBW := Lib.hid BW.out
    by_cases hlt : kk < s.size
    · have hltz : (kk : Int) < (s.size : Int) := by omega
      have hc := chr_of hlt
      have hn := H37.out kk hlt
      have HT := Lib.hid (bytL_next s kk)
      have hcnt : Hid (((bytL s kk).length + 1) * 1 ≤ 140737488355328) := Lib.hid (by rw [bytL_len]; have := HS.out; omega)
      have hszw := HBW.out.size
      obtain ⟨ao5, L5, cp5, rfl⟩ := Own.slv encB_len OW.out
      clear OW BW
      go_wp2_with (at_builtin; refine wpList_push rfl _ _ 103 rfl slB rfl rfl (chr s kk) rfl rfl rfl HOW.out rfl hcnt.out hszw ?_; intro v5 w5 ho5 hb5; obtain ⟨ao6, L6, cp6, rfl⟩ := Own.slv encB_len ho5; have HO5 := Lib.hid ho5; have HB5 := Lib.hid (HBW.out.trans hb5); clear ho5 hb5)
      go_roundg (s.size - (kk + 1))
      case measure => omega
      case rel => exact ⟨kk + 1, by omega, by omega, by go_num, (show Own _ _ _ _ _ _ _ by rw [← HT.out]; exact HO5.out), HB5.out⟩
    · obtain rfl : kk = s.size := by omega
      have hltz : ¬ (s.size : Int) < (s.size : Int) := by omega
      have hcv := conv_own wr _ _ (Own.sl OW.out encB_len)
      rw [bytL_all] at hcv
      obtain ⟨ao5, L5, cp5, rfl⟩ := Own.slv encB_len OW.out
      clear OW BW
      go_wp2
      go_ret2
      exact ⟨rfl, HBW.out⟩
end Go.Proofs.YtmgbmoiefgfemaaDoor

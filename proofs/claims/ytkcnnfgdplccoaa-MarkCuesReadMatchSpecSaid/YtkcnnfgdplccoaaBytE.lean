/- bytes.Equal. -/
import Derived.Test.YtkcnnfgdplccoaaCrc
import Derived.Laws.BytesArg
namespace Go.Proofs.Ytkcnnfgdplccoaa
open Go.RowKit

theorem conv_sl (w : World) (l : List UInt8) (v : Value) (hl : Sl w 1 encU v l) : (convert 22 9 v).run Try.prog w = .ok (.string ⟨l.toArray⟩) w := by
  obtain ⟨ao, cap, rfl, _, _, hnil, hel⟩ := hl
  cases ao with
  | none =>
    have := hnil rfl
    obtain rfl : l = [] := List.length_eq_zero_iff.1 (by omega)
    exact run_convert_bytes_nil (P := Try.prog) w 22 5 Try.underlying22 Try.underlying5 0 cap 9 Try.underlying9
  | some ad =>
    obtain ⟨b, off, spot⟩ := ad
    by_cases he : l = []
    · subst he
      have h0 : (loadCells ⟨b, off, spot⟩ 0).run Try.prog w = .ok (([] : List Int).map (Value.int .u8)).toArray w := by
        have := run_loadCells_list (P := Try.prog) w ⟨b, off, spot⟩ [] (fun j v hj => by simp at hj)
        simpa using this
      exact (run_convert_bytes_string w 22 9 5 _ _ cap Try.underlying22 Try.underlying5 Try.underlying9).trans (run_bytesToString w _ 0 cap [] h0)
    have hsp : spot = none := by
      obtain ⟨b', off', e, _⟩ := hel 0 (l[0]'(List.length_pos_iff.2 he)) (by simp)
      simp only [Option.some.injEq, Addr.mk.injEq] at e
      exact e.2.2
    subst hsp
    have hn : strOfNums (l.map fun c => (c.toNat : Int)) = ⟨l.toArray⟩ := by
      unfold strOfNums
      rw [List.map_map]
      congr 2
      conv => rhs; rw [← List.map_id l]
      apply List.map_congr_left
      intro c _
      simp
    rw [← hn]
    refine run_convert_bytes_arg (P := Try.prog) w 22 5 Try.underlying22 Try.underlying5 b off l.length cap (l.map fun c => (c.toNat : Int)) (by simp) (fun i hi => ?_) 9 Try.underlying9
    obtain ⟨b', off', e, hc⟩ := hel i l[i] (by simp)
    simp only [Option.some.injEq, Addr.mk.injEq, and_true] at e
    obtain ⟨rfl, rfl⟩ := e
    have := hc 0 _ rfl
    simp only [Nat.mul_one, Nat.add_zero] at this
    rw [this]
    simp [List.getD_eq_getElem?_getD, hi]

theorem bytesEqual_any (w : World) (l m : List UInt8) (v u : Value) (hl : Sl w 1 encU v l) (hm : Sl w 1 encU u m) :
    Calls Try.prog 15 #[v, u] w fun e w' => e = .returned (.bool (decide (l = m))) ∧ w = w' := by
  have h1 := conv_sl w l v hl
  have h2 := conv_sl w m u hm
  have hv : Hid (((⟨l.toArray⟩ : ByteArray).toList == (⟨m.toArray⟩ : ByteArray).toList) = decide (l = m)) := Lib.hid (by
    rw [ByteArray.toList_eq, ByteArray.toList_eq, Bool.beq_eq_decide_eq])
  clear hl hm
  generalize (⟨l.toArray⟩ : ByteArray) = s at *
  generalize (⟨m.toArray⟩ : ByteArray) = t at *
  go_enter Try.func15, Try.ntmps15
  go_wp2
  go_ret
  exact ⟨ret_bool hv.out, rfl⟩
end Go.Proofs.Ytkcnnfgdplccoaa

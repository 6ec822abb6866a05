/- keysFault of edge and checkKeys of the reference. -/
import Derived.Test.YteepbfpcdhdgfaaDoorReq
import Derived.Test.YteepbfpcdhdgfaaDoorTidy
namespace Go.Proofs.YteepbfpcdhdgfaaDoor
open Go.RowKit

def kyA (K : List ByteArray) (i : Nat) : Int := if reqB (K.getD i ⟨#[]⟩) = true then 0 else 3
/-- The fault of keys. -/
def kyF (K : List ByteArray) : Int := if 1000 < K.length then 2 else FF (kyA K) K.length
theorem kyF_zero {K : List ByteArray} (h : kyF K = 0) : K.length ≤ 1000 ∧ ∀ x, x ∈ K → reqB x = true := by
  unfold kyF at h
  split at h
  · simp at h
  rename_i h1
  refine ⟨by omega, fun x hx => ?_⟩
  obtain ⟨i, hi, rfl⟩ := List.mem_iff_getElem.1 hx
  have h2 := FF_eq_zero h i hi
  unfold kyA at h2
  rw [List.getD_eq_getElem?_getD, List.getElem?_eq_getElem hi] at h2
  split at h2
  · rename_i h3; exact h3
  · simp at h2
set_option maxHeartbeats 1000000 in
theorem keysFault_any (w : World) (K : List ByteArray) (v : Value) (hl : Sl w 1 encS v K) (hw : ∀ x, x ∈ K → x.size ≤ 9223372036854775807) :
    Calls Tryd.prog 17 #[v] w fun e w' => e = .returned (.int .i64 (kyF K)) ∧ Below w.heap.size w w' := by
  obtain ⟨ao, cap, rfl, hcap, hmax, _, hel⟩ := hl
  unfold maxLen at hmax
  have HEL := Lib.hid hel
  have HW := Lib.hid hw
  clear hel hw
  by_cases hbig : 1000 < K.length
  · have hv : Hid (2 = kyF K) := Lib.hid (by unfold kyF; rw [if_pos hbig])
    have hz : (1000 : Int) < (K.length : Int) := by omega
    go_enter Tryd.func17, Tryd.ntmps17
    go_wp2
    go_ret
    exact ⟨ret_int hv.out, Below.refl _ _⟩
  · have HV : Hid (kyF K = FF (kyA K) K.length) := Lib.hid (by unfold kyF; rw [if_neg hbig])
    have hz : ¬ (1000 : Int) < (K.length : Int) := by omega
    go_enter Tryd.func17, Tryd.ntmps17
    go_wp2
    go_loopg [10] K.length (fun gg s10 wr => ∃ i : Nat, i ≤ K.length ∧ K.length - i ≤ gg ∧ s10 = .int .i64 i ∧ Aside (∀ j, j < i → kyA K j = 0) ∧ ∃ nn, wr = w.drewN nn)
    case atStart => exact ⟨0, by omega, by omega, rfl, (show Aside _ from fun j hj => absurd hj (Nat.not_lt_zero _)), 0, rfl⟩
    case round =>
      obtain ⟨i, hi, hgi, rfl, A, nn, rfl⟩ := hrel
      by_cases hil : i < K.length
      · have hiz : (i : Int) < (K.length : Int) := by omega
        obtain ⟨x, hx⟩ : ∃ x, K[i]? = some x := ⟨K[i], by simp [hil]⟩
        obtain ⟨b, off, rfl, hc⟩ := HEL.out i x hx
        have c0 : w.cell? ⟨b, off + i, none⟩ = some (.string x) := by have h := hc 0 _ rfl; simpa using h
        have hxs := HW.out x (List.mem_of_getElem? hx)
        have HAT : Hid (kyA K i = if reqB x = true then 0 else 3) := Lib.hid (by unfold kyA; rw [List.getD_eq_getElem?_getD, hx]; rfl)
        clear hx hc
        cases e1 : reqB x
        case true =>
          have HZ : Hid (kyA K i = 0) := Lib.hid (by rw [HAT.out, e1]; rfl)
          go_wp2_with (go_at_call 21; refine (isReq_any x _ hxs).mono ?_; rintro e w' ⟨rfl, rfl⟩; rw [e1])
          go_roundg (K.length - (i + 1))
          case measure => omega
          case rel =>
            refine ⟨i + 1, by omega, by omega, by go_num, (show Aside _ from fun j hj => ?_), _, rfl⟩
            by_cases e : j = i
            · rw [e]; exact HZ.out
            · exact A.out j (by omega)
        case false =>
          have hv : Hid (3 = kyF K) := Lib.hid (by
            rw [HV.out, FF_hit hil A.out (by rw [HAT.out, e1]; simp), HAT.out, e1]
            rfl)
          go_wp2_with (go_at_call 21; refine (isReq_any x _ hxs).mono ?_; rintro e w' ⟨rfl, rfl⟩; rw [e1])
          go_ret
          exact ⟨ret_int hv.out, below_drewN (Below.refl _ _) _⟩
      · obtain rfl : i = K.length := by omega
        have hv : Hid (0 = kyF K) := Lib.hid (by rw [HV.out, FF_zero A.out])
        go_wp2
        go_ret
        exact ⟨ret_int hv.out, below_drewN (Below.refl _ _) _⟩
set_option maxHeartbeats 1000000 in
theorem checkKeysR_any (w : World) (K : List ByteArray) (v : Value) (hl : Sl w 1 encS v K) (hw : ∀ x, x ∈ K → x.size ≤ 9223372036854775807) :
    Calls Tryd.prog 19 #[v] w fun e w' => e = .returned (.int .i64 (kyF K)) ∧ Below w.heap.size w w' := by
  obtain ⟨ao, cap, rfl, hcap, hmax, _, hel⟩ := hl
  unfold maxLen at hmax
  have HEL := Lib.hid hel
  have HW := Lib.hid hw
  clear hel hw
  by_cases hbig : 1000 < K.length
  · have hv : Hid (2 = kyF K) := Lib.hid (by unfold kyF; rw [if_pos hbig])
    have hz : (1000 : Int) < (K.length : Int) := by omega
    go_enter Tryd.func19, Tryd.ntmps19
    go_wp2
    go_ret
    exact ⟨ret_int hv.out, Below.refl _ _⟩
  · have HV : Hid (kyF K = FF (kyA K) K.length) := Lib.hid (by unfold kyF; rw [if_neg hbig])
    have hz : ¬ (1000 : Int) < (K.length : Int) := by omega
    go_enter Tryd.func19, Tryd.ntmps19
    go_wp2
    go_loopg [10] K.length (fun gg s10 wr => ∃ i : Nat, i ≤ K.length ∧ K.length - i ≤ gg ∧ s10 = .int .i64 i ∧ Aside (∀ j, j < i → kyA K j = 0) ∧ ∃ nn, wr = w.drewN nn)
    case atStart => exact ⟨0, by omega, by omega, rfl, (show Aside _ from fun j hj => absurd hj (Nat.not_lt_zero _)), 0, rfl⟩
    case round =>
      obtain ⟨i, hi, hgi, rfl, A, nn, rfl⟩ := hrel
      by_cases hil : i < K.length
      · have hiz : (i : Int) < (K.length : Int) := by omega
        obtain ⟨x, hx⟩ : ∃ x, K[i]? = some x := ⟨K[i], by simp [hil]⟩
        obtain ⟨b, off, rfl, hc⟩ := HEL.out i x hx
        have c0 : w.cell? ⟨b, off + i, none⟩ = some (.string x) := by have h := hc 0 _ rfl; simpa using h
        have hxs := HW.out x (List.mem_of_getElem? hx)
        have HAT : Hid (kyA K i = if reqB x = true then 0 else 3) := Lib.hid (by unfold kyA; rw [List.getD_eq_getElem?_getD, hx]; rfl)
        clear hx hc
        cases e1 : reqB x
        case true =>
          have HZ : Hid (kyA K i = 0) := Lib.hid (by rw [HAT.out, e1]; rfl)
          go_wp2_with (go_at_call 25; refine (isReqR_any x _ hxs).mono ?_; rintro e w' ⟨rfl, rfl⟩; rw [e1])
          go_roundg (K.length - (i + 1))
          case measure => omega
          case rel =>
            refine ⟨i + 1, by omega, by omega, by go_num, (show Aside _ from fun j hj => ?_), _, rfl⟩
            by_cases e : j = i
            · rw [e]; exact HZ.out
            · exact A.out j (by omega)
        case false =>
          have hv : Hid (3 = kyF K) := Lib.hid (by
            rw [HV.out, FF_hit hil A.out (by rw [HAT.out, e1]; simp), HAT.out, e1]
            rfl)
          go_wp2_with (go_at_call 25; refine (isReqR_any x _ hxs).mono ?_; rintro e w' ⟨rfl, rfl⟩; rw [e1])
          go_ret
          exact ⟨ret_int hv.out, below_drewN (Below.refl _ _) _⟩
      · obtain rfl : i = K.length := by omega
        have hv : Hid (0 = kyF K) := Lib.hid (by rw [HV.out, FF_zero A.out])
        go_wp2
        go_ret
        exact ⟨ret_int hv.out, below_drewN (Below.refl _ _) _⟩
end Go.Proofs.YteepbfpcdhdgfaaDoor

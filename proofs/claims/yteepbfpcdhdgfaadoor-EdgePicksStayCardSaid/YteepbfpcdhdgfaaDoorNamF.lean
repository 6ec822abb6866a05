/- namesFault of edge and checkNames of the reference. -/
import Derived.Test.YteepbfpcdhdgfaaDoorNameE
import Derived.Test.YteepbfpcdhdgfaaDoorTidy
namespace Go.Proofs.YteepbfpcdhdgfaaDoor
open Go.RowKit

def sleN (a b : ByteArray) : Bool := Op.bytesLess a.toList b.toList || a.toList == b.toList
def naV (x p : ByteArray) (i : Nat) : Int := if nameB x = false then 5 else if (decide (0 < i) && sleN x p) = true then 8 else 0
def naA (L : List ByteArray) (i : Nat) : Int := naV (L.getD i ⟨#[]⟩) (L.getD (i - 1) ⟨#[]⟩) i
/-- The fault of names of caches. -/
def naF (L : List ByteArray) : Int := if 30 < L.length then 2 else FF (naA L) L.length
theorem naF_zero {L : List ByteArray} (h : naF L = 0) : L.length ≤ 30 ∧ (∀ x, x ∈ L → nameB x = true) ∧ ∀ i, 0 < i → i < L.length → sleN (L.getD i ⟨#[]⟩) (L.getD (i - 1) ⟨#[]⟩) = false := by
  unfold naF at h
  split at h
  · simp at h
  rename_i h1
  refine ⟨by omega, fun x hx => ?_, fun i h0 hi => ?_⟩
  · obtain ⟨i, hi, rfl⟩ := List.mem_iff_getElem.1 hx
    have h2 := FF_eq_zero h i hi
    unfold naA naV at h2
    rw [List.getD_eq_getElem?_getD, List.getElem?_eq_getElem hi] at h2
    cases e : nameB L[i]
    · rw [Option.getD_some, if_pos e] at h2
      simp at h2
    · rfl
  · have h2 := FF_eq_zero h i hi
    unfold naA naV at h2
    split at h2
    · simp at h2
    split at h2
    · simp at h2
    rename_i h3
    simpa [h0] using h3
set_option maxHeartbeats 1000000 in
theorem namesFault_any (w : World) (L : List ByteArray) (v : Value) (hl : Sl w 1 encS v L) (hw : ∀ x, x ∈ L → x.size ≤ 9223372036854775807) :
    Calls Tryd.prog 16 #[v] w fun e w' => e = .returned (.int .i64 (naF L)) ∧ Below w.heap.size w w' := by
  obtain ⟨ao, cap, rfl, hcap, hmax, _, hel⟩ := hl
  unfold maxLen at hmax
  have HEL := Lib.hid hel
  have HW := Lib.hid hw
  clear hel hw
  by_cases hbig : 30 < L.length
  · have hv : Hid (2 = naF L) := Lib.hid (by unfold naF; rw [if_pos hbig])
    have hz : (30 : Int) < (L.length : Int) := by omega
    go_enter Tryd.func16, Tryd.ntmps16
    go_wp2
    go_ret
    exact ⟨ret_int hv.out, Below.refl _ _⟩
  · have HV : Hid (naF L = FF (naA L) L.length) := Lib.hid (by unfold naF; rw [if_neg hbig])
    have hz : ¬ (30 : Int) < (L.length : Int) := by omega
    go_enter Tryd.func16, Tryd.ntmps16
    go_wp2
    go_loopg [3, 4, 10] L.length (fun gg s3 s4 s10 wr => ∃ i : Nat, i ≤ L.length ∧ L.length - i ≤ gg ∧ s10 = .int .i64 i ∧ Aside (∀ j, j < i → naA L j = 0) ∧ ∃ nn, wr = w.drewN nn)
    case atStart => exact ⟨0, by omega, by omega, rfl, (show Aside _ from fun j hj => absurd hj (Nat.not_lt_zero _)), 0, rfl⟩
    case round =>
      obtain ⟨i, hi, hgi, rfl, A, nn, rfl⟩ := hrel
      by_cases hil : i < L.length
      · have hiz : (i : Int) < (L.length : Int) := by omega
        obtain ⟨x, hx⟩ : ∃ x, L[i]? = some x := ⟨L[i], by simp [hil]⟩
        obtain ⟨p, hp⟩ : ∃ x, L[i - 1]? = some x := ⟨L[i - 1]'(by omega), by simp⟩
        obtain ⟨b, off, rfl, hc⟩ := HEL.out i x hx
        obtain ⟨b', off', hao', hc'⟩ := HEL.out (i - 1) p hp
        simp only [Option.some.injEq, Addr.mk.injEq, and_true] at hao'
        obtain ⟨rfl, rfl⟩ := hao'
        have c0 : w.cell? ⟨b, off + i, none⟩ = some (.string x) := by have h := hc 0 _ rfl; simpa using h
        have p0 : w.cell? ⟨b, off + (i - 1), none⟩ = some (.string p) := by have h := hc' 0 _ rfl; simpa using h
        have hxs := HW.out x (List.mem_of_getElem? hx)
        have HAT : Hid (naA L i = naV x p i) := Lib.hid (by unfold naA; rw [List.getD_eq_getElem?_getD, List.getD_eq_getElem?_getD, hx, hp]; rfl)
        clear hx hc hp hc'
        cases e1 : nameB x
        case false =>
          have hv : Hid (5 = naF L) := Lib.hid (by
            have hz : naA L i = 5 := by rw [HAT.out]; unfold naV; rw [if_pos e1]
            rw [HV.out, FF_hit hil A.out (by rw [hz]; decide), hz])
          go_wp2_with (go_at_call 28; refine (isName_any x _ hxs).mono ?_; rintro e w' ⟨rfl, rfl⟩; rw [e1])
          go_ret
          exact ⟨ret_int hv.out, below_drewN (Below.refl _ _) _⟩
        by_cases hk0 : i = 0
        · have hz0 : ¬ (0 : Int) < (i : Int) := by omega
          have HZ : Hid (naA L i = 0) := Lib.hid (by rw [HAT.out]; unfold naV; rw [if_neg (by simp [e1])]; simp [hk0])
          clear hk0
          go_wp2_with (go_at_call 28; refine (isName_any x _ hxs).mono ?_; rintro e w' ⟨rfl, rfl⟩; rw [e1])
          go_roundg (L.length - (i + 1))
          case measure => omega
          case rel =>
            refine ⟨i + 1, by omega, by omega, by go_num, (show Aside _ from fun j hj => ?_), _, rfl⟩
            by_cases e : j = i
            · rw [e]; exact HZ.out
            · exact A.out j (by omega)
        · have hz0 : (0 : Int) < (i : Int) := by omega
          have hi0 : 0 < i := by omega
          have ez2 : ((i : Int) - 1).toNat = i - 1 := by omega
          have hm1 : (i : Int) - 1 < (L.length : Int) := by omega
          have hm2 : (0 : Int) ≤ (i : Int) - 1 := by omega
          have hm3 : (1 : Int) ≤ (i : Int) := by omega
          have hwk : IntKind.i64.wrap ((i : Int) - 1) = (i : Int) - 1 := IntWalk.i64_in _ (by omega)
          have HVV : Hid (naV x p i = if sleN x p = true then 8 else 0) := Lib.hid (by unfold naV; rw [if_neg (by simp [e1])]; simp [hi0])
          clear hk0
          cases e2 : sleN x p
          all_goals
            have e3 : (Op.bytesLess x.toList p.toList || x.toList == p.toList) = _ := e2
          case true =>
            have hv : Hid (8 = naF L) := Lib.hid (by
              have hz : naA L i = 8 := by rw [HAT.out, HVV.out, if_pos e2]
              rw [HV.out, FF_hit hil A.out (by rw [hz]; decide), hz])
            clear e2
            go_wp2_with (go_at_call 28; refine (isName_any x _ hxs).mono ?_; rintro e w' ⟨rfl, rfl⟩; rw [e1])
            go_ret
            exact ⟨ret_int hv.out, below_drewN (Below.refl _ _) _⟩
          case false =>
            have HZ : Hid (naA L i = 0) := Lib.hid (by rw [HAT.out, HVV.out, if_neg (by simp [e2])])
            clear e2
            go_wp2_with (go_at_call 28; refine (isName_any x _ hxs).mono ?_; rintro e w' ⟨rfl, rfl⟩; rw [e1])
            go_roundg (L.length - (i + 1))
            case measure => omega
            case rel =>
              refine ⟨i + 1, by omega, by omega, by go_num, (show Aside _ from fun j hj => ?_), _, rfl⟩
              by_cases e : j = i
              · rw [e]; exact HZ.out
              · exact A.out j (by omega)
      · obtain rfl : i = L.length := by omega
        have hv : Hid (0 = naF L) := Lib.hid (by rw [HV.out, FF_zero A.out])
        go_wp2
        go_ret
        exact ⟨ret_int hv.out, below_drewN (Below.refl _ _) _⟩
set_option maxHeartbeats 1000000 in
theorem checkNames_any (w : World) (L : List ByteArray) (v : Value) (hl : Sl w 1 encS v L) (hw : ∀ x, x ∈ L → x.size ≤ 9223372036854775807) :
    Calls Tryd.prog 24 #[v] w fun e w' => e = .returned (.int .i64 (naF L)) ∧ Below w.heap.size w w' := by
  obtain ⟨ao, cap, rfl, hcap, hmax, _, hel⟩ := hl
  unfold maxLen at hmax
  have HEL := Lib.hid hel
  have HW := Lib.hid hw
  clear hel hw
  by_cases hbig : 30 < L.length
  · have hv : Hid (2 = naF L) := Lib.hid (by unfold naF; rw [if_pos hbig])
    have hz : (30 : Int) < (L.length : Int) := by omega
    go_enter Tryd.func24, Tryd.ntmps24
    go_wp2
    go_ret
    exact ⟨ret_int hv.out, Below.refl _ _⟩
  · have HV : Hid (naF L = FF (naA L) L.length) := Lib.hid (by unfold naF; rw [if_neg hbig])
    have hz : ¬ (30 : Int) < (L.length : Int) := by omega
    go_enter Tryd.func24, Tryd.ntmps24
    go_wp2
    go_loopg [3, 4, 10] L.length (fun gg s3 s4 s10 wr => ∃ i : Nat, i ≤ L.length ∧ L.length - i ≤ gg ∧ s10 = .int .i64 i ∧ Aside (∀ j, j < i → naA L j = 0) ∧ ∃ nn, wr = w.drewN nn)
    case atStart => exact ⟨0, by omega, by omega, rfl, (show Aside _ from fun j hj => absurd hj (Nat.not_lt_zero _)), 0, rfl⟩
    case round =>
      obtain ⟨i, hi, hgi, rfl, A, nn, rfl⟩ := hrel
      by_cases hil : i < L.length
      · have hiz : (i : Int) < (L.length : Int) := by omega
        obtain ⟨x, hx⟩ : ∃ x, L[i]? = some x := ⟨L[i], by simp [hil]⟩
        obtain ⟨p, hp⟩ : ∃ x, L[i - 1]? = some x := ⟨L[i - 1]'(by omega), by simp⟩
        obtain ⟨b, off, rfl, hc⟩ := HEL.out i x hx
        obtain ⟨b', off', hao', hc'⟩ := HEL.out (i - 1) p hp
        simp only [Option.some.injEq, Addr.mk.injEq, and_true] at hao'
        obtain ⟨rfl, rfl⟩ := hao'
        have c0 : w.cell? ⟨b, off + i, none⟩ = some (.string x) := by have h := hc 0 _ rfl; simpa using h
        have p0 : w.cell? ⟨b, off + (i - 1), none⟩ = some (.string p) := by have h := hc' 0 _ rfl; simpa using h
        have hxs := HW.out x (List.mem_of_getElem? hx)
        have HAT : Hid (naA L i = naV x p i) := Lib.hid (by unfold naA; rw [List.getD_eq_getElem?_getD, List.getD_eq_getElem?_getD, hx, hp]; rfl)
        clear hx hc hp hc'
        cases e1 : nameB x
        case false =>
          have hv : Hid (5 = naF L) := Lib.hid (by
            have hz : naA L i = 5 := by rw [HAT.out]; unfold naV; rw [if_pos e1]
            rw [HV.out, FF_hit hil A.out (by rw [hz]; decide), hz])
          go_wp2_with (go_at_call 41; refine (isName5_any x _ hxs).mono ?_; rintro e w' ⟨rfl, rfl⟩; rw [e1])
          go_ret
          exact ⟨ret_int hv.out, below_drewN (Below.refl _ _) _⟩
        by_cases hk0 : i = 0
        · have hz0 : ¬ (0 : Int) < (i : Int) := by omega
          have HZ : Hid (naA L i = 0) := Lib.hid (by rw [HAT.out]; unfold naV; rw [if_neg (by simp [e1])]; simp [hk0])
          clear hk0
          go_wp2_with (go_at_call 41; refine (isName5_any x _ hxs).mono ?_; rintro e w' ⟨rfl, rfl⟩; rw [e1])
          go_roundg (L.length - (i + 1))
          case measure => omega
          case rel =>
            refine ⟨i + 1, by omega, by omega, by go_num, (show Aside _ from fun j hj => ?_), _, rfl⟩
            by_cases e : j = i
            · rw [e]; exact HZ.out
            · exact A.out j (by omega)
        · have hz0 : (0 : Int) < (i : Int) := by omega
          have hi0 : 0 < i := by omega
          have ez2 : ((i : Int) - 1).toNat = i - 1 := by omega
          have hm1 : (i : Int) - 1 < (L.length : Int) := by omega
          have hm2 : (0 : Int) ≤ (i : Int) - 1 := by omega
          have hm3 : (1 : Int) ≤ (i : Int) := by omega
          have hwk : IntKind.i64.wrap ((i : Int) - 1) = (i : Int) - 1 := IntWalk.i64_in _ (by omega)
          have HVV : Hid (naV x p i = if sleN x p = true then 8 else 0) := Lib.hid (by unfold naV; rw [if_neg (by simp [e1])]; simp [hi0])
          clear hk0
          cases e2 : sleN x p
          all_goals
            have e3 : (Op.bytesLess x.toList p.toList || x.toList == p.toList) = _ := e2
          case true =>
            have hv : Hid (8 = naF L) := Lib.hid (by
              have hz : naA L i = 8 := by rw [HAT.out, HVV.out, if_pos e2]
              rw [HV.out, FF_hit hil A.out (by rw [hz]; decide), hz])
            clear e2
            go_wp2_with (go_at_call 41; refine (isName5_any x _ hxs).mono ?_; rintro e w' ⟨rfl, rfl⟩; rw [e1])
            go_ret
            exact ⟨ret_int hv.out, below_drewN (Below.refl _ _) _⟩
          case false =>
            have HZ : Hid (naA L i = 0) := Lib.hid (by rw [HAT.out, HVV.out, if_neg (by simp [e2])])
            clear e2
            go_wp2_with (go_at_call 41; refine (isName5_any x _ hxs).mono ?_; rintro e w' ⟨rfl, rfl⟩; rw [e1])
            go_roundg (L.length - (i + 1))
            case measure => omega
            case rel =>
              refine ⟨i + 1, by omega, by omega, by go_num, (show Aside _ from fun j hj => ?_), _, rfl⟩
              by_cases e : j = i
              · rw [e]; exact HZ.out
              · exact A.out j (by omega)
      · obtain rfl : i = L.length := by omega
        have hv : Hid (0 = naF L) := Lib.hid (by rw [HV.out, FF_zero A.out])
        go_wp2
        go_ret
        exact ⟨ret_int hv.out, below_drewN (Below.refl _ _) _⟩
end Go.Proofs.YteepbfpcdhdgfaaDoor

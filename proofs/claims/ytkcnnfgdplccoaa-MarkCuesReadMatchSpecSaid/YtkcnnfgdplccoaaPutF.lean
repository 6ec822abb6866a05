/- putFields: the bits of a cue. -/
import Derived.Test.YtkcnnfgdplccoaaPut
import Derived.Test.YtkcnnfgdplccoaaCue
namespace Go.Proofs.Ytkcnnfgdplccoaa
open Go.RowKit

/-- The bits of a cue, behind its first three bytes. -/
def fieldsL (c : Cue) : List Bool :=
  bitsN c.ki.toNat 3 ++ ((if c.ki = 0 then [] else bitsN c.ev.toNat 32) ++ ((if c.ki = 1 ∨ c.ki = 2 then [c.no] ++ (if c.no then [] else bitsN c.ti.toNat 33) else []) ++ (if c.ki = 1 then [c.au] ++ bitsN c.le.toNat 33 else [])))
def padO (L : List Bool) : List Bool := L ++ List.replicate ((8 - L.length % 8) % 8) true
theorem fieldsL_len (c : Cue) : (fieldsL c).length ≤ 103 := by
  unfold fieldsL
  simp only [List.length_append, bitsN_len]
  split <;> split <;> split <;> (try split) <;> simp [bitsN_len]
theorem bitsN_one (t : Bool) : bitsN (b01 t) 1 = [t] := by cases t <;> rfl
theorem bitsN_1 : bitsN 1 1 = [true] := rfl

theorem flag_any (t : Bool) (w : World) : Calls Try.prog 29 #[.bool t] w fun e w' => e = .returned (.int .i64 (b01 t : Nat)) ∧ w = w' := by
  cases t
  all_goals
    go_enter Try.func29, Try.ntmps29
    go_wp2
    go_ret
    exact ⟨rfl, rfl⟩

/-- All bits are put; what the padding adds. -/
theorem pad_next (L : List Bool) : L.length % 8 ≠ 0 → padO L = padO (L ++ [true]) := fun h => by
  unfold padO
  have e1 : (8 - L.length % 8) % 8 = 8 - L.length % 8 := by omega
  have hl : (L ++ [true]).length = L.length + 1 := by simp
  rw [hl, e1, List.append_assoc]
  congr 1
  have e2 : 8 - L.length % 8 = (8 - (L.length + 1) % 8) % 8 + 1 := by omega
  rw [e2, List.replicate_succ]
  rfl
theorem padO_done {L : List Bool} (h : L.length % 8 = 0) : padO L = L := by
  unfold padO
  rw [h]
  simp
end Go.Proofs.Ytkcnnfgdplccoaa

/- What is wrong with a ladder; plain, and the program's two faults at once. -/
import Derived.Test.YtlomnfaedhgciaaSen
import Derived.Test.YtlomnfaedhgciaaFar
namespace Go.Proofs.Ytlomnfaedhgciaa
open Go.RowKit

structure Flw where
  ki : Int
  at_ : Int
instance : Inhabited Flw := ⟨⟨0, 0⟩⟩
def encW (x : Flw) : List Value := [.int .i64 x.ki, .int .i64 x.at_]
theorem encW_len (x : Flw) : (encW x).length = 2 := rfl
theorem infoW : (Try.prog.info? 35).map (fun i => (i.zero, i.size, i.bytes)) = some (some (.agg #[.int .i64 0, .int .i64 0]), 2, 16) := by kernel_rfl
theorem slW : SlT Try.prog 30 35 2 16 := by
  obtain ⟨i0, hi, hz0, hz1, hz2⟩ := info_parts infoW
  exact ⟨i0, _, Try.underlying30, hi, hz0, hz1, hz2, rfl, by decide, by decide⟩

/-- The fault of renditions and a greatest step. -/
def rmF (l : List Rng) (n d : Int) : Int := if checkR l ≠ 0 then checkR l else mostF n d
theorem rmF_zero {l : List Rng} {n d : Int} (h : rmF l n d = 0) : checkR l = 0 ∧ mostF n d = 0 := by
  unfold rmF at h
  split at h
  · contradiction
  · exact ⟨by omega, h⟩
def tallB (l : List Rng) (i : Nat) : Bool := (l.drop (i + 1)).any fun o => decide (o.he < (l.getD i default).he)
def gapB (l : List Rng) (n d : Int) (i : Nat) : Bool := decide (0 < i) && farB (l.getD (i - 1) default).ra (l.getD i default).ra n d
def wrg1 (l : List Rng) (i : Nat) : List Flw := if senB l (l.getD i default) then [] else [⟨1, i⟩]
def wrg2 (l : List Rng) (i : Nat) : List Flw := if tallB l i then [⟨2, i⟩] else []
def wrg3 (l : List Rng) (n d : Int) (i : Nat) : List Flw := if gapB l n d i then [⟨3, i⟩] else []
def wrgA (l : List Rng) (n d : Int) : Nat → List Flw
  | 0 => []
  | k + 1 => wrgA l n d k ++ wrg1 l k ++ wrg2 l k ++ wrg3 l n d k
theorem wrgA_len (l : List Rng) (n d : Int) : ∀ k, (wrgA l n d k).length ≤ 3 * k
  | 0 => by simp [wrgA]
  | k + 1 => by
    have := wrgA_len l n d k
    unfold wrgA wrg1 wrg2 wrg3
    simp only [List.length_append]
    split <;> split <;> split <;> simp <;> omega
def wrgL (l : List Rng) (n d : Int) : List Flw := if rmF l n d ≠ 0 then [] else wrgA l n d l.length
end Go.Proofs.Ytlomnfaedhgciaa

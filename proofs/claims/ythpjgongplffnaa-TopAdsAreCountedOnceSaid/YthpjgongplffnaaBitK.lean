/- Bits of what is told: tests and settings of one. -/
import Derived.Test.YthpjgongplffnaaCntL
namespace Go.Proofs.Ythpjgongplffnaa
open Go.RowKit

theorem and5 : ∀ (a b c d e : Bool) (q : Nat), q < 5 → (bits BinOp.and IntKind.i64 (bits5 a b c d e) (wrap64 (2 ^ q)) != 0) = [a, b, c, d, e].getD q false := by
  intro a b c d e q hq
  have h : q = 0 ∨ q = 1 ∨ q = 2 ∨ q = 3 ∨ q = 4 := by omega
  rcases h with rfl | rfl | rfl | rfl | rfl <;> cases a <;> cases b <;> cases c <;> cases d <;> cases e <;> decide +kernel
theorem or5 : ∀ (a b c d e : Bool) (q : Nat), q < 5 → bits BinOp.or IntKind.i64 (bits5 a b c d e) (wrap64 (2 ^ q)) = bits5 (a || q == 0) (b || q == 1) (c || q == 2) (d || q == 3) (e || q == 4) := by
  intro a b c d e q hq
  have h : q = 0 ∨ q = 1 ∨ q = 2 ∨ q = 3 ∨ q = 4 := by omega
  rcases h with rfl | rfl | rfl | rfl | rfl <;> cases a <;> cases b <;> cases c <;> cases d <;> cases e <;> decide +kernel
theorem bitsG_and (G : List Ev) (v : Vk) (q : Nat) (hq : q < 5) : (bits BinOp.and IntKind.i64 (bitsG G v) (wrap64 (2 ^ q)) != 0) = toldL G v.se v.pl ((q : Int) + 1) := by
  unfold bitsG
  rw [and5 _ _ _ _ _ q hq]
  have h : q = 0 ∨ q = 1 ∨ q = 2 ∨ q = 3 ∨ q = 4 := by omega
  rcases h with rfl | rfl | rfl | rfl | rfl <;> rfl
end Go.Proofs.Ythpjgongplffnaa

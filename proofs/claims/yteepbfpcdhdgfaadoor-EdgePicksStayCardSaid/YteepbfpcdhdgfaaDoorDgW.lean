/- The cipher of the program: the walks. -/
import Derived.Test.YteepbfpcdhdgfaaDoorDgL
import Derived.BigRegion
import Derived.BigQuiet
namespace Go.Proofs.YteepbfpcdhdgfaaDoor
open Go.RowKit

theorem ret_u {k : IntKind} {v : Value} {b : Int} (h : v = .int k b) : Ending.returned v = .returned (.int k b) := by rw [h]
theorem mix_any (x : Nat) (w : World) (hx : x < 4294967296) : Calls Tryd.prog 90 #[.int .u32 x] w fun e w' => e = .returned (.int .u32 (mixN x : Nat)) ∧ w = w' := by
  have hv : Hid (((bits BinOp.xor IntKind.u32 ((x : Int) * 16 % 4294967296) ((x : Int) / 32)) + (x : Int)) % 4294967296 = ((mixN x : Nat) : Int)) := Lib.hid (by
    have e1 : (x : Int) * 16 % 4294967296 = ((x * 16 % 4294967296 : Nat) : Int) := by omega
    have e2 : (x : Int) / 32 = ((x / 32 : Nat) : Int) := by omega
    rw [e1, e2, bits_xor_u32 _ _ (by omega) (by omega)]
    unfold mixN
    omega)
  go_enter Tryd.func90, Tryd.ntmps90
  go_wp2
  go_ret
  exact ⟨ret_u (congrArg (Value.int .u32) hv.out), rfl⟩
theorem word_any (w : World) (b o n cap : Nat) (x0 x1 x2 x3 : UInt8) (h0 : w.cell? ⟨b, o, none⟩ = some (.int .u8 x0.toNat)) (h1 : w.cell? ⟨b, o + 1, none⟩ = some (.int .u8 x1.toNat)) (h2 : w.cell? ⟨b, o + 2, none⟩ = some (.int .u8 x2.toNat)) (h3 : w.cell? ⟨b, o + 3, none⟩ = some (.int .u8 x3.toNat)) (hn : 4 ≤ n) :
    Calls Tryd.prog 89 #[.slice (some ⟨b, o, none⟩) n cap] w fun e w' => e = .returned (.int .u32 (num4 x0 x1 x2 x3 : Nat)) ∧ ∃ k, w' = w.drewN k := by
  have k0 := x0.toNat_lt
  have k1 := x1.toNat_lt
  have k2 := x2.toNat_lt
  have k3 := x3.toNat_lt
  have hv : Hid (bits BinOp.or IntKind.u32 (bits BinOp.or IntKind.u32 (bits BinOp.or IntKind.u32 ((x0.toNat : Int) * 16777216) ((x1.toNat : Int) * 65536)) ((x2.toNat : Int) * 256)) (x3.toNat : Int) = ((num4 x0 x1 x2 x3 : Nat) : Int)) := Lib.hid (by
    have e0 : (x0.toNat : Int) * 16777216 = ((x0.toNat * 16777216 : Nat) : Int) := by omega
    have e1 : (x1.toNat : Int) * 65536 = ((x1.toNat * 65536 : Nat) : Int) := by omega
    have e2 : (x2.toNat : Int) * 256 = ((x2.toNat * 256 : Nat) : Int) := by omega
    have l1 : x0.toNat * 16777216 ||| x1.toNat * 65536 < 4294967296 := Nat.or_lt_two_pow (n := 32) (by omega) (by omega)
    have l2 : (x0.toNat * 16777216 ||| x1.toNat * 65536) ||| x2.toNat * 256 < 4294967296 := Nat.or_lt_two_pow (n := 32) l1 (by omega)
    rw [e0, e1, e2, bits_or_u32 _ _ (by omega) (by omega), bits_or_u32 _ _ l1 (by omega), bits_or_u32 _ _ l2 (by omega), or4])
  obtain ⟨y0, hy0⟩ : ∃ y, y = x0.toNat := ⟨_, rfl⟩
  obtain ⟨y1, hy1⟩ : ∃ y, y = x1.toNat := ⟨_, rfl⟩
  obtain ⟨y2, hy2⟩ : ∃ y, y = x2.toNat := ⟨_, rfl⟩
  obtain ⟨y3, hy3⟩ : ∃ y, y = x3.toNat := ⟨_, rfl⟩
  rw [← hy0] at h0 k0 hv
  rw [← hy1] at h1 k1 hv
  rw [← hy2] at h2 k2 hv
  rw [← hy3] at h3 k3 hv
  clear hy0 hy1 hy2 hy3
  go_enter Tryd.func89, Tryd.ntmps89
  go_wp2
  go_quiet (fail)
  go_wp2
  go_ret
  exact ⟨ret_u (congrArg (Value.int .u32) hv.out), nq, rfl⟩
/-- An array of bytes as a value. -/
def arr8 (l : List UInt8) : Value := .agg (l.map fun x => Value.int .u8 x.toNat).toArray
theorem arr4 (x y : Nat) : arr8 (bytes4 x ++ bytes4 y) = .agg #[.int .u8 ((x / 16777216 % 256 : Nat) : Int), .int .u8 ((x / 65536 % 256 : Nat) : Int), .int .u8 ((x / 256 % 256 : Nat) : Int), .int .u8 ((x % 256 : Nat) : Int), .int .u8 ((y / 16777216 % 256 : Nat) : Int), .int .u8 ((y / 65536 % 256 : Nat) : Int), .int .u8 ((y / 256 % 256 : Nat) : Int), .int .u8 ((y % 256 : Nat) : Int)] := by
  unfold arr8 bytes4
  simp
theorem wordBytes_any (x y : Nat) (w : World) (hx : x < 4294967296) (hy : y < 4294967296) : Calls Tryd.prog 70 #[.int .u32 x, .int .u32 y] w fun e w' => e = .returned (arr8 (bytes4 x ++ bytes4 y)) ∧ Below w.heap.size w w' := by
  rw [arr4]
  go_enter Tryd.func70, Tryd.ntmps70
  go_wp2
  refine bodyPost_ret (v := .agg #[.int .u8 ((x : Int) / 16777216), .int .u8 ((x : Int) / 65536 % 256), .int .u8 ((x : Int) / 256 % 256), .int .u8 ((x : Int) % 256), .int .u8 ((y : Int) / 16777216), .int .u8 ((y : Int) / 65536 % 256), .int .u8 ((y : Int) / 256 % 256), .int .u8 ((y : Int) % 256)]) (by simp [results, Tryd.results70, go_sem]) rfl ⟨?_, (Below.refl _ w).alloc (Nat.le_refl _) _⟩
  have e0 : (x : Int) / 16777216 = ((x / 16777216 % 256 : Nat) : Int) := by omega
  have e1 : (x : Int) / 65536 % 256 = ((x / 65536 % 256 : Nat) : Int) := by omega
  have e2 : (x : Int) / 256 % 256 = ((x / 256 % 256 : Nat) : Int) := by omega
  have e3 : (x : Int) % 256 = ((x % 256 : Nat) : Int) := by omega
  have e4 : (y : Int) / 16777216 = ((y / 16777216 % 256 : Nat) : Int) := by omega
  have e5 : (y : Int) / 65536 % 256 = ((y / 65536 % 256 : Nat) : Int) := by omega
  have e6 : (y : Int) / 256 % 256 = ((y / 256 % 256 : Nat) : Int) := by omega
  have e7 : (y : Int) % 256 = ((y % 256 : Nat) : Int) := by omega
  rw [e0, e1, e2, e3, e4, e5, e6, e7]
end Go.Proofs.YteepbfpcdhdgfaaDoor

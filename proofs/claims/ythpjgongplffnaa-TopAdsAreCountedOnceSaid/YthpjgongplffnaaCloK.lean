/- The functions that Counts hands on: is a count of an advertisement, and the order of counts. -/
import Derived.Test.YthpjgongplffnaaCntD
namespace Go.Proofs.Ythpjgongplffnaa
open Go.RowKit

theorem clo1_any (c : Cnt) (pb : Nat) (ad : ByteArray) (w : World) (h : w.cell? ⟨pb, 0, none⟩ = some (.string ad)) :
    Calls Try.prog 20 #[.agg #[.string c.ad, .int .i64 c.k0, .int .i64 c.k1, .int .i64 c.k2, .int .i64 c.k3, .int .i64 c.k4], .pointer (some ⟨pb, 0, none⟩)] w fun e w' => e = .returned (.bool (c.ad.toList == ad.toList)) ∧ Below w.heap.size w w' := by
  have hlt := World.block_lt_of_cell? w _ h
  have BB := Lib.hid (Below.refl w.heap.size w)
  go_enter Try.func20, Try.ntmps20
  go_wp2
  go_ret
  exact ⟨by simp, BB.out.alloc (Nat.le_refl _) _⟩
def cmpK (a b : Cnt) : Int := if Op.bytesLess a.ad.toList b.ad.toList = true then -1 else 1
theorem clo2_any (a b : Cnt) (w : World) : Calls Try.prog 22 #[.agg #[.string a.ad, .int .i64 a.k0, .int .i64 a.k1, .int .i64 a.k2, .int .i64 a.k3, .int .i64 a.k4], .agg #[.string b.ad, .int .i64 b.k0, .int .i64 b.k1, .int .i64 b.k2, .int .i64 b.k3, .int .i64 b.k4]] w fun e w' => e = .returned (.int .i64 (cmpK a b)) ∧ Below w.heap.size w w' := by
  have BB := Lib.hid (Below.refl w.heap.size w)
  cases hlt : Op.bytesLess a.ad.toList b.ad.toList with
  | true =>
    have hv : Hid (-1 = cmpK a b) := Lib.hid (by rw [cmpK, if_pos hlt])
    go_enter Try.func22, Try.ntmps22
    go_wp2
    go_ret
    exact ⟨ret_int hv.out, (BB.out.alloc (Nat.le_refl _) _).alloc (by simp) _⟩
  | false =>
    have hv : Hid (1 = cmpK a b) := Lib.hid (by rw [cmpK, hlt, if_neg Bool.false_ne_true])
    go_enter Try.func22, Try.ntmps22
    go_wp2
    go_ret
    exact ⟨ret_int hv.out, (BB.out.alloc (Nat.le_refl _) _).alloc (by simp) _⟩
end Go.Proofs.Ythpjgongplffnaa

/- A ratio among the arguments, by value. -/
import Derived.Test.YtlomnfaedhgciaaOpenG
namespace Go.Proofs.Ytlomnfaedhgciaa
open Go.RowKit Go.ChangeShapes Go.WideShapes Go.Deep

structure Rto where
  nu : Int
  de : Int
theorem openQ {H : Type} {enc : TypeId × Value → H} {r : Reach} {b0 base : Nat} {spare : Nat → Bool} {held : Bool} (W : World) (v : Value) (d : DataW H) (p : List MemPlace) (hv : Value.okWide Try.prog W r b0 24 v)
    (h : DataW.Trod enc Try.prog W base spare held 24 v d p) : ∃ y : Rto, v = .agg #[.int .i64 y.nu, .int .i64 y.de] ∧ True := by
  obtain ⟨v0, v1, y0, y1, n, rfl, _, _, h0, h1⟩ := Go.Joins.open_agg2 Try.underlying24 (by kernel_rfl) (by kernel_rfl) hv h
  obtain ⟨a', e0, _, w0⟩ := DataW.trod_int Try.underlying3 h0
  obtain ⟨b', e1, _, w1⟩ := DataW.trod_int Try.underlying3 h1
  simp at e0 e1
  subst e0 e1
  exact ⟨⟨a', b'⟩, rfl, trivial⟩
abbrev witQ : Value := .agg #[.int .i64 0, .int .i64 0]
end Go.Proofs.Ytlomnfaedhgciaa

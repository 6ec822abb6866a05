/- Renditions and viewers among the arguments. -/
import Derived.Test.YtfkmdojnkdoffaaOpen
import Derived.Test.YtfkmdojnkdoffaaCrowd
import Derived.Lib.SmallJoins
namespace Go.Proofs.Ytfkmdojnkdoffaa
open Go.RowKit Go.ChangeShapes Go.WideShapes Go.Deep
set_option maxRecDepth 100000

theorem cellsIntR : Try.prog.cellsOf 3 = 1 := by kernel_rfl
theorem cellsStrR : Try.prog.cellsOf 9 = 1 := by kernel_rfl
theorem cellsR : Try.prog.cellsOf 45 = 4 := by kernel_rfl
theorem cellsV : Try.prog.cellsOf 63 = 3 := by kernel_rfl

theorem decR (w : World) : Dec Try.prog w 45 encR WfR := by
  intro H enc n cs x h
  obtain ⟨y0, y1, y2, y3, n, _, hl, h0, h1, h2, h3⟩ := Go.Joins.trod_struct4 Try.underlying45 h
  rw [cellsR] at hl
  match cs, hl with
  | [a, b, c, d], _ =>
    simp only [cellsIntR, cellsStrR] at h0 h1 h2 h3
    obtain ⟨a', e0, _, w0⟩ := DataW.trod_string Try.underlying9 h0
    obtain ⟨b', e1, _, w1⟩ := DataW.trod_int Try.underlying3 h1
    obtain ⟨c', e2, _, w2⟩ := DataW.trod_int Try.underlying3 h2
    obtain ⟨d', e3, _, w3⟩ := DataW.trod_int Try.underlying3 h3
    simp at e0 e1 e2 e3
    subst e0 e1 e2 e3
    exact ⟨⟨a', b', c', d'⟩, rfl, by simpa [WfR, maxLen] using w0⟩

theorem decV (w : World) : Dec Try.prog w 63 encV (fun _ => True) := by
  intro H enc n cs x h
  obtain ⟨y0, y1, y2, n, _, hl, h0, h1, h2⟩ := trod_struct3 Try.underlying63 h
  rw [cellsV] at hl
  match cs, hl with
  | [a, b, c], _ =>
    simp only [cellsIntR] at h0 h1 h2
    obtain ⟨a', e0, _, w0⟩ := DataW.trod_int Try.underlying3 h0
    obtain ⟨b', e1, _, w1⟩ := DataW.trod_int Try.underlying3 h1
    obtain ⟨c', e2, _, w2⟩ := DataW.trod_int Try.underlying3 h2
    simp at e0 e1 e2
    subst e0 e1 e2
    exact ⟨⟨a', b', c'⟩, rfl, trivial⟩
/-- A viewer by value. -/
theorem openV {H : Type} {enc : TypeId × Value → H} {r : Reach} {b0 base : Nat} {spare : Nat → Bool} {held : Bool} (W : World) (v : Value) (d : DataW H) (p : List MemPlace) (hv : Value.okWide Try.prog W r b0 63 v)
    (h : DataW.Trod enc Try.prog W base spare held 63 v d p) : ∃ y : Vw, v = .agg #[.int .i64 y.ra, .int .i64 y.he, .int .i64 y.we] ∧ True := by
  obtain ⟨v0, v1, v2, y0, y1, y2, n, rfl, _, _, h0, h1, h2⟩ := Go.Joins.open_agg3 Try.underlying63 (by kernel_rfl) (by kernel_rfl) hv h
  obtain ⟨a', e0, _, w0⟩ := DataW.trod_int Try.underlying3 h0
  obtain ⟨b', e1, _, w1⟩ := DataW.trod_int Try.underlying3 h1
  obtain ⟨c', e2, _, w2⟩ := DataW.trod_int Try.underlying3 h2
  simp at e0 e1 e2
  subst e0 e1 e2
  exact ⟨⟨a', b', c'⟩, rfl, trivial⟩
/-- A viewer, for the witness. -/
abbrev witV : Value := .agg #[.int .i64 0, .int .i64 0, .int .i64 0]
end Go.Proofs.Ytfkmdojnkdoffaa

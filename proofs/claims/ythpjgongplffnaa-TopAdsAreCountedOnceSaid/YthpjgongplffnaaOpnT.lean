/- Parts and numbers among the arguments. -/
import Derived.Test.YthpjgongplffnaaOpen
import Derived.Test.YthpjgongplffnaaTopW
import Derived.Lib.SmallJoins
namespace Go.Proofs.Ythpjgongplffnaa
open Go.RowKit Go.ChangeShapes Go.WideShapes Go.Deep

theorem cellsIntP : Try.prog.cellsOf 3 = 1 := by kernel_rfl
theorem cellsStrP : Try.prog.cellsOf 9 = 1 := by kernel_rfl
theorem cellsP : Try.prog.cellsOf 28 = 3 := by kernel_rfl

theorem decP (w : World) : Dec Try.prog w 28 encP WfP := by
  intro H enc n cs x h
  obtain ⟨y0, y1, y2, n, _, hl, h0, h1, h2⟩ := trod_struct3 Try.underlying28 h
  rw [cellsP] at hl
  match cs, hl with
  | [a, b, c], _ =>
    simp only [cellsIntP, cellsStrP] at h0 h1 h2
    obtain ⟨a', e0, _, w0⟩ := DataW.trod_string Try.underlying9 h0
    obtain ⟨b', e1, _, w1⟩ := DataW.trod_int Try.underlying3 h1
    obtain ⟨c', e2, _, w2⟩ := DataW.trod_int Try.underlying3 h2
    simp at e0 e1 e2
    subst e0 e1 e2
    exact ⟨⟨a', b', c'⟩, rfl, by simpa [maxLen] using w0, I64.of w1, I64.of w2⟩
/-- A struct of four fields among the arguments. -/
theorem trod_four {H : Type} {enc : TypeId × Value → H} {P : Program} {w : World} {base : Nat} {spare : Nat → Bool} {held : Bool} {t : TypeId} {f0 f1 f2 f3 : Field} {fuel : Nat} {cs : List Value} {x : DataW H × List MemPlace} (ht : P.underlying t = some (.struct #[f0, f1, f2, f3])) (h : DataW.trod enc P w base spare held fuel t cs = some x) :
    ∃ (y0 y1 y2 y3 : DataW H × List MemPlace) (n : Nat), cs.length = P.cellsOf t ∧ DataW.trod enc P w base spare held n f0.type ((cs.drop f0.offset).take (P.cellsOf f0.type)) = some y0 ∧ DataW.trod enc P w base spare held n f1.type ((cs.drop f1.offset).take (P.cellsOf f1.type)) = some y1 ∧ DataW.trod enc P w base spare held n f2.type ((cs.drop f2.offset).take (P.cellsOf f2.type)) = some y2 ∧ DataW.trod enc P w base spare held n f3.type ((cs.drop f3.offset).take (P.cellsOf f3.type)) = some y3 := by
  obtain ⟨xs, n, _, rfl, hl, hlen, hf⟩ := DataW.trod_struct ht h
  match xs, hlen with
  | [y0, y1, y2, y3], _ => exact ⟨y0, y1, y2, y3, n, hl, by simpa using hf 0 f0 rfl, by simpa using hf 1 f1 rfl, by simpa using hf 2 f2 rfl, by simpa using hf 3 f3 rfl⟩
theorem decI (w : World) : Dec Try.prog w 3 encI I64 := by
  intro H enc n cs x h
  obtain ⟨b', e1, _, w1⟩ := DataW.trod_int Try.underlying3 h
  subst e1
  exact ⟨b', rfl, I64.of w1⟩
theorem bytesIp : Try.prog.bytesOf 3 = 8 := by kernel_rfl
end Go.Proofs.Ythpjgongplffnaa

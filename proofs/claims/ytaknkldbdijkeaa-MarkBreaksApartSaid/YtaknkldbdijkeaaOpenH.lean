/- Cues that are heard among the arguments. -/
import Derived.Test.YtaknkldbdijkeaaOpenU
import Derived.Test.YtaknkldbdijkeaaBrkV
import Derived.Lib.SmallJoins
namespace Go.Proofs.Ytaknkldbdijkeaa
open Go.RowKit Go.ChangeShapes Go.WideShapes Go.Deep

theorem cellsC : Try.prog.cellsOf 40 = 6 := by kernel_rfl
theorem cellsI : Try.prog.cellsOf 3 = 1 := by kernel_rfl
theorem cellsBo : Try.prog.cellsOf 4 = 1 := by kernel_rfl

/-- A struct of six fields among the arguments. -/
theorem trod_six {H : Type} {enc : TypeId × Value → H} {P : Program} {w : World} {base : Nat} {spare : Nat → Bool} {held : Bool} {t : TypeId} {f0 f1 f2 f3 f4 f5 : Field} {fuel : Nat} {cs : List Value} {x : DataW H × List MemPlace} (ht : P.underlying t = some (.struct #[f0, f1, f2, f3, f4, f5])) (h : DataW.trod enc P w base spare held fuel t cs = some x) :
    ∃ (y0 y1 y2 y3 y4 y5 : DataW H × List MemPlace) (n : Nat), cs.length = P.cellsOf t ∧ DataW.trod enc P w base spare held n f0.type ((cs.drop f0.offset).take (P.cellsOf f0.type)) = some y0 ∧ DataW.trod enc P w base spare held n f1.type ((cs.drop f1.offset).take (P.cellsOf f1.type)) = some y1 ∧ DataW.trod enc P w base spare held n f2.type ((cs.drop f2.offset).take (P.cellsOf f2.type)) = some y2 ∧ DataW.trod enc P w base spare held n f3.type ((cs.drop f3.offset).take (P.cellsOf f3.type)) = some y3 ∧ DataW.trod enc P w base spare held n f4.type ((cs.drop f4.offset).take (P.cellsOf f4.type)) = some y4 ∧ DataW.trod enc P w base spare held n f5.type ((cs.drop f5.offset).take (P.cellsOf f5.type)) = some y5 := by
  obtain ⟨xs, n, _, rfl, hl, hlen, hf⟩ := DataW.trod_struct ht h
  match xs, hlen with
  | [y0, y1, y2, y3, y4, y5], _ => exact ⟨y0, y1, y2, y3, y4, y5, n, hl, by simpa using hf 0 f0 rfl, by simpa using hf 1 f1 rfl, by simpa using hf 2 f2 rfl, by simpa using hf 3 f3 rfl, by simpa using hf 4 f4 rfl, by simpa using hf 5 f5 rfl⟩

/-- The six cells of a cue. -/
theorem cue_cells {H : Type} {enc : TypeId × Value → H} {b0 : Nat} {spare : Nat → Bool} {held : Bool} {W : World} {n : Nat} {cs : List Value} {x : DataW H × List MemPlace}
    (h : DataW.trod enc Try.prog W b0 spare held n 40 cs = some x) : ∃ y : Cue, cs = [.int .i64 y.ki, .int .i64 y.ev, .bool y.no, .int .i64 y.ti, .int .i64 y.le, .bool y.au] ∧ I64 y.ki ∧ I64 y.ev ∧ I64 y.ti ∧ I64 y.le := by
  obtain ⟨y0, y1, y2, y3, y4, y5, m, hl, h0, h1, h2, h3, h4, h5⟩ := trod_six Try.underlying40 h
  rw [cellsC] at hl
  match cs, hl with
  | [a, b, c, d, e, f], _ =>
    simp only [cellsI, cellsBo] at h0 h1 h2 h3 h4 h5
    obtain ⟨a', e0, _, w0⟩ := DataW.trod_int Try.underlying3 h0
    obtain ⟨b', e1, _, w1⟩ := DataW.trod_int Try.underlying3 h1
    obtain ⟨c', e2, _⟩ := DataW.trod_bool Try.underlying4 h2
    obtain ⟨d', e3, _, w3⟩ := DataW.trod_int Try.underlying3 h3
    obtain ⟨e', e4, _, w4⟩ := DataW.trod_int Try.underlying3 h4
    obtain ⟨f', e5, _⟩ := DataW.trod_bool Try.underlying4 h5
    simp at e0 e1 e2 e3 e4 e5
    subst e0 e1 e2 e3 e4 e5
    exact ⟨⟨a', b', c', d', e', f'⟩, rfl, I64.of w0, I64.of w1, I64.of w3, I64.of w4⟩
theorem cellsH : Try.prog.cellsOf 42 = 7 := by kernel_rfl
theorem bytesH : Try.prog.bytesOf 42 = 56 := by kernel_rfl
/-- A struct of two fields among the arguments. -/
theorem trod_two {H : Type} {enc : TypeId × Value → H} {P : Program} {w : World} {base : Nat} {spare : Nat → Bool} {held : Bool} {t : TypeId} {f0 f1 : Field} {fuel : Nat} {cs : List Value} {x : DataW H × List MemPlace} (ht : P.underlying t = some (.struct #[f0, f1])) (h : DataW.trod enc P w base spare held fuel t cs = some x) :
    ∃ (y0 y1 : DataW H × List MemPlace) (n : Nat), cs.length = P.cellsOf t ∧ DataW.trod enc P w base spare held n f0.type ((cs.drop f0.offset).take (P.cellsOf f0.type)) = some y0 ∧ DataW.trod enc P w base spare held n f1.type ((cs.drop f1.offset).take (P.cellsOf f1.type)) = some y1 := by
  obtain ⟨xs, n, _, rfl, hl, hlen, hf⟩ := DataW.trod_struct ht h
  match xs, hlen with
  | [y0, y1], _ => exact ⟨y0, y1, n, hl, by simpa using hf 0 f0 rfl, by simpa using hf 1 f1 rfl⟩
theorem decH (w : World) : Dec Try.prog w 42 encH (fun _ => True) := by
  intro H enc n cs x h
  obtain ⟨y0, y1, m, hl, h0, h1⟩ := trod_two Try.underlying42 h
  rw [cellsH] at hl
  match cs, hl with
  | [a, b, c, d, e, f, g], _ =>
    simp only [cellsI, cellsC] at h0 h1
    obtain ⟨a', e0, _, w0⟩ := DataW.trod_int Try.underlying3 h0
    obtain ⟨y, e1, _⟩ := cue_cells h1
    simp at e0 e1
    obtain ⟨rfl, rfl, rfl, rfl, rfl, rfl⟩ := e1
    subst e0
    exact ⟨⟨a', y⟩, rfl, trivial⟩
end Go.Proofs.Ytaknkldbdijkeaa

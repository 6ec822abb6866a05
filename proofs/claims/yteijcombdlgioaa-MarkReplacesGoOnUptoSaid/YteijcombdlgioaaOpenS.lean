/- Breaks, advertisements, and slices of these among the arguments. -/
import Derived.Test.YteijcombdlgioaaBulk
import Derived.Test.YteijcombdlgioaaOpenI
import Derived.Test.YteijcombdlgioaaIns0
import Derived.Lib.SmallJoins
namespace Go.Proofs.Yteijcombdlgioaa
open Go.RowKit Go.ChangeShapes Go.WideShapes Go.Deep

theorem cellsBk : Try.prog.cellsOf 54 = 3 := by kernel_rfl
theorem cellsAd : Try.prog.cellsOf 59 = 4 := by kernel_rfl
theorem cellsAds : Try.prog.cellsOf 57 = 1 := by kernel_rfl

theorem decBk (w : World) : Dec Try.prog w 54 encB (fun _ => True) := by
  intro H enc n cs x h
  obtain ⟨y0, y1, y2, n, _, hl, h0, h1, h2⟩ := trod_struct3 Try.underlying54 h
  rw [cellsBk] at hl
  match cs, hl with
  | [a, b, c], _ =>
    simp only [cellsIntP] at h0 h1 h2
    obtain ⟨a', e0, _, w0⟩ := DataW.trod_int Try.underlying3 h0
    obtain ⟨b', e1, _, w1⟩ := DataW.trod_int Try.underlying3 h1
    obtain ⟨c', e2, _, w2⟩ := DataW.trod_int Try.underlying3 h2
    simp at e0 e1 e2
    subst e0 e1 e2
    exact ⟨⟨a', b', c'⟩, rfl, trivial⟩

theorem decAd (w : World) : Dec Try.prog w 59 encA WfA := by
  intro H enc n cs x h
  obtain ⟨y0, y1, y2, y3, n, _, hl, h0, h1, h2, h3⟩ := Go.Joins.trod_struct4 Try.underlying59 h
  rw [cellsAd] at hl
  match cs, hl with
  | [a, b, c, d], _ =>
    simp only [cellsIntP, cellsStrP] at h0 h1 h2 h3
    obtain ⟨a', e0, _, w0⟩ := DataW.trod_string Try.underlying9 h0
    obtain ⟨b', e1, _, w1⟩ := DataW.trod_int Try.underlying3 h1
    obtain ⟨c', e2, _, w2⟩ := DataW.trod_int Try.underlying3 h2
    obtain ⟨d', e3, _, w3⟩ := DataW.trod_string Try.underlying9 h3
    simp at e0 e1 e2 e3
    subst e0 e1 e2 e3
    exact ⟨⟨a', b', c', d'⟩, rfl, by simpa [maxLen] using w0, by simpa [maxLen] using w3, I64.of w1, I64.of w2⟩

theorem sizes_ge {α : Type} (l : List α) : sizes (fun _ => 1) l = l.length := by
  induction l with
  | nil => rfl
  | cons a r ih => simp [sizes, ih]; omega
theorem sizes_cnt (l : List AdS) : sizes (fun y => y.l.length) l = cntS l := by
  induction l with
  | nil => rfl
  | cons a r ih => simp [sizes, cntS, ih]
theorem decS (w : World) : DecB Try.prog w 57 encS (WfS w) (fun y => y.l.length) := by
  intro H enc n cs x h
  obtain ⟨v, l, rfl, hs, hw, hb⟩ := sl_openB Try.underlying57 cellsAd (by decide) (DecB.of (decAd w)) h
  rw [sizes_ge] at hb
  exact ⟨⟨v, l⟩, rfl, ⟨hs, hw⟩, hb⟩
end Go.Proofs.Yteijcombdlgioaa

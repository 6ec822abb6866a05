/- Renditions of several films, and weights, among the arguments. -/
import Derived.Test.YtibnbhjiohighaaOpenG
import Derived.Test.YtibnbhjiohighaaOpenIL
import Derived.Test.YtibnbhjiohighaaComL
namespace Go.Proofs.Ytibnbhjiohighaa
open Go.RowKit Go.ChangeShapes Go.WideShapes Go.Deep
set_option maxRecDepth 100000

theorem cellsFl : Try.prog.cellsOf 34 = 1 := by kernel_rfl
theorem decFl (w : World) : Dec Try.prog w 34 encFl (WfF w) := by
  intro H enc n cs x h
  have h' := h
  rcases open_slice Try.underlying34 h with ⟨hcs, hx⟩ | ⟨a', len', cap', m, n, D, Pl, hcs, hb, hl, hm, hmm, hx, hel⟩
  · subst hcs
    exact ⟨⟨_, []⟩, rfl, Sl.nil, fun y hy => by simp at hy⟩
  · subst hcs
    obtain ⟨l, hs, hw, _⟩ := sl_open Try.underlying34 cellsR (by decide) (decR w) (d := x.1) (p := x.2) ⟨_, h'⟩
    exact ⟨⟨_, l⟩, rfl, hs, hw⟩
end Go.Proofs.Ytibnbhjiohighaa

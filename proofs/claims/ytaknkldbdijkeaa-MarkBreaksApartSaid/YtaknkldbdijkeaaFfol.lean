/- A cue is followed: the program. -/
import Derived.Test.YtaknkldbdijkeaaBrkU
import Derived.Test.YtaknkldbdijkeaaFrem
namespace Go.Proofs.Ytaknkldbdijkeaa
open Go.RowKit

theorem fcl_any (x : Evn) (hb : Nat) (ev : Int) (w : World) (hc : w.cell? ⟨hb, 2, none⟩ = some (.int .i64 ev)) (hlt : hb < w.heap.size) :
    Calls Try.prog 36 #[.agg #[.int .i64 x.id, .int .i64 x.be, .int .i64 x.en, .bool x.op], .pointer (some ⟨hb, 0, none⟩)] w fun e w' => e = .returned (.bool (isId ev x)) ∧ Below w.heap.size w w' := by
  have HB := Lib.hid ((Below.refl w.heap.size w).alloc (Nat.le_refl _) (.cells #[.int .i64 x.id, .int .i64 x.be, .int .i64 x.en, .bool x.op] 60))
  have hv : Hid (isId ev x = (x.id == ev)) := Lib.hid rfl
  generalize isId ev x = r at hv ⊢
  go_enter Try.func36, Try.ntmps36
  go_wp2
  go_ret
  exact ⟨ret_bool hv.out.symm, HB.out⟩

theorem gidx_any (w : World) (hb : Nat) (ev : Int) (G : List Evn) (v : Value) (hv : Sl w 4 encG v G) (hc : w.cell? ⟨hb, 2, none⟩ = some (.int .i64 ev)) (hlt : hb < w.heap.size) :
    Calls Try.prog 35 #[v, .func (.func 36) #[] #[.pointer (some ⟨hb, 0, none⟩)]] w fun e w' => e = .returned (.int .i64 (fidxV (isId ev) G)) ∧ Below w.heap.size w w' := by
  refine idxV 36 #[.pointer (some ⟨hb, 0, none⟩)] (isId ev) w G v hv (enters_of Try.func36 (by kernel_rfl) rfl) (fun W x _ hB => ?_)
  exact fcl_any x hb ev W ((hB.cell (p := ⟨hb, 2, none⟩) hlt).trans hc) (Nat.lt_of_lt_of_le hlt hB.size)

theorem Fol.to {w : World} {B P M base n m : Nat} {G G2 : List Evn} {can can2 : Int → Bool} (h : Fol w B P M base n G can) (hn : n ≤ m) (hG : G2 = G) (hc : ∀ x, can2 x = can x) : Fol w B P M base m G2 can2 := by
  subst hG
  obtain ⟨h1, h2, h3, h4, h5, v, h6, h7, h8⟩ := h
  exact ⟨h1, h2, h3, h4, h5, v, h6, h7, (h8.mono hn).congr (fun x => (hc x).symm)⟩
/-- A break of the follower gets its end. -/
theorem Fol.setEnd {w : World} {B P M base n : Nat} {G : List Evn} {can : Int → Bool} {gb cap j : Nat} {g : Evn} {tm : Int} (h : Fol w B P M base n G can) (hv : w.heap[P]? = some (.cells #[.slice (some ⟨gb, 0, none⟩) G.length cap, .map (some M)] 57 (0, 0))) (hj : G[j]? = some g) :
    Fol ((w.setCell ⟨gb, j * 4 + 2, none⟩ (.int .i64 tm)).setCell ⟨gb, j * 4 + 3, none⟩ (.bool false)) B P M base n (G.set j { g with en := tm, op := false }) can ∧ Below B w ((w.setCell ⟨gb, j * 4 + 2, none⟩ (.int .i64 tm)).setCell ⟨gb, j * 4 + 3, none⟩ (.bool false)) ∧ KeepF P w ((w.setCell ⟨gb, j * 4 + 2, none⟩ (.int .i64 tm)).setCell ⟨gb, j * 4 + 3, none⟩ (.bool false)) := by
  have hne := h.ne
  obtain ⟨h1, h2, h3, h4, h5, v, h6, h7, h8⟩ := h
  have e3 := h6.symm.trans hv
  simp at e3
  subst e3
  have hlt := (World.ownsRow.lt h7 gb rfl).1
  have s1 := Own.store (i := j) (j := 2) (x := g) (y := { g with en := tm }) (u := .int .i64 tm) encG_len h7 rfl hj (by decide) rfl
  have hj2 : (G.set j { g with en := tm })[j]? = some { g with en := tm } := by
    rw [List.getElem?_set_self (List.getElem?_eq_some_iff.1 hj).1]
  have s1' : Own (w.setCell ⟨gb, j * 4 + 2, none⟩ (.int .i64 tm)) base 60 4 encG (.slice (some ⟨gb, 0, none⟩) (G.set j { g with en := tm }).length cap) (G.set j { g with en := tm }) := by rw [List.length_set]; exact s1
  have s2 := Own.store (i := j) (j := 3) (x := { g with en := tm }) (y := { g with en := tm, op := false }) (u := .bool false) encG_len s1' rfl hj2 (by decide) rfl
  rw [List.set_set, List.length_set] at s2
  obtain ⟨cur, hcur⟩ := Own.blk h7
  obtain ⟨cur2, hcur2⟩ := Own.blk s1'
  refine ⟨⟨h1, h2, h3, h4, by simp; omega, _, ?_, s2, h8.same ?_⟩, ((Below.refl B w).setCell (by show B ≤ gb; omega) _).setCell (by show B ≤ gb; omega) _, ((KeepF.refl P w).setOwn hcur _).setOwn hcur2 _⟩
  · rw [Below.heap_setCell _ _ _ P (by show P ≠ gb; omega), Below.heap_setCell _ _ _ P (by show P ≠ gb; omega)]
    exact hv
  · rw [Below.heap_setCell _ _ _ M (by show M ≠ gb; omega), Below.heap_setCell _ _ _ M (by show M ≠ gb; omega)]
end Go.Proofs.Ytaknkldbdijkeaa

/- choose of the program. -/
import Derived.Test.YtibnbhjiohighaaBstWK
import Derived.Deep.RegionHeld3
namespace Go.Proofs.Ytibnbhjiohighaa
open Go.RowKit

/-- A slice that reads as the best choice, and what it is worth. -/
def ChoP (w : World) (n m : Nat) (f : List Int → Int) : Ending → World → Prop := fun e w' => ∃ v B, e = .returned (.tuple #[v, .int .i64 (f B)]) ∧ Sl w' 1 encI v B ∧ Below w.heap.size w w' ∧ bestW f n m B
theorem ChoP.mk {w w' : World} {n m : Nat} {f : List Int → Int} {v : Value} {B : List Int} (hs : Sl w' 1 encI v B) (hb : Below w.heap.size w w') (h : bestW f n m B) : ChoP w n m f (.returned (.tuple #[v, .int .i64 (f B)])) w' := ⟨v, B, rfl, hs, hb, h⟩

set_option maxRecDepth 100000 in
set_option maxHeartbeats 4000000 in
theorem choose_any (w : World) (n m p q pz : Nat) (hn : n ≤ 100) (hm : m ≤ 100) (f : List Int → Int) (hf : f [] = 0)
    (hval : ∀ (W : World) (v : Value) (L : List Int), Below w.heap.size w W → Sl W 1 encI v L → okW n m L → Calls Try.prog 11 #[v, .pointer (some ⟨p, 0, none⟩), .pointer (some ⟨q, 0, none⟩), .pointer (some ⟨pz, 0, none⟩)] W fun e w' => e = .returned (.int .i64 (f L)) ∧ Below W.heap.size W w') :
    Calls Try.prog 10 #[.int .i64 n, .int .i64 m, fnV p q pz] w (ChoP w n m f) := by
  have hbA : Below w.heap.size w (w.alloc (.cells #[.int .i64 n, .int .i64 m, fnV p q pz, .slice none 0 0, .int .i64 0] 53)) := (Below.refl _ _).alloc (Nat.le_refl _) _
  have HFR := Lib.hid (fromW_any w n m p q pz hn hm f w.heap.size (Nat.le_refl _) hval (n + 1) 0 _ (.slice none 0 0) [] [] (by omega) (by omega) hbA
    ⟨_, by rw [hf]; exact block_new w _, Sl.nil, .nil _⟩ Sl.nil (.nil _) (okW_nil n m) (fun j hj => by simp at hj) (okW_nil n m))
  have HBA := Lib.hid hbA
  clear hval hbA hf
  go_enter Try.func10, Try.ntmps10
  go_wp2_with fail
  refine HFR.out.mono ?_
  rintro e w2 ⟨B, rfl, hC, hB, hU, hV, hO⟩
  obtain ⟨vb, hk, hs, _⟩ := hC
  obtain ⟨bo, bL, bcap, rfl⟩ : ∃ ao L cap, vb = .slice ao L cap := by obtain ⟨ao, cap, rfl, _⟩ := hs; exact ⟨_, _, _, rfl⟩
  have g3 := (cell_of_block (i := 3) hk).trans rfl
  have g4 := (cell_of_block (i := 4) hk).trans rfl
  have hlt := lt_of_blk hk
  have HS := Lib.hid hs
  have HBST := Lib.hid (hV.best hB)
  have HB3 : Hid (Below w.heap.size w w2) := Lib.hid (HBA.out.trans (hO.toBelow (by simp) (Nat.le_refl _)))
  clear hs hk hV hB hU hO
  go_wp2_with fail
  go_quiet (fail)
  go_wp2
  go_ret2
  exact ChoP.mk HS.out (below_drewN HB3.out _) HBST.out
end Go.Proofs.Ytibnbhjiohighaa

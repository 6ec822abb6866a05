/- A break is taken away, and its event cancelled: the program. -/
import Derived.Test.YtaknkldbdijkeaaDelG
import Derived.Test.YtaknkldbdijkeaaOnl
import Derived.Deep.RegionLaw
import Derived.Deep.Upon
import Derived.StillTailTactics
namespace Go.Proofs.Ytaknkldbdijkeaa
open Go.RowKit

theorem Fol.map {w w1 : World} {B P M base n : Nat} {G : List Evn} {can can2 : Int → Bool} (h : Fol w B P M base n G can) (hg : w.grownBy w1 (some M)) (hm : MapR w1 M (n + 1) can2) : Fol w1 B P M base (n + 1) G can2 ∧ Below B w w1 ∧ KeepF P w w1 := by
  have hne := h.ne
  obtain ⟨h1, h2, h3, h4, h5, v, h6, h7, h8⟩ := h
  have hsz := hg.size
  have hlt := World.ownsRow.lt h7
  refine ⟨⟨h1, h2, h3, h4, by omega, v, ?_, ?_, hm⟩, (Below.refl B w).grown hg (by omega) (fun k hk => by simp only [Option.some.injEq] at hk; omega), (KeepF.refl P w).map h8.blk hg⟩
  · rw [hg.block P (lt_of_blk h6) (fun e => hne (by simpa using e))]
    exact h6
  · obtain ⟨q1, q2⟩ := h7
    refine ⟨q1, ?_⟩
    rcases q2 with q2 | ⟨g, cap, cur, rfl, q3, q4, q5⟩
    · exact Or.inl q2
    · exact Or.inr ⟨g, cap, cur, rfl, q3, by rw [hg.block g (hlt g rfl).2 (fun e => by simp only [Option.some.injEq] at e; omega)]; exact q4, q5⟩

theorem Fol.blkP {w : World} {B P M base n : Nat} {G : List Evn} {can : Int → Bool} (h : Fol w B P M base n G can) : ∃ v, w.heap[P]? = some (.cells #[v, .map (some M)] 57 (0, 0)) := by
  obtain ⟨h1, h2, h3, h4, h5, v, h6, h7, h8⟩ := h
  exact ⟨v, h6⟩
theorem free_bl {w : World} {b i : Nat} {c : Array Value} {T : TypeId} (h : w.heap[b]? = some (.cells c T (0, 0))) : w.frozen? ⟨b, i, none⟩ = false := by simp [World.frozen?, h]
set_option maxRecDepth 100000 in
set_option maxHeartbeats 4000000 in
theorem frem_any (w : World) (B P M base n : Nat) (G : List Evn) (can : Int → Bool) (j : Nat) (g : Evn) (h : Fol w B P M base n G can) (hj : G[j]? = some g) (hn : n < maxLen) (hid : 0 ≤ g.id ∧ g.id ≤ 4294967295) :
    Calls Try.prog 37 #[.pointer (some ⟨P, 0, none⟩), .int .i64 j] w (FolPost w B P M base (n + 1) (G.eraseIdx j) (fun d => (d == g.id) || can d) (.returned (.tuple #[]))) := by
  have HF := Lib.hid h
  obtain ⟨hBP, hBM, hPb, hMb, hbs, v, hblk, hown, hmap⟩ := h
  have hjl : j < G.length := (List.getElem?_eq_some_iff.1 hj).1
  have hjz : (j : Int) < (G.length : Int) := by omega
  have hPlt := lt_of_blk hblk
  have hne : G ≠ [] := fun e => by rw [e] at hj; simp at hj
  obtain ⟨gb, cap, rfl, hg1, hg2, hg3, hg4, hgc, hgf⟩ := Own.getk encG_len hown hne
  unfold maxLen at hg4
  have c0 : w.cell? ⟨gb, j * 4, none⟩ = some (.int .i64 g.id) := by have h := hgc _ g 0 _ hj rfl; simpa using h
  have hwf : (Lit.int .i64 g.id).wf = true := by simp [Lit.wf]; exact ⟨by show (-9223372036854775808 : Int) ≤ _; omega, by omega⟩
  have hP0 : w.cell? ⟨P, 0, none⟩ = some (.slice (some ⟨gb, 0, none⟩) G.length cap) := (cell_of_block hblk).trans rfl
  have hP1 : w.cell? ⟨P, 1, none⟩ = some (.map (some M)) := (cell_of_block hblk).trans rfl
  obtain ⟨w1, hr, hm1, hg1'⟩ := MapR.put (w := w.drew) (hmap.same rfl) hn g.id hwf
  have hFD : Fol w.drew B P M base n G can := HF.out.below ((Below.refl _ w).drew)
  obtain ⟨q1, q2, q3⟩ := hFD.map hg1' hm1
  have HF1 := Lib.hid q1
  have HB1 := Lib.hid (((Below.refl B w).drew).trans q2)
  have HK1 := Lib.hid (((KeepF.refl P w).below ((Below.refl _ w).drew)).trans q3)
  have p0 : w1.cell? ⟨P, 0, none⟩ = some (.slice (some ⟨gb, 0, none⟩) G.length cap) := by
    have h1 := q3 P
    obtain ⟨_, _, _, _, _, v1, hb1, ho1, _⟩ := q1
    have e := hg1'.block P hPlt (fun e => HF.out.ne (by simpa using e))
    have e2 : w1.heap[P]? = w.heap[P]? := e
    rw [cell_of_block (e2.trans hblk)]; rfl
  have hDL := delG_any w1 base G (.slice (some ⟨gb, 0, none⟩) G.length cap) (by
    obtain ⟨_, _, _, _, _, v1, hb1, ho1, _⟩ := q1
    have e := hg1'.block P hPlt (fun e => HF.out.ne (by simpa using e))
    have e2 : w1.heap[P]? = w.heap[P]? := e
    have e3 := (e2.trans hblk).symm.trans hb1
    simp at e3
    rw [e3]; exact ho1) j hjl
  have HDL := Lib.hid hDL
  clear hm1 hg1' q1 q2 q3 hFD hDL
  have hHJ := Lib.hid hj
  clear hgc hown hj hmap hblk
  go_enter Try.func37, Try.ntmps37
  go_upto_region 0 with (fail)
  go_still_tail 12, (by kernel_rfl)
  change wpList _ _ _ _ _ w.drew
  go_wp2_with (go_at_call 42; refine HDL.out.mono ?_; rintro e w2 ⟨v2, rfl, ho2, hb2, hk2⟩; obtain ⟨a2, L2, cp2, rfl⟩ := Own.slv encG_len ho2; have HR := Lib.hid (HF1.out.push hb2 hk2 ho2); obtain ⟨v1, hbk1⟩ := HF1.out.blkP; have hbk2 := hk2 _ _ _ _ hbk1 (by decide); have d0 := (cell_of_block (i := 0) hbk2).trans rfl; have e0 := free_bl (i := 0) hbk2; clear ho2 hb2 hk2 hbk1 hbk2)
  go_end0
  obtain ⟨r1, r2, r3⟩ := HR.out
  exact FolPost.mk rfl r1 (HB1.out.trans r2) (HK1.out.trans r3)
end Go.Proofs.Ytaknkldbdijkeaa

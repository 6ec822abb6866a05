/- An entry that is laid in a map is read as before until it is filled. -/
import Derived.Test.YthpjgongplffnaaMapV
import Derived.Test.YthpjgongplffnaaCntL
import Derived.Test.YthpjgongplffnaaBitK
namespace Go.Proofs.Ythpjgongplffnaa
open Go.RowKit Go.ChangeMaps Go.MapKept
open Go.Maps (Keyed IsMap)
variable {w w' : World} {b n : Nat} {f : Vk → Int}
/-- An entry is laid at a key, read, and filled. -/
theorem MapK.entryL {ks : List Vk} (h : MapK w b n f ks) (hn : n < maxLen) (k : Vk) (hk : FitK k) (x : Int) (hx : (Lit.int .i64 x).wf = true) :
    ∃ v0 st w1 w2, (Instr.mapEntry 52 (.map (some b)) (keyV k)).run Try.prog w = .ok (.tuple #[v0, .int .i64 st]) w1 ∧
      (Instr.lookup 52 (.map (some b)) (keyV k) false).run Try.prog w1 = .ok (.int .i64 (f k)) w1 ∧
      (Instr.entryStore 52 (.map (some b)) (.int .i64 st) (.int .i64 x)).run Try.prog w1 = .ok () w2 ∧ MapK w2 b (n + 1) (fun d => if d = k then x else f d) (if k ∈ ks then ks else ks ++ [k]) ∧ w.grownBy w1 (some b) ∧ w.grownBy w2 (some b) := by
  have h0 := h
  obtain ⟨v0, st, w1, w2, r1, r2, r3, r4, r5⟩ := h.entry hn k hk x hx
  refine ⟨v0, st, w1, w2, r1, ?_, r2, r3, r4, r5⟩
  have hlk := h0.mapV.look k hk
  obtain ⟨g1, g2, D, h1, h2, h3, g3⟩ := h
  obtain ⟨es, cl, hb, F, hs, hD⟩ := id h1
  have ht := Try.underlying52
  rcases lawV.find w (keyOf_V hk) es.toList F.keys with ⟨q1, q2⟩ | ⟨j, e0, q1, q2, q3⟩
  · have hl2 : (Instr.lookup 52 (.map (some b)) (keyV k) false).run Try.prog w = .ok (.int .i64 0) w := by
      simp [Instr.lookup, run_underlying ht, MapKept.run_getObj_map hb, lawV.check w _ (keyOf_V hk), q1, Result.andThen]
    rw [hlk] at hl2
    have hf : f k = 0 := by simpa using hl2
    obtain ⟨w', hr, ho, hg⟩ := h1.update keyedV ht hn (key := keyV k) (val := .int .i64 0) (keyOf_V hk) (plainElem_int Try.underlying3 (by decide))
    have e1 : (Instr.mapEntry 52 (.map (some b)) (keyV k)).run Try.prog w = .ok (.tuple #[.int .i64 0, goInt cl]) (setBlock w b (.map (es.push ⟨keyV k, .int .i64 0, cl⟩) (cl + 1))) := by
      simp [Instr.mapEntry, run_underlying ht, MapKept.run_getObj_map hb, lawV.check w _ (keyOf_V hk), q1, MapKept.run_setObj_map _ hb, Result.andThen, setBlock]
    have e2 : (Instr.mapUpdate 52 (.map (some b)) (keyV k) (.int .i64 0)).run Try.prog w = .ok () (setBlock w b (.map (es.push ⟨keyV k, .int .i64 0, cl⟩) (cl + 1))) := by
      simp [Instr.mapUpdate, run_underlying ht, MapKept.run_getObj_map hb, lawV.check w _ (keyOf_V hk), q1, MapKept.run_setObj_map _ hb, Result.andThen, setBlock]
    rw [r1] at e1
    rw [hr] at e2
    simp only [Result.ok.injEq] at e1 e2
    obtain ⟨_, rfl⟩ := e1
    obtain ⟨_, rfl⟩ := e2
    have hm : MapV (setBlock w b (.map (es.push ⟨keyV k, .int .i64 0, cl⟩) (cl + 1))) b (n + 1) f := by
      refine ⟨_, ho, h2.put _ _, fun d hd => ?_⟩
      by_cases e : d = k
      · subst e
        rw [Go.Maps.atKey_put_same h2 (by trivial), hf]
      · rw [Go.Maps.atKey_put_other (fun h => e (klit_inj hd hk (by first | exact h | exact h.symm))), h3 d hd]
    exact hm.look k hk
  · have hj : es[j]? = some e0 := by simpa using q2
    have hsame : es.modify j (fun e => { e with key := keyV k }) = es := by
      apply Array.ext'
      rw [Array.toList_modify, Go.ChangeMaps.modify_eq_set _ _ _ _ q2]
      have : ({ e0 with key := keyV k } : MapEntry) = e0 := by rw [← q3]
      rw [this]
      exact Go.WideElems.set_self _ _ _ q2
    have e1 : (Instr.mapEntry 52 (.map (some b)) (keyV k)).run Try.prog w = .ok (.tuple #[e0.val, goInt e0.born]) (setBlock w b (.map es cl)) := by
      simp [Instr.mapEntry, run_underlying ht, MapKept.run_getObj_map hb, lawV.check w _ (keyOf_V hk), q1, hj, q3, lawV.stays w (keyOf_V hk), hsame, MapKept.run_setObj_map _ hb, Result.andThen, setBlock]
    rw [r1] at e1
    simp only [Result.ok.injEq] at e1
    obtain ⟨_, rfl⟩ := e1
    have hm : MapV (setBlock w b (.map es cl)) b n f := h0.mapV.same (by rw [heap_setBlock_same hb, hb])
    exact hm.look k hk
theorem bitsG_snoc (G : List Ev) (x : Ev) (q : Nat) (hq : q < 5) (hki : x.ki = (q : Int) + 1) :
    (fun d => if d = keyE x then bits BinOp.or IntKind.i64 (bitsG G (keyE x)) (wrap64 (2 ^ q)) else bitsG G d) = bitsG (G ++ [x]) := by
  funext d
  have hE : ∀ k : Int, isE d.se d.pl k x = (decide (d = keyE x) && decide (x.ki = k)) := fun k => by
    rw [Bool.eq_iff_iff, isE_iff, Bool.and_eq_true, decide_eq_true_eq, decide_eq_true_eq]
    constructor
    · rintro ⟨h, h2⟩; exact ⟨h.symm, h2⟩
    · rintro ⟨h, h2⟩; exact ⟨h.symm, h2⟩
  show _ = bitsG (G ++ [x]) d
  by_cases h : d = keyE x
  · subst h
    rw [if_pos rfl]
    unfold bitsG
    rw [or5 _ _ _ _ _ q hq]
    have e : ∀ k : Int, toldL (G ++ [x]) (keyE x).se (keyE x).pl k = (toldL G (keyE x).se (keyE x).pl k || decide (x.ki = k)) := fun k => by
      rw [toldL_snoc, hE, decide_eq_true rfl, Bool.true_and]
    rw [e, e, e, e, e]
    have hc : ∀ j : Nat, (q == j) = decide (x.ki = (j : Int) + 1) := fun j => by
      rw [Bool.eq_iff_iff, beq_iff_eq, decide_eq_true_eq]
      omega
    rw [hc 0, hc 1, hc 2, hc 3, hc 4]
    rfl
  · rw [if_neg h]
    unfold bitsG
    have e : ∀ k : Int, toldL (G ++ [x]) d.se d.pl k = toldL G d.se d.pl k := fun k => by
      rw [toldL_snoc, hE, decide_eq_false h, Bool.false_and, Bool.or_false]
    rw [e, e, e, e, e]
theorem or5_wf : ∀ (a b c d e : Bool) (q : Nat), q < 5 → (Lit.int .i64 (bits BinOp.or IntKind.i64 (bits5 a b c d e) (wrap64 (2 ^ q)))).wf = true := by
  intro a b c d e q hq
  have h : q = 0 ∨ q = 1 ∨ q = 2 ∨ q = 3 ∨ q = 4 := by omega
  rcases h with rfl | rfl | rfl | rfl | rfl <;> cases a <;> cases b <;> cases c <;> cases d <;> cases e <;> decide +kernel
theorem bits_or_wf {G : List Ev} {v : Vk} {q : Nat} (hq : q < 5) : (Lit.int .i64 (bits BinOp.or IntKind.i64 (bitsG G v) (wrap64 (2 ^ q)))).wf = true := or5_wf _ _ _ _ _ q hq
theorem bits5_shr : ∀ (a b c d e : Bool) (q : Nat), q < 5 → (bits BinOp.and IntKind.i64 (bits5 a b c d e / 2 ^ q) 1 == 1) = [a, b, c, d, e].getD q false := by
  intro a b c d e q hq
  have h : q = 0 ∨ q = 1 ∨ q = 2 ∨ q = 3 ∨ q = 4 := by omega
  rcases h with rfl | rfl | rfl | rfl | rfl <;> cases a <;> cases b <;> cases c <;> cases d <;> cases e <;> decide +kernel
theorem bitsG_shr (G : List Ev) (v : Vk) (n : Nat) (hn : n < 5) : (bits BinOp.and IntKind.i64 (bitsG G v / 2 ^ n) 1 == 1) = toldL G v.se v.pl ((n : Int) + 1) := by
  unfold bitsG
  rw [bits5_shr _ _ _ _ _ n hn]
  have h : n = 0 ∨ n = 1 ∨ n = 2 ∨ n = 3 ∨ n = 4 := by omega
  rcases h with rfl | rfl | rfl | rfl | rfl <;> rfl
end Go.Proofs.Ythpjgongplffnaa

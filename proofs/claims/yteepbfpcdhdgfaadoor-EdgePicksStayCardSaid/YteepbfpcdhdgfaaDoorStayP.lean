/- EdgePicksStay holds: if a cache is taken away, just those keys move whose first one it was. No condition. -/
import Derived.Test.YteepbfpcdhdgfaaDoorRows
import Derived.Test.YteepbfpcdhdgfaaDoorOpenY
import Derived.Test.YteepbfpcdhdgfaaDoorStyW
import Derived.Test.YteepbfpcdhdgfaaDoorCards
import Derived.Test.YteepbfpcdhdgfaaDoorTie
import Derived.Deep.DeepHandedRow
import Derived.LaidMore
import Derived.Lay
import Derived.SevenTiedAt
import Derived.Stop.Joined
import Derived.Shelf.Vars
import Derived.ProofKit
import Derived.OpenShut
namespace Go.Proofs.YteepbfpcdhdgfaaDoor.lawStay
open Go.ChangeShapes Go.WideShapes Go.ChangeAt Go.RowKit Go.Shelf
open Go.ChangeMaps (open_string shut_string)
set_option linter.unusedVariables false

theorem own : ownKnob Tryd.prog.godebug = none := by kernel_rfl
theorem laidOut : laidOutB Tryd.prog = true := by kernel_rfl

set_option maxRecDepth 100000 in
theorem wit (os : Os) (H : Type) (enc : TypeId × Value → H) : ∃ (w : World) (tape : Tape) (i : Input), w.os = os ∧ (w.forCall tape i).Shaped Tryd.checked.prog ∧ i.vars = [] ∧ Input.okWide Tryd.checked.prog (w.forCall tape i) .any w.heap.size 3 i ∧
      (OpenSpec.ofChange Rows.edgePicksStaySpec).preRow enc Tryd.checked.prog Tryd.f3 Rows.edgePicksStayRow.domain false Rows.edgePicksStayRow.laid (w.forCall tape i).memory i.args ∧ ({} : Assume).holds Tryd.checked.prog (lone (Frame.enter Tryd.checked.prog 3 i.args .normal) [] (w.forCall tape i)) :=
  ChangeSpec.witness_shaped (enc := enc) (C := Tryd.checked) (os := os) (s := Rows.edgePicksStaySpec) (fn := Tryd.f3) (X := fun w _ => laidMetH Tryd.prog Rows.edgePicksStayRow.laid w) false (World.laidAll Tryd.prog os Rows.edgePicksStayRow.laid) #[.slice none 0 0, .int .i64 0, .slice none 0 0] 8 (World.laidAll_os _ _ _)
      (World.shaped_of_ZipB (by kernel_rfl) (by kernel_rfl)) (by kernel_rfl) (by kernel_rfl) (by kernel_rfl)
      (by rw [MakeChecks.laidMetH_plain _ _ _ (by kernel_rfl)]; exact laidMet_laidAll _ (by kernel_rfl) (by kernel_rfl))

set_option maxRecDepth 100000 in
theorem lifted (os : Os) (started : os.Started) (H : Type) (enc : TypeId × Value → H) (F : Stop.Interp) :
    ReturnsInHanded {} Tryd.checked os 3 .any ((OpenSpec.ofChange Rows.edgePicksStaySpec).preRow enc Tryd.prog Tryd.f3 Rows.edgePicksStayRow.domain false Rows.edgePicksStayRow.laid) (((OpenSpec.ofChange Rows.edgePicksStaySpec).at F).post enc Tryd.prog Tryd.f3 false true false false) := by
  refine returnsInHanded_of_row (C := Tryd.checked) (s := OpenSpec.ofChange Rows.edgePicksStaySpec) own started (by kernel_rfl) Tryd.func3 (wit os H enc) ?_
  intro W base args ds gs before hval0 hW hcnd _ hsz0 hL hsh _
  obtain ⟨mM, hmM⟩ := cell_of_shapedOpen_int (P := Tryd.prog) (g := 0) (t := 3) (zero := #[.int .i64 0]) hsh (of_decide_eq_true (by kernel_rfl)) (by kernel_rfl) rfl (by kernel_rfl) (by kernel_rfl) Tryd.underlying3
  have hval : ∀ (j : Nat) t v, Tryd.f3.params[j]? = some t → args[j]? = some v → Value.okWide Tryd.prog W .any base t v := hval0
  have hW' := hW
  obtain ⟨p, q, hA0, hV, rfl, hfz, hnd⟩ := hW
  have hA : DataW.TrodAll enc Tryd.prog W 0 (fun _ => true) true Tryd.f3.params.toList args.toList ds p := hA0
  have hsz : (DataW.weightsEach Tryd.prog (Tryd.f3.params.toList ++ Rows.edgePicksStaySpec.plain.varTypes Tryd.prog) (ds ++ gs)).all (· ≤ reachBytes) = true := hsz0
  rw [Tryd.params3] at hA hval hsz
  obtain ⟨v0, vs0, d0, ds0, p0, q0, hargs, rfl, rfl, h0, r0⟩ := trodAll_cons hA
  obtain ⟨v1, vs1, d1, ds1, p1, q1, rfl, rfl, rfl, h1, r1⟩ := trodAll_cons r0
  obtain ⟨v2, vs2, d2, ds2, p2, q2, rfl, rfl, rfl, h2, r2⟩ := trodAll_cons r1
  obtain ⟨rfl, rfl, rfl⟩ := trodAll_nil r2
  obtain rfl : args = #[v0, v1, v2] := by cases args; simp_all
  obtain ⟨rfl, rfl⟩ := trodVars_none hV
  obtain ⟨a0, len0, cap0, rfl⟩ := okWide_slice Tryd.underlying22 (hval 0 22 v0 rfl rfl)
  have k0 := h0
  have lt0 : ∀ x ∈ p0, x.block < W.heap.size := by obtain ⟨m, hm⟩ := k0; exact DataW.trod_lt m _ _ _ hm
  obtain ⟨l0, s0, wf0, ln0, dd0⟩ := sl_open Tryd.underlying22 cellsY (by decide) (decY W) h0
  have r0' := sl_reach hsz (j := 0) (len := l0.length) (by obtain ⟨_, _, e, hh, _⟩ := s0; simp only [Value.slice.injEq] at e; omega) rfl rfl Tryd.underlying22 dd0
  obtain ⟨n1, rfl, rfl, rfl, w1⟩ := open_int Tryd.underlying3 (hval 1 3 v1 rfl rfl) h1
  obtain ⟨a2, len2, cap2, rfl⟩ := okWide_slice Tryd.underlying22 (hval 2 22 v2 rfl rfl)
  have k2 := h2
  have lt2 : ∀ x ∈ p2, x.block < W.heap.size := by obtain ⟨m, hm⟩ := k2; exact DataW.trod_lt m _ _ _ hm
  obtain ⟨l2, s2, wf2, ln2, dd2⟩ := sl_open Tryd.underlying22 cellsY (by decide) (decY W) h2
  have r2' := sl_reach hsz (j := 2) (len := l2.length) (by obtain ⟨_, _, e, hh, _⟩ := s2; simp only [Value.slice.injEq] at e; omega) rfl rfl Tryd.underlying22 dd2
  clear hA0 hval0 hsz0
  have hb16 : Tryd.prog.bytesOf 9 = 16 := by kernel_rfl
  rw [hb16] at r0'
  have hn1 : -9223372036854775808 ≤ n1 ∧ n1 ≤ 9223372036854775807 := by
    have h := w1
    simp [Lit.wf] at h
    exact ⟨h.1, by have := h.2; omega⟩
  refine (stays_any W l0 l2 _ _ n1 s0 (by omega) wf0 hn1 s2 wf2 mM hmM).mono fun e W' ⟨he, bel⟩ => ?_
  subst he
  exact ⟨_, rfl, _, _, _, [], _, [], hW', trodAll_mk1 (shut_bool Tryd.underlying4 _), (trodAll_cons_mk (Below.trod laidOut (by kernel_rfl) (of_decide_eq_true (by kernel_rfl)) k0 bel lt0) (trodAll_cons_mk (shut_int Tryd.underlying3 w1) (trodAll_cons_mk (Below.trod laidOut (by kernel_rfl) (of_decide_eq_true (by kernel_rfl)) k2 bel lt2) trodAll_mk0))), rfl, bel.frame _, fun h => by cases h⟩

theorem over : Rows.edgePicksStayRow.holds Tryd.pinned (OpenSpec.ofChange Rows.edgePicksStaySpec) :=
  OpenClaim.holds_of_cond 3 Tryd.f3 rfl rfl rfl rfl rfl rfl rfl ⟨rfl, rfl, rfl, rfl, rfl⟩ rfl rfl rfl rfl rfl (by kernel_rfl) Tryd.func3 (by kernel_rfl)
    (of_decide_eq_true (by kernel_rfl)) (by unfold Func.isWrapper; rw [if_neg (of_decide_eq_false (by kernel_rfl))]; exact ⟨rfl, rfl⟩)
    (fun os started H enc _ F => by rw [OpenClaim.pre_eq_preRow]; exact lifted os started H enc F)

theorem proved : Rows.EdgePicksStayCardSaid :=
  Claim7.holds_tied_plain_at .later [] [.data, .pinned] true (true, "2a7f2dddf9c4f9a19c24de0a2588c53b43fdd86688ac363216c068ff912ad1ce") false over (fun _ h => by cases h) (by kernel_rfl) (fun _ h => by cases h) edgePicksStay_row_tie rfl ⟨rfl, rfl⟩ (by kernel_rfl) rfl
    (fun f fn hf hfn => by
      obtain rfl : f = 3 := Option.some.inj ((show Tryd.prog.funcNamed "headend/headendlaw10.EdgePicksStay" = some 3 by kernel_rfl).symm.trans hf) |>.symm
      obtain rfl : fn = Tryd.f3 := (Option.some.inj (Tryd.func3.symm.trans hfn)).symm
      exact ⟨by kernel_rfl, fun j t ht => by
        rw [Tryd.params3] at ht
        have hm : t ∈ [22, 3, 22] := by simpa using Array.mem_of_getElem? ht
        have hall : ([22, 3, 22].all fun u => !Tryd.prog.wantsStandIn u) = true := by kernel_rfl
        exact (show Tryd.prog.wantsStandIn t = false by simpa using List.all_eq_true.1 hall t hm)⟩)
    (by kernel_rfl)
#print axioms proved
end Go.Proofs.YteepbfpcdhdgfaaDoor.lawStay


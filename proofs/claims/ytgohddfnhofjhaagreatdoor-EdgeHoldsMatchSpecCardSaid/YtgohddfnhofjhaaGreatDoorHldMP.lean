/- EdgeHoldsMatchSpec holds: Holds is as specified, with all errors. No condition. -/
import Derived.Test.YtgohddfnhofjhaaGreatDoorK03
import Derived.Test.YtgohddfnhofjhaaGreatDoorK04
import Derived.Test.YtgohddfnhofjhaaGreatDoorK33
import Derived.Test.YtgohddfnhofjhaaGreatDoorRows
import Derived.Test.YtgohddfnhofjhaaGreatDoorCards
import Derived.Test.YtgohddfnhofjhaaGreatDoorTie
import Derived.Deep.DeepHandedRow
import Derived.LaidMore
import Derived.Lay
import Derived.SevenTiedAt
import Derived.Stop.Joined
import Derived.Shelf.Vars
import Derived.ProofKit
import Derived.OpenShut
import Derived.Test.YtgohddfnhofjhaaGreatDoorK01
set_option maxRecDepth 100000
namespace Go.Proofs.YtgohddfnhofjhaaGreatDoor.lawHoldsM
open Go.ChangeShapes Go.WideShapes Go.ChangeAt Go.RowKit Go.Shelf
open Go.ChangeMaps (open_string shut_string)
set_option linter.unusedVariables false
theorem own : ownKnob Tryz.prog.godebug = none := by kernel_rfl
theorem laidOut : laidOutB Tryz.prog = true := by kernel_rfl
theorem wit (os : Os) (H : Type) (enc : TypeId × Value → H) : ∃ (w : World) (tape : Tape) (i : Input), w.os = os ∧ (w.forCall tape i).Shaped Tryz.checked.prog ∧ i.vars = [] ∧ Input.okWide Tryz.checked.prog (w.forCall tape i) .any w.heap.size 9 i ∧
      (OpenSpec.ofChange Rows.edgeHoldsMatchSpecSpec).preRow enc Tryz.checked.prog Tryz.f9 Rows.edgeHoldsMatchSpecRow.domain false Rows.edgeHoldsMatchSpecRow.laid (w.forCall tape i).memory i.args ∧ ({} : Assume).holds Tryz.checked.prog (lone (Frame.enter Tryz.checked.prog 9 i.args .normal) [] (w.forCall tape i)) :=
 ChangeSpec.witness_shaped (enc := enc) (C := Tryz.checked) (os := os) (s := Rows.edgeHoldsMatchSpecSpec) (fn := Tryz.f9) (X := fun w _ => laidMetH Tryz.prog Rows.edgeHoldsMatchSpecRow.laid w) false (World.laidAll Tryz.prog os Rows.edgeHoldsMatchSpecRow.laid) #[KN, .slice none 0 0, .string ByteArray.empty, .int .i64 0] 8 (World.laidAll_os _ _ _)
  (World.shaped_of_ZipB (by kernel_rfl) (by kernel_rfl)) (by kernel_rfl) (by kernel_rfl) (by kernel_rfl)
  (by rw [MakeChecks.laidMetH_plain _ _ _ (by kernel_rfl)]; exact laidMet_laidAll _ (by kernel_rfl) (by kernel_rfl))
theorem lifted (os : Os) (started : os.Started) (H : Type) (enc : TypeId × Value → H) (F : Stop.Interp) :
 ReturnsInHanded {} Tryz.checked os 9 .any ((OpenSpec.ofChange Rows.edgeHoldsMatchSpecSpec).preRow enc Tryz.prog Tryz.f9 Rows.edgeHoldsMatchSpecRow.domain false Rows.edgeHoldsMatchSpecRow.laid) (((OpenSpec.ofChange Rows.edgeHoldsMatchSpecSpec).at F).post enc Tryz.prog Tryz.f9 false true false false) := by
 refine returnsInHanded_of_row (C := Tryz.checked) (s := OpenSpec.ofChange Rows.edgeHoldsMatchSpecSpec) own started (by kernel_rfl) Tryz.func9 (wit os H enc) ?_; intro W base args ds gs before hval0 hW hcnd _ hsz0 hL hsh _; obtain ⟨mM, hmM⟩ := cell_of_shapedOpen_int (P := Tryz.prog) (g := 0) (t := 3) (zero := #[.int .i64 0]) hsh (of_decide_eq_true (by kernel_rfl)) (by kernel_rfl) rfl (by kernel_rfl) (by kernel_rfl) Tryz.underlying3; have hval : ∀ (j : Nat) t v, Tryz.f9.params[j]? = some t → args[j]? = some v → Value.okWide Tryz.prog W .any base t v := hval0; have hW' := hW; obtain ⟨p, q, hA0, hV, rfl, hfz, hnd⟩ := hW; have hA : DataW.TrodAll enc Tryz.prog W 0 (fun _ => true) true Tryz.f9.params.toList args.toList ds p := hA0; have hsz : (DataW.weightsEach Tryz.prog (Tryz.f9.params.toList ++ Rows.edgeHoldsMatchSpecSpec.plain.varTypes Tryz.prog) (ds ++ gs)).all (· ≤ reachBytes) = true := hsz0; rw [Tryz.params9] at hA hval hsz; obtain ⟨v0, vs0, d0, ds0, p0, q0, hargs, rfl, rfl, h0, r0⟩ := trodAll_cons hA; obtain ⟨v1, vs1, d1, ds1, p1, q1, rfl, rfl, rfl, h1, r1⟩ := trodAll_cons r0; obtain ⟨v2, vs2, d2, ds2, p2, q2, rfl, rfl, rfl, h2, r2⟩ := trodAll_cons r1; obtain ⟨v3, vs3, d3, ds3, p3, q3, rfl, rfl, rfl, h3, r3⟩ := trodAll_cons r2
 obtain ⟨rfl, rfl, rfl⟩ := trodAll_nil r3; obtain rfl : args = #[v0, v1, v2, v3] := by cases args; simp_all
 obtain ⟨rfl, rfl⟩ := trodVars_none hV; have k0 := h0; have lt0 : ∀ x ∈ p0, x.block < W.heap.size := by obtain ⟨m, hm⟩ := k0; exact DataW.trod_lt m _ _ _ hm
 obtain ⟨y0, e0, wf0⟩ := JA W v0 d0 p0 (hval 0 27 v0 rfl rfl) h0; subst e0; obtain ⟨a1, len1, cap1, rfl⟩ := okWide_slice Tryz.underlying28 (hval 1 28 v1 rfl rfl); have k1 := h1; have lt1 : ∀ x ∈ p1, x.block < W.heap.size := by obtain ⟨m, hm⟩ := k1; exact DataW.trod_lt m _ _ _ hm
 obtain ⟨l1, s1, wf1, ln1, dd1⟩ := AU Tryz.underlying28 F7 (by decide) (KW W) h1; have r1' := Eg hsz (j := 1) (len := l1.length) (by obtain ⟨_, _, e, hh, _⟩ := s1; simp only [Value.slice.injEq] at e; omega) rfl rfl Tryz.underlying28 dd1; obtain ⟨n2, rfl, rfl, rfl, w2⟩ := open_string Tryz.underlying9 (hval 2 9 v2 rfl rfl) h2; obtain ⟨n3, rfl, rfl, rfl, w3⟩ := open_int Tryz.underlying3 (hval 3 3 v3 rfl rfl) h3; clear hA0 hval0 hsz0; refine (o8 W y0.c y0.r y0.e y0.l l1 _ _ _ _ _ n2 n3 ⟨wf0.sc, wf0.sr, wf0.se, wf0.sp, s1⟩ ⟨wf0.wc, wf0.wr, wf0.we, wf0.wp, wf1⟩ mM hmM).mono fun e W' ⟨he, bel⟩ => ?_
 subst he; exact ⟨_, rfl, _, _, _, [], _, [], hW', trodAll_mk1 (shut_bool Tryz.underlying4 _), (trodAll_cons_mk (Below.trod laidOut (by kernel_rfl) (of_decide_eq_true (by kernel_rfl)) k0 bel lt0) (trodAll_cons_mk (Below.trod laidOut (by kernel_rfl) (of_decide_eq_true (by kernel_rfl)) k1 bel lt1) (trodAll_cons_mk (shut_string Tryz.underlying9 w2) (trodAll_cons_mk (shut_int Tryz.underlying3 w3) trodAll_mk0)))), rfl, bel.frame _, fun h => by cases h⟩
theorem over : Rows.edgeHoldsMatchSpecRow.holds Tryz.pinned (OpenSpec.ofChange Rows.edgeHoldsMatchSpecSpec) :=
 OpenClaim.holds_of_cond 9 Tryz.f9 rfl rfl rfl rfl rfl rfl rfl ⟨rfl, rfl, rfl, rfl, rfl⟩ rfl rfl rfl rfl rfl (by kernel_rfl) Tryz.func9 (by kernel_rfl)
  (of_decide_eq_true (by kernel_rfl)) (by unfold Func.isWrapper; rw [if_neg (of_decide_eq_false (by kernel_rfl))]; exact ⟨rfl, rfl⟩)
  (fun os started H enc _ F => by rw [OpenClaim.pre_eq_preRow]; exact lifted os started H enc F)
theorem proved : Rows.EdgeHoldsMatchSpecCardSaid :=
 Claim7.holds_tied_plain_at .later [] [.data, .pinned] true (true, "4f73bc97ccb0c7732e381e82b4b386f4e0e0f98fe33e6cbddd5397fda8e6a372") true over (fun _ h => by cases h) (by kernel_rfl) (fun _ h => by cases h) edgeHoldsMatchSpec_row_tie rfl ⟨rfl, rfl⟩ (by kernel_rfl) rfl
  (fun f fn hf hfn => by
    obtain rfl : f = 9 := Option.some.inj ((show Tryz.prog.funcNamed "headend/headendlaw10.EdgeHoldsMatchSpec" = some 9 by kernel_rfl).symm.trans hf) |>.symm; obtain rfl : fn = Tryz.f9 := (Option.some.inj (Tryz.func9.symm.trans hfn)).symm; exact ⟨by kernel_rfl, fun j t ht => by
     rw [Tryz.params9] at ht; have hm : t ∈ [27, 28, 9, 3] := by simpa using Array.mem_of_getElem? ht
     have hall : ([27, 28, 9, 3].all fun u => !Tryz.prog.wantsStandIn u) = true := by kernel_rfl
     exact (show Tryz.prog.wantsStandIn t = false by simpa using List.all_eq_true.1 hall t hm)⟩)
  (by kernel_rfl)
#print axioms proved
end Go.Proofs.YtgohddfnhofjhaaGreatDoor.lawHoldsM

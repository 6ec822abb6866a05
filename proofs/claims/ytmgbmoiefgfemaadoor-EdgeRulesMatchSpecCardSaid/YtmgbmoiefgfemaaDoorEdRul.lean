/- The law of rules and releases. -/
import Derived.Test.YtmgbmoiefgfemaaDoorRulA
import Derived.Test.YtmgbmoiefgfemaaDoorVerA
import Derived.Test.YtmgbmoiefgfemaaDoorNor1
namespace Go.Proofs.YtmgbmoiefgfemaaDoor
open Go.RowKit

set_option maxRecDepth 100000 in
set_option maxHeartbeats 4000000 in
theorem rules_any (w : World) (l : List Crl) (u : Value) (r : List Rel) (v : Value) (k : ByteArray) (t : Int) (hl : Sl w 4 encU u l) (hw : ∀ x, x ∈ l → WfU x) (hr : Sl w 4 encL v r) (hx : ∀ x, x ∈ r → WfL x) (hk : k.size ≤ maxLen) (m : Int) (hm : w.cell? ⟨0, 0, none⟩ = some (.int .i64 m)) :
    Calls Tryd.prog 3 #[u, v, .string k, .int .i64 t] w fun e w' => e = .returned (.bool true) ∧ Below w.heap.size w w' := by
  unfold maxLen at hk
  have h0 := World.block_lt_of_cell? w _ hm
  have HRO := Lib.hid (fun (W : World) (h : Below w.heap.size w W) => RuleOf_any W l u k (hl.below h (Nat.le_refl _)) hw (by omega))
  have HRR := Lib.hid (fun (W : World) (h : Below w.heap.size w W) => RuleOfR_any W l u k (hl.below h (Nat.le_refl _)) hw (by omega))
  have HVO := Lib.hid (fun (W : World) (h : Below w.heap.size w W) => VersionAt_any W r v k t (hr.below h (Nat.le_refl _)) hx (by omega))
  have HVR := Lib.hid (fun (W : World) (h : Below w.heap.size w W) => VersionAtR_any W r v k t (hr.below h (Nat.le_refl _)) hx (by omega))
  have HCU := Lib.hid (fun (W : World) (h : Below w.heap.size w W) => checkU_any W l u (hl.below h (Nat.le_refl _)) hw)
  have HCR := Lib.hid (fun (W : World) (h : Below w.heap.size w W) => checkUR_any W l u (hl.below h (Nat.le_refl _)) hw)
  have HLU := Lib.hid (fun (W : World) (h : Below w.heap.size w W) => checkL_any W r v (hr.below h (Nat.le_refl _)) hx)
  have HLR := Lib.hid (fun (W : World) (h : Below w.heap.size w W) => checkLR_any W r v (hr.below h (Nat.le_refl _)) hx)
  have HAW := Lib.hid (fun (W : World) (h : Below w.heap.size w W) => awakeE_any W m ((h.cell (p := ⟨0, 0, none⟩) h0).trans hm))
  obtain ⟨X, hX⟩ : ∃ X, X = ruX l k := ⟨_, rfl⟩
  obtain ⟨B, hB⟩ : ∃ X, X = ruB l k := ⟨_, rfl⟩
  obtain ⟨F, hF⟩ : ∃ X, X = ruF l k := ⟨_, rfl⟩
  obtain ⟨Y, hY⟩ : ∃ X, X = veX r k t := ⟨_, rfl⟩
  obtain ⟨D, hD⟩ : ∃ X, X = veB r k t := ⟨_, rfl⟩
  obtain ⟨G, hG⟩ : ∃ X, X = veF r k t := ⟨_, rfl⟩
  obtain ⟨C, hC⟩ : ∃ X, X = checkU l := ⟨_, rfl⟩
  obtain ⟨E, hE⟩ : ∃ X, X = checkL r := ⟨_, rfl⟩
  rw [← hX, ← hB, ← hF] at HRO HRR
  rw [← hY, ← hD, ← hG] at HVO HVR
  rw [← hC] at HCU HCR
  rw [← hE] at HLU HLR
  clear hX hB hF hY hD hG hC hE hl hw hr hx hk hm
  go_enter Tryd.func3, Tryd.ntmps3
  go_wp2_with fail
  refine (HRO.out _ (Below.refl _ _)).mono ?_
  rintro e w1 ⟨rfl, hb1⟩
  have HB1 := Lib.hid (hb1.alloc hb1.size (.cells #[.string X.pr, .int .i64 X.li, .int .i64 X.st, .int .i64 X.go] 25))
  clear hb1
  go_wp2_with fail
  refine (HRR.out _ HB1.out).mono ?_
  rintro e w2 ⟨rfl, hb2⟩
  have hk1 : BkU (w1.alloc (.cells #[.string X.pr, .int .i64 X.li, .int .i64 X.st, .int .i64 X.go] 25)) w1.heap.size X := block_new w1 _
  have K1 := Lib.hid ((hk1.below hb2 hk1.lt).below ((Below.refl w2.heap.size w2).alloc (Nat.le_refl _) (.cells #[.string X.pr, .int .i64 X.li, .int .i64 X.st, .int .i64 X.go] 25)) (hk1.below hb2 hk1.lt).lt)
  have hk2 : BkU (w2.alloc (.cells #[.string X.pr, .int .i64 X.li, .int .i64 X.st, .int .i64 X.go] 25)) w2.heap.size X := block_new w2 _
  have K2 := Lib.hid hk2
  have hb2' := HB1.out.trans (hb2.mono HB1.out.size)
  have HB2 := Lib.hid (hb2'.alloc hb2'.size (.cells #[.string X.pr, .int .i64 X.li, .int .i64 X.st, .int .i64 X.go] 25))
  obtain ⟨g1, hg1⟩ : ∃ g, g = w1.heap.size := ⟨_, rfl⟩
  obtain ⟨g2, hg2⟩ : ∃ g, g = w2.heap.size := ⟨_, rfl⟩
  rw [← hg1] at K1 ⊢
  rw [← hg2] at K2
  have HG2 := Lib.hid hg2
  clear hk1 hk2 hb2 hb2' HB1 hg1 hg2
  go_wp2_with fail
  refine (HCU.out _ HB2.out).mono ?_
  rintro e w3 ⟨rfl, hb⟩
  have K1 := Lib.hid (K1.out.below hb K1.out.lt)
  have K2 := Lib.hid (K2.out.below hb K2.out.lt)
  have HB3 := Lib.hid (HB2.out.trans (hb.mono HB2.out.size))
  rw [← HG2.out]
  clear hb HG2
  go_wp2_with fail
  refine (HCR.out _ HB3.out).mono ?_
  rintro e w4 ⟨rfl, hb⟩
  have K1 := Lib.hid (K1.out.below hb K1.out.lt)
  have K2 := Lib.hid (K2.out.below hb K2.out.lt)
  have HB4 := Lib.hid (HB3.out.trans (hb.mono HB3.out.size))
  clear hb
  go_wp2_with fail
  refine (HLU.out _ HB4.out).mono ?_
  rintro e w5 ⟨rfl, hb⟩
  have K1 := Lib.hid (K1.out.below hb K1.out.lt)
  have K2 := Lib.hid (K2.out.below hb K2.out.lt)
  have HB5 := Lib.hid (HB4.out.trans (hb.mono HB4.out.size))
  clear hb
  go_wp2_with fail
  refine (HLR.out _ HB5.out).mono ?_
  rintro e w6 ⟨rfl, hb⟩
  have K1 := Lib.hid (K1.out.below hb K1.out.lt)
  have K2 := Lib.hid (K2.out.below hb K2.out.lt)
  have HB6 := Lib.hid (HB5.out.trans (hb.mono HB5.out.size))
  clear hb
  obtain ⟨x0, x1, x2, x3⟩ := K1.out.cells
  obtain ⟨y0, y1, y2, y3⟩ := K2.out.cells
  go_wp2_with fail
  refine (HVO.out _ HB6.out).mono ?_
  rintro e w7 ⟨rfl, hb⟩
  have HB7 := Lib.hid ((HB6.out.trans (hb.mono HB6.out.size)).alloc (HB6.out.trans (hb.mono HB6.out.size)).size (.cells #[.string Y.ke, .int .i64 Y.ti, .int .i64 Y.si, .bool Y.go] 32))
  clear hb x0 x1 x2 x3 y0 y1 y2 y3 K1 K2
  go_wp2_with fail
  refine (HVR.out _ HB7.out).mono ?_
  rintro e w8 ⟨rfl, hb2⟩
  have hk1 : BkL (w7.alloc (.cells #[.string Y.ke, .int .i64 Y.ti, .int .i64 Y.si, .bool Y.go] 32)) w7.heap.size Y := block_new w7 _
  have K1 := Lib.hid ((hk1.below hb2 hk1.lt).below ((Below.refl w8.heap.size w8).alloc (Nat.le_refl _) (.cells #[.string Y.ke, .int .i64 Y.ti, .int .i64 Y.si, .bool Y.go] 32)) (hk1.below hb2 hk1.lt).lt)
  have hk2 : BkL (w8.alloc (.cells #[.string Y.ke, .int .i64 Y.ti, .int .i64 Y.si, .bool Y.go] 32)) w8.heap.size Y := block_new w8 _
  have K2 := Lib.hid hk2
  have hb2' := HB7.out.trans (hb2.mono HB7.out.size)
  have HB8 := Lib.hid (hb2'.alloc hb2'.size (.cells #[.string Y.ke, .int .i64 Y.ti, .int .i64 Y.si, .bool Y.go] 32))
  have HA := Lib.hid (HAW.out _ HB8.out)
  clear hk1 hk2 hb2 hb2' HB7
  obtain ⟨x0, x1, x2, x3⟩ := K1.out.cells
  obtain ⟨y0, y1, y2, y3⟩ := K2.out.cells
  go_wp2_with fail
  refine HA.out.mono ?_
  rintro e w9 ⟨rfl, hb⟩
  have HB9 := Lib.hid (HB8.out.trans (hb.mono HB8.out.size))
  clear hb
  go_wp2
  go_ret
  exact ⟨rfl, HB9.out⟩
end Go.Proofs.YtmgbmoiefgfemaaDoor

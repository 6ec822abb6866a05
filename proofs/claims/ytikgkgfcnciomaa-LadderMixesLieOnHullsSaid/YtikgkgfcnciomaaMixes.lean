/- LadderMixesMatchSpec, LadderMixesLieOnHulls: the walks of the laws. -/
import Derived.Test.YtikgkgfcnciomaaMixO
import Derived.Test.YtikgkgfcnciomaaAwk5
import Derived.Laws.StructEq
namespace Go.Proofs.Ytikgkgfcnciomaa
open Go.RowKit

theorem stoodRt : Try.prog.stoodInHeld 36 = false := by kernel_rfl
theorem guardRt : Try.prog.eqGuardType Try.prog.depth 36 = false := by kernel_rfl
theorem eqlRt (x y : Int) (w : World) : (binOp .eql 36 (.agg #[.int .i64 x, .int .i64 y]) (.agg #[.int .i64 x, .int .i64 y])).run Try.prog w = .ok (.bool true) w := by
  have h1 := stoodRt
  simp [go_sem, h1]

set_option maxRecDepth 100000 in
set_option maxHeartbeats 2000000 in
theorem mixes_any (w : World) (l : List Rng) (u : Value) (r : Int) (hl : Sl w 4 encR u l) (hw : ∀ x, x ∈ l → WfR x) :
    Calls Try.prog 5 #[u, .int .i64 r] w fun e w' => e = .returned (.bool true) ∧ Below w.heap.size w w' := by
  have h1 := Lib.hid (Mixed_any w l u r hl hw)
  have h2 := Lib.hid (fun (W : World) (hb : Below w.heap.size w W) => MixedR_any W l u r (hl.below hb (Nat.le_refl _)) hw)
  unfold MxP at h1 h2
  clear hl hw
  generalize mixN l r = n1 at h1 h2
  generalize mixD l r = n2 at h1 h2
  generalize mixB l r = n3 at h1 h2
  generalize mixF l r = n4 at h1 h2
  have hg := guardRt
  have eq1 := eqlRt n1 n2
  cases n3
  all_goals
    go_enter Try.func5, Try.ntmps5
    go_wp2_with fail
    refine h1.out.mono ?_
    rintro e w1 ⟨rfl, hb1⟩
    have HB1 := Lib.hid (hb1.alloc hb1.size (.cells #[.int .i64 n1, .int .i64 n2] 36))
    have HK1 := Lib.hid (block_new w1 (.cells #[.int .i64 n1, .int .i64 n2] 36))
    have hz1 := hb1.size
    clear hb1 h1
    go_wp2_with fail
    refine (h2.out _ HB1.out).mono ?_
    rintro e w2 ⟨rfl, hb2⟩
    have hk2 := (hb2.block w1.heap.size (by simp)).trans HK1.out
    have hl2 := lt_of_block hk2
    have c0 := (cell_of_block (i := 0) hk2).trans rfl
    have c1 := (cell_of_block (i := 1) hk2).trans rfl
    have HB2 := Lib.hid ((HB1.out.thru hb2).alloc (by have := hb2.size; simp at this; omega) (.cells #[.int .i64 n1, .int .i64 n2] 36))
    clear hb2 hk2 h2
    go_wp2_with fail
    refine (awake5_any _).mono ?_
    rintro e w3 ⟨rfl, hb⟩
    go_wp2
    go_ret
    exact ⟨rfl, HB2.out.thru hb⟩

set_option maxRecDepth 100000 in
set_option maxHeartbeats 2000000 in
theorem mixOn_any (w : World) (l : List Rng) (u : Value) (r : Int) (hl : Sl w 4 encR u l) (hw : ∀ x, x ∈ l → WfR x) :
    Calls Try.prog 6 #[u, .int .i64 r] w fun e w' => e = .returned (.bool true) ∧ Below w.heap.size w w' := by
  have h1 := Lib.hid (Mixed_any w l u r hl hw)
  have h2 := Lib.hid (fun (W : World) (hb : Below w.heap.size w W) => Hull_any W l u (hl.below hb (Nat.le_refl _)) hw)
  have h3 := Lib.hid (fun (W : World) (v : Value) (hb : Below w.heap.size w W) (hh : Sl W 1 encI v (zL (refN l l.length))) (hf : mixF l r = 0) => onHull_any W l u v r (hl.below hb (Nat.le_refl _)) hh hf)
  have HV : Hid (hulR l = if checkR l = 0 then zL (refN l l.length) else []) := Lib.hid (by
    unfold hulR
    split
    · rename_i h; rw [hulN_ref h]
    · rfl)
  have HBD := Lib.hid (fun h => (mix_bad (l := l) (r := r) h).1)
  have HC0 : Hid (mixF l r = 0 → checkR l = 0) := Lib.hid (fun hf => by
    unfold mixF at hf
    split at hf
    · rename_i h; exact absurd hf h
    · rename_i h; exact Decidable.not_not.1 h)
  unfold MxP at h1
  unfold OhP at h3
  clear hl hw
  generalize mixN l r = n1 at h1 h3
  generalize mixD l r = n2 at h1 h3
  generalize mixB l r = n3 at h1 h3 HBD
  generalize mixF l r = n4 at h1 h3 HBD HC0
  generalize hulR l = H1 at h2 HV
  generalize checkR l = C at h2 HV HC0
  generalize refN l l.length = h at h3 HV
  have hg := guardRt
  have eq1 := eqlRt n1 n2
  go_enter Try.func6, Try.ntmps6
  go_wp2_with fail
  refine h1.out.mono ?_
  rintro e w1 ⟨rfl, hb1⟩
  have HB1 := Lib.hid (hb1.alloc hb1.size (.cells #[.int .i64 n1, .int .i64 n2] 36))
  have HK1 := Lib.hid (block_new w1 (.cells #[.int .i64 n1, .int .i64 n2] 36))
  have hz1 := hb1.size
  clear hb1 h1
  go_wp2_with fail
  refine (h2.out _ HB1.out).mono ?_
  rintro e w2 ⟨v2, rfl, hs, hb2⟩
  have HS2 := Lib.hid hs
  have HB2 := Lib.hid (HB1.out.thru hb2)
  have HK2 := Lib.hid ((hb2.block w1.heap.size (by simp)).trans HK1.out)
  clear hb2 hs h2
  cases e1 : (n4 != 0)
  case true =>
    have hb := HBD.out (by simpa using e1)
    subst hb
    go_wp2_with fail
    refine (awake5_any _).mono ?_
    rintro e w3 ⟨rfl, hb⟩
    go_wp2
    go_ret
    exact ⟨rfl, HB2.out.thru hb⟩
  case false =>
    obtain rfl : n4 = 0 := by simpa using e1
    obtain rfl := HC0.out rfl
    have hH : H1 = zL h := by rw [HV.out]; rfl
    rw [hH] at HS2
    have H3 := Lib.hid (h3.out w2 v2 HB2.out HS2.out rfl)
    clear hH e1 h3
    go_wp2_with fail
    refine H3.out.mono ?_
    rintro e w3 ⟨rfl, hb3⟩
    have hk3 := (hb3.block _ (lt_of_block HK2.out)).trans HK2.out
    have hl3 := lt_of_block hk3
    have c0 := (cell_of_block (i := 0) hk3).trans rfl
    have c1 := (cell_of_block (i := 1) hk3).trans rfl
    have HB3 := Lib.hid ((HB2.out.thru hb3).alloc (by have := hb3.size; have := HB2.out.size; omega) (.cells #[.int .i64 n1, .int .i64 n2] 36))
    clear hb3 hk3
    cases n3
    all_goals
      go_wp2_with fail
      refine (awake5_any _).mono ?_
      rintro e w4 ⟨rfl, hb⟩
      go_wp2
      go_ret
      exact ⟨rfl, HB3.out.thru hb⟩
end Go.Proofs.Ytikgkgfcnciomaa

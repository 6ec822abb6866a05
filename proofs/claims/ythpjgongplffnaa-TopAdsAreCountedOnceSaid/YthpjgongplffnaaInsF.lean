/- slices.Insert of one event; which blocks it keeps. (Turned from geninse.py's print.) -/
import Derived.Test.YthpjgongplffnaaKpB
import Derived.Test.YthpjgongplffnaaCntM
import Derived.Test.YthpjgongplffnaaDel
import Derived.Test.YthpjgongplffnaaExtG
import Derived.Shelf.Spec.SlicesInsert
import Derived.Lib.AppendZerosOnto
import Derived.Laws.NewBlocks
import Derived.Deep.RegionLaw
namespace Go.Proofs.Ythpjgongplffnaa
open Go.RowKit Go.Lib


theorem run_copy_k {P : Program} (w : World) (dT sT ty elem : TypeId) (k b o dLen dCap : Nat) (a : Addr) (sLen sCap n : Nat) (cs : List Value)
    (hu : P.underlying dT = some (.slice elem)) (hs : (P.info? elem).map (·.size) = some k) (hn : n = Nat.min sLen dLen) (hcs : cs.length = n * k)
    (hsrc : ∀ j v, cs[j]? = some v → w.cell? (a.add j) = some v) (hc : ∀ j, j < cs.length → (w.cell? ⟨b, o + j, none⟩).isSome = true) (hf : ∀ j, j < cs.length → w.frozen? ⟨b, o + j, none⟩ = false) (h1 : ∀ v ∈ cs, v.oneCell' = true) :
    (Builtin.copy_ #[dT, sT] ty #[.slice (some ⟨b, o, none⟩) dLen dCap, .slice (some a) sLen sCap]).run P w = .ok (goInt n) (w.setCells b o cs) := by
  have hl := run_loadCells_list (P := P) w a cs hsrc
  have hst := run_storeCells_cells (P := P) b o cs 0 w (by simpa using hc) (by simpa using hf) h1
  cases hq : P.info? elem with
  | none => simp [hq] at hs
  | some i =>
    have hi : i.size = k := by simpa [hq] using hs
    simp [Builtin.copy_, run_underlying hu, Builtin.lenOf, Builtin.firstCells, sizeOf, typeInfo, hq, hi, ← hn, ← hcs, hl, hst]
theorem Own.of_row {α : Type} {w : World} {base : Nat} {E : TypeId} {k : Nat} {enc : α → List Value} {m : List α} {g cap : Nat} {cur : Array Value} (hk : ∀ x, (enc x).length = k) (hg : base ≤ g) (hh : w.heap[g]? = some (.cells cur E (0, 0))) (hs : cur.size = cap * k) (hn : m.length ≤ cap) (hm : cap ≤ maxLen) (ht : cur.toList.take (m.length * k) = m.flatMap enc) :
    Own w base E k enc (.slice (some ⟨g, 0, none⟩) m.length cap) m := ⟨by rw [flatMap_len hk], .inr ⟨g, cap, cur, rfl, hg, hh, hn, hm, hs, ht⟩⟩
theorem ins_len (l : List Ev) (x : Ev) (i : Nat) (hi : i ≤ l.length) : (l.take i ++ x :: l.drop i).length = l.length + 1 := by simp; omega
/-- What stands in the row behind both copies. -/
theorem ins_row {l : List Ev} {x : Ev} {i : Nat} (hi : i ≤ l.length) {A B : List Value} (hA : A.take (i * 4) = (l.take i).flatMap encE) (hB : B = A.take (i * 4) ++ encE x ++ (l.drop i).flatMap encE ++ B.drop ((l.length + 1) * 4)) : B.take ((l.length + 1) * 4) = (l.take i ++ x :: l.drop i).flatMap encE := by
  have e : (l.take i ++ x :: l.drop i).flatMap encE = (l.take i).flatMap encE ++ encE x ++ (l.drop i).flatMap encE := by simp
  have hl : ((l.take i).flatMap encE ++ encE x ++ (l.drop i).flatMap encE).length = (l.length + 1) * 4 := by
    rw [← e, flatMap_len encE_len, ins_len l x i hi]
  rw [hB, hA, List.take_append_of_le_length (by rw [hl]; exact Nat.le_refl _), List.take_of_length_le (by rw [hl]; exact Nat.le_refl _), e]


/-- A slice of the call's own that reads as m. -/
def InsPost (w : World) (base : Nat) (v : Value) (m : List Ev) : Ending → World → Prop := fun e w' => ∃ v', e = .returned v' ∧ Own w' base 34 4 encE v' m ∧ Below base w w' ∧ KeepB w w' v v'
theorem InsPost.mk {w w' : World} {base : Nat} {v : Value} {m : List Ev} {v' : Value} (h : Own w' base 34 4 encE v' m) (hb : Below base w w') (hk : KeepB w w' v v') : InsPost w base v m (.returned v') w' := ⟨v', rfl, h, hb, hk⟩
theorem sl_one {w : World} {vb : Nat} {x : Ev} (h : w.heap[vb]? = some (.cells (encE x).toArray 34 (0, 0))) : Sl w 4 encE (.slice (some ⟨vb, 0, none⟩) 1 1) [x] := by
  refine ⟨_, 1, rfl, Nat.le_refl _, by simp [maxLen], fun e => by simp at e, fun i y hy => ⟨vb, 0, rfl, fun j u hu => ?_⟩⟩
  cases i with
  | zero =>
    simp at hy; subst hy
    rw [cell_of_block h]
    simpa using hu
  | succ i => simp at hy

theorem setCells_other {b g : Nat} (h : b ≠ g) : ∀ (vs : List Value) (o : Nat) (w : World), (w.setCells g o vs).heap[b]? = w.heap[b]?
  | [], _, _ => rfl
  | v :: r, o, w => (setCells_other h r (o + 1) _).trans (Below.heap_setCell w ⟨g, o, none⟩ v b h)
set_option maxRecDepth 100000 in
set_option maxHeartbeats 4000000 in
theorem ins_end (w : World) (base g cap vb : Nat) (l : List Ev) (x : Ev) (hown : Own w base 34 4 encE (.slice (some ⟨g, 0, none⟩) l.length cap) l) (hbase : base ≤ w.heap.size) (hlen : l.length ≤ 20000) (hvb : w.heap[vb]? = some (.cells (encE x).toArray 34 (0, 0))) :
    Calls Try.prog 8 #[.slice (some ⟨g, 0, none⟩) l.length cap, .int .i64 l.length, .slice (some ⟨vb, 0, none⟩) 1 1] w (InsPost w base (.slice (some ⟨g, 0, none⟩) l.length cap) (l ++ [x])) := by
  have HO := Lib.hid hown
  have HV := Lib.hid hvb
  have hin : (l.length : Int) ≤ (l.length : Int) := Int.le_refl _
  clear hown hvb
  go_enter Try.func8, Try.ntmps8
  go_wp2_with (at_builtin; go_loud (refine wpList_pushB (v := .slice (some ⟨g, 0, none⟩) l.length cap) (l := l) rfl _ _ 29 rfl slE (by decide) rfl rfl x rfl rfl HO.out HV.out (by omega) hbase ?_); intro v' w1 ho1 hb1 hk1; have HO1 := Lib.hid ho1; have HB1 := Lib.hid hb1; have HK1 := Lib.hid hk1; clear ho1 hb1 hk1)
  all_goals
    go_ret
    exact InsPost.mk HO1.out HB1.out (HK1.out.same)
set_option maxRecDepth 100000 in
set_option maxHeartbeats 4000000 in
theorem ins_nil (w : World) (base vb : Nat) (x : Ev) (hbase : base ≤ w.heap.size) (hvb : w.heap[vb]? = some (.cells (encE x).toArray 34 (0, 0))) :
    Calls Try.prog 8 #[.slice none 0 0, .int .i64 0, .slice (some ⟨vb, 0, none⟩) 1 1] w (InsPost w base (.slice none 0 0) [x]) := by
  have HO := Lib.hid (Own.nil (w := w) (base := base) (E := 34) (k := 4) (enc := encE))
  have HV := Lib.hid hvb
  clear hvb
  go_enter Try.func8, Try.ntmps8
  go_wp2_with (at_builtin; go_loud (refine wpList_pushB (v := .slice none 0 0) (l := []) rfl _ _ 29 rfl slE (by decide) rfl rfl x rfl rfl HO.out HV.out (by simp) hbase ?_); intro v' w1 ho1 hb1 hk1; have HO1 := Lib.hid ho1; have HB1 := Lib.hid hb1; have HK1 := Lib.hid hk1; clear ho1 hb1 hk1)
  all_goals
    go_ret
    exact InsPost.mk HO1.out HB1.out HK1.out

theorem infoSizeH : (Try.prog.info? 34).map (·.size) = some 4 := by kernel_rfl
theorem sizeOfH (w : World) : (Go.sizeOf 34).run Try.prog w = .ok 4 w := by kernel_rfl
set_option maxRecDepth 100000 in
set_option maxHeartbeats 4000000 in
theorem ins_room (w : World) (base g cap vb i : Nat) (l : List Ev) (x : Ev) (hown : Own w base 34 4 encE (.slice (some ⟨g, 0, none⟩) l.length cap) l) (hlen : l.length ≤ 20000) (hi : i < l.length) (hc : l.length + 1 ≤ cap) (hvb : w.heap[vb]? = some (.cells (encE x).toArray 34 (0, 0))) (hne : vb ≠ g) :
    Calls Try.prog 8 #[.slice (some ⟨g, 0, none⟩) l.length cap, .int .i64 i, .slice (some ⟨vb, 0, none⟩) 1 1] w (InsPost w base (.slice (some ⟨g, 0, none⟩) l.length cap) (l.take i ++ x :: l.drop i)) := by
  obtain ⟨gg, cap', he, hgb, hgl, hgc, hgm, hgcell, hgf⟩ := Own.getk encE_len hown (by intro e; rw [e] at hi; simp at hi)
  simp only [Value.slice.injEq, Option.some.injEq, Addr.mk.injEq, and_true, true_and] at he
  obtain ⟨rfl, rfl⟩ := he
  unfold maxLen at hgm
  obtain ⟨h1, h2⟩ := hown
  rcases h2 with ⟨h2, _⟩ | ⟨g', cap', cur, hv, hg, hh, hn, hm, hs, ht⟩
  · cases h2
  simp only [Value.slice.injEq, Option.some.injEq, Addr.mk.injEq, and_true, true_and] at hv
  obtain ⟨rfl, rfl⟩ := hv
  have hcl : ∀ j u, cur.toList[j]? = some u → w.cell? ⟨g, j, none⟩ = some u := fun j u hu => by rw [cell_of_block hh]; simpa using hu
  have hcs : cur.toList.length = cap * 4 := by simpa using hs
  obtain ⟨cs, hcsd⟩ : ∃ cs, cs = (l.drop i).flatMap encE := ⟨_, rfl⟩
  have hcsl : cs.length = (l.length - i) * 4 := by rw [hcsd, flatMap_len encE_len, List.length_drop]
  have hcsat : ∀ j u, cs[j]? = some u → w.cell? ⟨g, i * 4 + j, none⟩ = some u := fun j u hu => by
    refine hcl _ _ ?_
    have h3 : (l.flatMap encE)[i * 4 + j]? = some u := by
      have e : l.flatMap encE = (l.take i).flatMap encE ++ cs := by rw [hcsd, ← List.flatMap_append, List.take_append_drop]
      have e2 : ((l.take i).flatMap encE).length = i * 4 := by rw [flatMap_len encE_len, List.length_take, Nat.min_eq_left (by omega)]
      rw [e, List.getElem?_append_right (by omega), e2, Nat.add_sub_cancel_left]
      exact hu
    rw [← ht, List.getElem?_take] at h3
    split at h3
    · exact h3
    · cases h3
  have h1c : ∀ u, u ∈ cs → u.oneCell' = true := fun u hu => by
    rw [hcsd, List.mem_flatMap] at hu
    obtain ⟨y, _, hu⟩ := hu
    exact List.all_eq_true.1 (show (encE y).all Value.oneCell' = true from rfl) u hu
  have hsome : ∀ j, j < cap * 4 → (w.cell? ⟨g, j, none⟩).isSome = true := fun j hj => by
    rw [hcl j _ (List.getElem?_eq_getElem (by rw [hcs]; exact hj))]; rfl
  have hcp1 : ∀ ty dc sc, (Builtin.copy_ #[29, 29] ty #[.slice (some ⟨g, (i + 1) * 4, none⟩) (l.length - i) dc, .slice (some ⟨g, i * 4, none⟩) (l.length + 1 - i) sc]).run Try.prog w.drew = .ok (goInt ((l.length - i : Nat) : Int)) (w.drew.setCells g ((i + 1) * 4) cs) := fun ty dc sc =>
    run_copy_k w.drew _ _ ty 34 4 g ((i + 1) * 4) (l.length - i) dc ⟨g, i * 4, none⟩ (l.length + 1 - i) sc (l.length - i) cs Try.underlying29 infoSizeH (by simp only [Nat.min_def]; split <;> omega) hcsl
      (fun j v hj => by rw [Addr.add_lit]; exact hcsat j v hj)
      (fun j hj => hsome _ (by rw [hcsl] at hj; omega)) (fun j hj => hgf _) h1c
  obtain ⟨W1, hW1⟩ : ∃ W1, W1 = w.drew.setCells g ((i + 1) * 4) cs := ⟨_, rfl⟩
  rw [← hW1] at hcp1
  obtain ⟨cur1, hc1, hl1⟩ := setCells_block (g := g) cs ((i + 1) * 4) w.drew cur hh (by rw [hcsl]; have : cur.size = cap * 4 := hs; omega)
  rw [← hW1] at hc1
  have hW1v : W1.heap[vb]? = some (.cells (encE x).toArray 34 (0, 0)) := by
    rw [hW1]
    exact (setCells_other hne cs _ w.drew).trans hvb
  have hW1b : Below base w W1 := by rw [hW1]; exact below_setCellsD hgb _ _ _ (Below.refl base w).drew
  have hc1s : cur1.size = cap * 4 := by
    have : cur1.toList.length = cap * 4 := by
      rw [hl1]
      simp only [List.length_append, List.length_take, List.length_drop, hcsl, hcs]
      omega
    simpa using this
  have hcl1 : ∀ j, j < cap * 4 → (W1.cell? ⟨g, j, none⟩).isSome = true := fun j hj => by
    rw [cell_of_block hc1, Array.getElem?_eq_getElem (by rw [hc1s]; exact hj)]; rfl
  have hfr1 : ∀ j, W1.frozen? ⟨g, j, none⟩ = false := fun j => by simp [World.frozen?, hc1]
  have hcp2 : ∀ (W : World), (∀ x, W.cell? x = W1.cell? x) → (∀ x, W.frozen? x = W1.frozen? x) → ∀ ty dc, (Builtin.copy_ #[29, 29] ty #[.slice (some ⟨g, i * 4, none⟩) (l.length + 1 - i) dc, .slice (some ⟨vb, 0, none⟩) 1 1]).run Try.prog W = .ok (goInt ((1 : Nat) : Int)) (W.setCells g (i * 4) (encE x)) := fun W hWc hWf ty dc =>
    run_copy_k W _ _ ty 34 4 g (i * 4) (l.length + 1 - i) dc ⟨vb, 0, none⟩ 1 1 1 (encE x) Try.underlying29 infoSizeH (by simp only [Nat.min_def]; split <;> omega) rfl
      (fun j v hj => by rw [Addr.add_lit, hWc, Nat.zero_add, cell_of_block hW1v]; simpa using hj)
      (fun j hj => by rw [hWc]; exact hcl1 _ (by have : (encE x).length = 4 := rfl; omega)) (fun j hj => by rw [hWf]; exact hfr1 _) (fun u hu => List.all_eq_true.1 (show (encE x).all Value.oneCell' = true from rfl) u hu)
  obtain ⟨cur2, hc2, hl2⟩ := setCells_block (g := g) (encE x) (i * 4) W1 cur1 hc1 (by have : (encE x).length = 4 := rfl; omega)
  have hc2s : cur2.size = cap * 4 := by
    have : cur2.toList.length = cap * 4 := by
      have e7 : (encE x).length = 4 := rfl
      rw [hl2]
      simp only [List.length_append, List.length_take, List.length_drop, e7, Array.length_toList, hc1s]
      omega
    simpa using this
  have X : Aside (Own (W1.setCells g (i * 4) (encE x)) base 34 4 encE (.slice (some ⟨g, 0, none⟩) (l.length + 1) cap) (l.take i ++ x :: l.drop i)) := by
    show Own _ _ _ _ _ _ _
    have hml := ins_len l x i (by omega)
    have h := Own.of_row (w := W1.setCells g (i * 4) (encE x)) (base := base) (m := l.take i ++ x :: l.drop i) encE_len hgb hc2 hc2s (by rw [hml]; exact hc) (by unfold maxLen; omega) (by
      rw [hml]
      have hA : cur.toList.take (i * 4) = (l.take i).flatMap encE := by
        have e1 : cur.toList.take (i * 4) = (cur.toList.take (l.length * 4)).take (i * 4) := by rw [List.take_take, Nat.min_eq_left (by omega)]
        rw [e1, ht, take_flat encE_len]
      refine ins_row (A := cur.toList) (by omega) hA ?_
      have e7 : (encE x).length = 4 := rfl
      have hA7 : (cur.toList.take (i * 4)).length = i * 4 := by rw [List.length_take, hcs]; omega
      have hA8 : (cur.toList.take ((i + 1) * 4)).length = (i + 1) * 4 := by rw [List.length_take, hcs]; omega
      have hd : cur1.toList.take (i * 4) = cur.toList.take (i * 4) := by
        rw [hl1, List.append_assoc, List.take_append_of_le_length (by rw [hA8]; omega), List.take_take, Nat.min_eq_left (by omega)]
      have hd2 : cur1.toList.drop (i * 4 + (encE x).length) = cs ++ cur.toList.drop ((i + 1) * 4 + cs.length) := by
        rw [hl1, e7, List.append_assoc, List.drop_append_of_le_length (by rw [hA8]; omega), List.drop_of_length_le (by rw [hA8]; omega), List.nil_append]
      rw [hd, hd2, hcsd] at hl2
      have hfin : cur2.toList.drop ((l.length + 1) * 4) = cur.toList.drop ((i + 1) * 4 + ((l.drop i).flatMap encE).length) := by
        have e8 : (cur.toList.take (i * 4) ++ encE x ++ (l.drop i).flatMap encE).length = (l.length + 1) * 4 := by
          rw [List.length_append, List.length_append, hA7, e7, flatMap_len encE_len, List.length_drop]; omega
        rw [hl2, ← List.append_assoc, List.drop_append_of_le_length (by rw [e8]; exact Nat.le_refl _), List.drop_of_length_le (by rw [e8]; exact Nat.le_refl _), List.nil_append]
      rw [hfin, hl2]
      simp only [List.append_assoc])
    rw [hml] at h
    exact h
  have Y : Aside (Below base w (W1.setCells g (i * 4) (encE x))) := below_setCellsD hgb _ _ _ hW1b
  have Z : Aside (KeepB w (W1.setCells g (i * 4) (encE x)) (.slice (some ⟨g, 0, none⟩) l.length cap) (.slice (some ⟨g, 0, none⟩) (l.length + 1) cap)) := by
    show KeepB _ _ _ _
    intro b hb ho
    have hbg : b ≠ g := fun e => ho _ _ _ rfl e.symm
    refine ⟨(setCells_other hbg _ _ _).trans ?_, offB.mk (fun e => hbg e.symm)⟩
    rw [hW1]
    exact setCells_other hbg _ _ w.drew
  have hsa : w.shape? vb = some (34, 4) := by simp [World.shape?, hvb]
  have hsb : w.shape? g = some (34, cap * 4) := by simp [World.shape?, hh, hs]
  have hfa : w.frozen? ⟨vb, 0, none⟩ = false := by simp [World.frozen?, hvb]
  have hfe : w.frozen? ⟨vb, 4, none⟩ = false := by simp [World.frozen?, hvb]
  have hov : ∀ lb cb, (callFunc 16 #[.slice (some ⟨vb, 0, none⟩) 1 1, .slice (some ⟨g, (i + 1) * 4, none⟩) lb cb]).run Try.prog w = .ok (.value (.bool false)) w := fun lb cb => by
    rw [run_callFunc_extern Try.func16 (by kernel_rfl) (by kernel_rfl) (by kernel_rfl) (e := Extern.SlicesOverlaps.overlaps #[29, 29] #[4]) (by kernel_rfl),
      Lib.run_overlaps_apart w 29 4 34 Try.underlying29 4 sizeOfH ⟨vb, 0, none⟩ ⟨g, (i + 1) * 4, none⟩ 1 1 lb cb hne _ _ _ _ hsa hsb (by omega) hfa hfe]
    rfl
  have hz2 : ¬ ((i : Int) = (l.length : Int)) := by omega
  have hwr : IntKind.i64.wrap ((i : Int) + 1) = (i : Int) + 1 := IntWalk.i64_in _ (by omega)
  have hin : i ≤ l.length := by omega
  have hb1 : (0 : Int) ≤ (i : Int) + 1 := by omega
  have htn : ((i : Int) + 1).toNat = i + 1 := by omega
  have htn2 : ((l.length : Int) + 1).toNat = l.length + 1 := by omega
  have hb2 : ¬ (cap = i + 1) := by omega
  have hb3 : (i : Int) ≤ (l.length : Int) + 1 := by omega
  have hb4 : ¬ (cap = i) := by omega
  have hb5 : ¬ ((cap : Int) < (l.length : Int) + 1) := by omega
  have hW := Lib.hid hW1
  clear hW1 hl2 hl1 ht hcl hcsat hgcell hsome hcl1 hc1 hc2 hh hvb hW1v hs hcs hc1s hc2s hcsl hcsd hsa hsb hfa hfe hgf hfr1
  go_enter Try.func8, Try.ntmps8
  go_wp2_with (simp only [hov])
  go_region_law (refine step_copy_runI rfl _ _ 29 29 rfl _ _ (by simp [Act.eval, Act.put]) (by simp [Act.eval, Act.put]) (hcp1 _ _ _) ?_)
  go_wp2_with (at_builtin; refine wpList_copy_runI _ rfl _ _ 29 29 rfl _ _ rfl rfl (hcp2 _ (fun _ => rfl) (fun _ => rfl) _ _) ?_)
  go_ret
  exact InsPost.mk X.out Y.out Z.out

theorem zeroCellsH (n : Nat) : (Builtin.zeroCells (Value.agg #[.string ByteArray.empty, .int .i64 0, .string ByteArray.empty, .int .i64 0]).cells n).size = n * 4 := by
  simp [Builtin.zeroCells, Value.cells]
set_option maxRecDepth 100000 in
set_option maxHeartbeats 4000000 in
theorem ins_grow (w : World) (base g vb i : Nat) (l : List Ev) (x : Ev) (hown : Own w base 34 4 encE (.slice (some ⟨g, 0, none⟩) l.length l.length) l) (hbase : base ≤ w.heap.size) (hlen : l.length ≤ 20000) (hi : i < l.length) (hvb : w.heap[vb]? = some (.cells (encE x).toArray 34 (0, 0))) :
    Calls Try.prog 8 #[.slice (some ⟨g, 0, none⟩) l.length l.length, .int .i64 i, .slice (some ⟨vb, 0, none⟩) 1 1] w (InsPost w base (.slice (some ⟨g, 0, none⟩) l.length l.length) (l.take i ++ x :: l.drop i)) := by
  obtain ⟨gg, cap', he, hgb, hgl, hgc, hgm, hgcell, hgf⟩ := Own.getk encE_len hown (by intro e; rw [e] at hi; simp at hi)
  simp only [Value.slice.injEq, Option.some.injEq, Addr.mk.injEq, and_true, true_and] at he
  obtain ⟨rfl, rfl⟩ := he
  have hall : ∀ j u, (l.flatMap encE)[j]? = some u → w.cell? ⟨g, j, none⟩ = some u := fun j u hu => by
    obtain ⟨y, hy, hyu⟩ := flatMap_at encE_len (by decide) hu
    have := hgcell _ _ _ _ hy hyu
    rwa [show j / 4 * 4 + j % 4 = j by omega] at this
  obtain ⟨cs, hcsd⟩ : ∃ cs, cs = (l.drop i).flatMap encE := ⟨_, rfl⟩
  have hcsl : cs.length = (l.length - i) * 4 := by rw [hcsd, flatMap_len encE_len, List.length_drop]
  have hcsat : ∀ j u, cs[j]? = some u → w.cell? ⟨g, i * 4 + j, none⟩ = some u := fun j u hu => by
    refine hall _ _ ?_
    have e : l.flatMap encE = (l.take i).flatMap encE ++ cs := by rw [hcsd, ← List.flatMap_append, List.take_append_drop]
    have e2 : ((l.take i).flatMap encE).length = i * 4 := by rw [flatMap_len encE_len, List.length_take, Nat.min_eq_left (by omega)]
    rw [e, List.getElem?_append_right (by omega), e2, Nat.add_sub_cancel_left]
    exact hu
  have h1c : ∀ u, u ∈ cs → u.oneCell' = true := fun u hu => by
    rw [hcsd, List.mem_flatMap] at hu
    obtain ⟨y, _, hu⟩ := hu
    exact List.all_eq_true.1 (show (encE y).all Value.oneCell' = true from rfl) u hu
  have hvw := lt_of_blk hvb
  obtain ⟨hu0, i0, hi0, hz0, hzs, hzb⟩ : Try.prog.underlying 29 = some (.slice 34) ∧ ∃ i0, Try.prog.info? 34 = some i0 ∧ i0.zero = some (.agg #[.string ByteArray.empty, .int .i64 0, .string ByteArray.empty, .int .i64 0]) ∧ i0.size = 4 ∧ i0.bytes = 48 := ⟨Try.underlying29, info_parts infoEv⟩
  have hold : (Builtin.firstCells i0.size i (.slice (some ⟨g, 0, none⟩) i l.length)).run Try.prog w.drew = .ok ((l.take i).flatMap encE).toArray w.drew := by
    rw [hzs]
    refine run_firstCells_some w.drew 4 i ⟨g, 0, none⟩ i l.length ((l.take i).flatMap encE) (by rw [flatMap_len encE_len, List.length_take, Nat.min_eq_left (by omega)]) (fun j v hj => ?_)
    rw [Addr.add_lit, Nat.zero_add]
    refine hall j v ?_
    have e : l.flatMap encE = (l.take i).flatMap encE ++ cs := by rw [hcsd, ← List.flatMap_append, List.take_append_drop]
    rw [e, List.getElem?_append_left (List.getElem?_eq_some_iff.1 hj).1]
    exact hj
  obtain ⟨G, hG⟩ : ∃ G, G = grownCap w (l.length + 1) l.length 34 := ⟨_, rfl⟩
  obtain ⟨ROW, hROW⟩ : ∃ ROW : Array Value, ROW = ((l.take i).flatMap encE).toArray ++ Builtin.zeroCells (Value.agg #[.string ByteArray.empty, .int .i64 0, .string ByteArray.empty, .int .i64 0]).cells (l.length + 1 - i) ++ Builtin.zeroCells (Value.agg #[.string ByteArray.empty, .int .i64 0, .string ByteArray.empty, .int .i64 0]).cells (G - (l.length + 1)) := ⟨_, rfl⟩
  have hkk : (l.length : Int) + 1 - (i : Int) = ((l.length + 1 - i : Nat) : Int) := by omega
  have hik : i + (l.length + 1 - i) = l.length + 1 := by omega
  have hrz : ∀ ty, (Builtin.append_ #[29, 3] ty #[.slice (some ⟨g, 0, none⟩) i l.length, .int .i64 ((l.length : Int) + 1 - (i : Int))]).run Try.prog w = .ok (.slice (some ⟨w.heap.size, 0, none⟩) (l.length + 1) G) (w.drew.alloc (.cells ROW 34)) := fun ty => by
    have h := Lib.run_append_grow_zeros w 29 3 ty 34 i0 _ .i64 .i64 hu0 Try.underlying3 hi0 hz0 (some ⟨g, 0, none⟩) i l.length ((l.take i).flatMap encE) hold (l.length + 1 - i) (by omega) (by omega) (by omega) (by omega) (by rw [hzb]; omega) (by rw [hzb, hik]; exact growslice_fits (by omega) (by omega))
    rw [hik, ← hG, ← hROW] at h
    rw [hkk]
    exact h
  have hGn : l.length + 1 ≤ G := by rw [hG]; exact grownCap_ge w _ _ _
  have hGm : G ≤ maxLen := by rw [hG]; exact grownCap_le_maxLen w (l.length + 1) l.length 34 (by unfold maxLen; omega)
  have hG63 : G ≤ 9223372036854775807 := by unfold maxLen at hGm; omega
  have hRs : ROW.size = G * 4 := by
    rw [hROW, Array.size_append, Array.size_append, zeroCellsH, zeroCellsH, List.size_toArray, flatMap_len encE_len, List.length_take, Nat.min_eq_left (by omega)]
    omega
  have hRt : ROW.toList.take (i * 4) = (l.take i).flatMap encE := by
    have e2 : ((l.take i).flatMap encE).length = i * 4 := by rw [flatMap_len encE_len, List.length_take, Nat.min_eq_left (by omega)]
    rw [hROW, Array.toList_append, Array.toList_append, List.append_assoc, List.take_append_of_le_length (by simp [e2]), List.take_of_length_le (by simp [e2])]
  obtain ⟨W1, hW1⟩ : ∃ W1, W1 = (w.alloc (.cells ROW 34)).drew := ⟨_, rfl⟩
  have hb0 : W1.heap[w.heap.size]? = some (.cells ROW 34 (0, 0)) := by rw [hW1]; exact block_new w _
  have hWb : Below w.heap.size w W1 := by rw [hW1]; exact ((Below.refl w.heap.size w).alloc (Nat.le_refl _) _).drew
  have hW1v : W1.heap[vb]? = some (.cells (encE x).toArray 34 (0, 0)) := (hWb.block vb hvw).trans hvb
  have hcl1 : ∀ j, j < G * 4 → (W1.cell? ⟨w.heap.size, j, none⟩).isSome = true := fun j hj => by
    rw [cell_of_block hb0, Array.getElem?_eq_getElem (by rw [hRs]; exact hj)]; rfl
  have hfr1 : ∀ j, W1.frozen? ⟨w.heap.size, j, none⟩ = false := fun j => by simp [World.frozen?, hb0]
  have e7 : (encE x).length = 4 := rfl
  have hcpA : ∀ (W : World), (∀ x, W.cell? x = W1.cell? x) → (∀ x, W.frozen? x = W1.frozen? x) → ∀ ty dc, (Builtin.copy_ #[29, 29] ty #[.slice (some ⟨w.heap.size, i * 4, none⟩) (l.length + 1 - i) dc, .slice (some ⟨vb, 0, none⟩) 1 1]).run Try.prog W = .ok (goInt ((1 : Nat) : Int)) (W.setCells w.heap.size (i * 4) (encE x)) := fun W hWc hWf ty dc =>
    run_copy_k W _ _ ty 34 4 w.heap.size (i * 4) (l.length + 1 - i) dc ⟨vb, 0, none⟩ 1 1 1 (encE x) hu0 infoSizeH (by simp only [Nat.min_def]; split <;> omega) rfl
      (fun j v hj => by rw [Addr.add_lit, hWc, Nat.zero_add, cell_of_block hW1v]; simpa using hj)
      (fun j hj => by rw [hWc]; exact hcl1 _ (by omega)) (fun j hj => by rw [hWf]; exact hfr1 _) (fun u hu => List.all_eq_true.1 (show (encE x).all Value.oneCell' = true from rfl) u hu)
  obtain ⟨cur1, hc1, hl1⟩ := setCells_block (g := w.heap.size) (encE x) (i * 4) W1 ROW hb0 (by omega)
  have hc1s : cur1.size = G * 4 := by
    have : cur1.toList.length = G * 4 := by
      rw [hl1]
      simp only [List.length_append, List.length_take, List.length_drop, e7, Array.length_toList, hRs]
      omega
    simpa using this
  have hWa0 : Below w.heap.size w (W1.setCells w.heap.size (i * 4) (encE x)) := below_setCellsD (Nat.le_refl _) _ _ _ hWb
  obtain ⟨Wa, hWa⟩ : ∃ Wa, Wa = W1.setCells w.heap.size (i * 4) (encE x) := ⟨_, rfl⟩
  rw [← hWa] at hc1 hWa0
  obtain ⟨W2, hW2⟩ : ∃ W2, W2 = Wa.drew := ⟨_, rfl⟩
  have hc1 : W2.heap[w.heap.size]? = some (.cells cur1 34 (0, 0)) := by rw [hW2]; exact hc1
  have hWb2 : Below w.heap.size w W2 := by rw [hW2]; exact hWa0.drew
  have hcl2 : ∀ j, j < G * 4 → (W2.cell? ⟨w.heap.size, j, none⟩).isSome = true := fun j hj => by
    rw [cell_of_block hc1, Array.getElem?_eq_getElem (by rw [hc1s]; exact hj)]; rfl
  have hfr2 : ∀ j, W2.frozen? ⟨w.heap.size, j, none⟩ = false := fun j => by simp [World.frozen?, hc1]
  have hcpB : ∀ (W : World), (∀ x, W.cell? x = W2.cell? x) → (∀ x, W.frozen? x = W2.frozen? x) → ∀ ty dc sc, (Builtin.copy_ #[29, 29] ty #[.slice (some ⟨w.heap.size, (i + 1) * 4, none⟩) (l.length - i) dc, .slice (some ⟨g, i * 4, none⟩) (l.length - i) sc]).run Try.prog W = .ok (goInt ((l.length - i : Nat) : Int)) (W.setCells w.heap.size ((i + 1) * 4) cs) := fun W hWc hWf ty dc sc =>
    run_copy_k W _ _ ty 34 4 w.heap.size ((i + 1) * 4) (l.length - i) dc ⟨g, i * 4, none⟩ (l.length - i) sc (l.length - i) cs hu0 infoSizeH (by simp only [Nat.min_def]; split <;> omega) hcsl
      (fun j v hj => by rw [Addr.add_lit, hWc, hWb2.cell (p := ⟨g, i * 4 + j, none⟩) hgl]; exact hcsat j v hj)
      (fun j hj => by rw [hWc]; exact hcl2 _ (by rw [hcsl] at hj; omega)) (fun j hj => by rw [hWf]; exact hfr2 _) h1c
  obtain ⟨cur2, hc2, hl2⟩ := setCells_block (g := w.heap.size) cs ((i + 1) * 4) W2 cur1 hc1 (by rw [hcsl, hc1s]; omega)
  have hc2s : cur2.size = G * 4 := by
    have : cur2.toList.length = G * 4 := by
      rw [hl2]
      simp only [List.length_append, List.length_take, List.length_drop, hcsl, Array.length_toList, hc1s]
      omega
    simpa using this
  have X : Aside (Own (W2.setCells w.heap.size ((i + 1) * 4) cs) base 34 4 encE (.slice (some ⟨w.heap.size, 0, none⟩) (l.length + 1) G) (l.take i ++ x :: l.drop i)) := by
    show Own _ _ _ _ _ _ _
    have hml := ins_len l x i (by omega)
    have h := Own.of_row (w := W2.setCells w.heap.size ((i + 1) * 4) cs) (base := base) (m := l.take i ++ x :: l.drop i) encE_len hbase hc2 hc2s (by rw [hml]; exact hGn) hGm (by
      rw [hml]
      refine ins_row (A := ROW.toList) (by omega) hRt ?_
      have hA7 : (ROW.toList.take (i * 4)).length = i * 4 := by rw [List.length_take, Array.length_toList, hRs]; omega
      have hd : cur1.toList.take ((i + 1) * 4) = ROW.toList.take (i * 4) ++ encE x := by
        rw [hl1, List.take_append_of_le_length (by rw [List.length_append, hA7, e7]; omega), List.take_of_length_le (by rw [List.length_append, hA7, e7]; omega)]
      rw [hd, hcsd] at hl2
      have hfin : cur2.toList.drop ((l.length + 1) * 4) = cur1.toList.drop ((i + 1) * 4 + ((l.drop i).flatMap encE).length) := by
        have e8 : (ROW.toList.take (i * 4) ++ encE x ++ (l.drop i).flatMap encE).length = (l.length + 1) * 4 := by
          rw [List.length_append, List.length_append, hA7, e7, flatMap_len encE_len, List.length_drop]; omega
        rw [hl2, List.drop_append_of_le_length (by rw [e8]; exact Nat.le_refl _), List.drop_of_length_le (by rw [e8]; exact Nat.le_refl _), List.nil_append]
      rw [hfin]
      exact hl2)
    rw [hml] at h
    exact h
  have Y : Aside (Below base w (W2.setCells w.heap.size ((i + 1) * 4) cs)) := below_setCellsD hbase _ _ _ (hWb2.mono hbase)
  have Z : Aside (KeepB w (W2.setCells w.heap.size ((i + 1) * 4) cs) (.slice (some ⟨g, 0, none⟩) l.length l.length) (.slice (some ⟨w.heap.size, 0, none⟩) (l.length + 1) G)) := by
    show KeepB _ _ _ _
    intro b hb ho
    exact ⟨(setCells_other (by omega) _ _ _).trans (hWb2.block b hb), offB.mk (by omega)⟩
  have hz2 : ¬ ((i : Int) = (l.length : Int)) := by omega
  have hwr : IntKind.i64.wrap ((i : Int) + 1) = (i : Int) + 1 := IntWalk.i64_in _ (by omega)
  have hin : i ≤ l.length := by omega
  have hb1 : (0 : Int) ≤ (i : Int) + 1 := by omega
  have htn : ((i : Int) + 1).toNat = i + 1 := by omega
  have hb3 : (i : Int) ≤ (l.length : Int) := by omega
  have hb5 : (l.length : Int) < (l.length : Int) + 1 := by omega
  have hGi : ¬ (G = i) := by omega
  have hGim : ¬ (G = i + 1) := by omega
  have hli : ¬ (l.length = i) := by omega
  have hA1 := Lib.hid (fun ty dc => hcpA W1 (fun _ => rfl) (fun _ => rfl) ty dc)
  have hB1 := Lib.hid (fun ty dc sc => hcpB W2 (fun _ => rfl) (fun _ => rfl) ty dc sc)
  clear hcpA hcpB
  subst hW2
  subst hWa
  have HRZ := Lib.hid hrz
  clear hrz
  clear hc1
  clear hl2 hl1 hcl1 hcl2 hfr1 hfr2 hc1 hc2 hvb hW1v hc1s hc2s hcsl hcsd hgf hgcell hall hcsat hold hROW hRs hRt hb0 hik hkk hzs hzb hz0 hi0 hG hGm
  subst hW1
  clear e7 h1c hWb hWb2 hWa0
  generalize encE x = vs at hA1 hB1 X Y Z
  go_enter Try.func8, Try.ntmps8
  go_upto_region 10 with (at_builtin; go_loud (refine Lib.wpList_append_run _ rfl _ _ _ _ rfl _ _ rfl rfl _ _ (HRZ.out _) ?_))
  have ha1 := hA1.out
  go_upto_region 11 with (fail)
  go_region_law (refine step_copy_runI rfl _ _ 29 29 rfl (.slice (some ⟨w.heap.size, (i + 1) * 4, none⟩) (l.length - i) (G - (i + 1))) (.slice (some ⟨g, i * 4, none⟩) (l.length - i) (l.length - i)) (by simp [Act.eval, Act.put]) (by simp [Act.eval, Act.put]) (hB1.out _ _ _) ?_)
  go_wp2
  go_ret
  exact InsPost.mk X.out Y.out Z.out
/-- An event at the front. -/
theorem ins_front (w : World) (base vb : Nat) (l : List Ev) (x : Ev) (v : Value) (hown : Own w base 34 4 encE v l) (hbase : base ≤ w.heap.size) (hlen : l.length ≤ 20000) (hvb : w.heap[vb]? = some (.cells (encE x).toArray 34 (0, 0))) (hoff : offB vb v) :
    Calls Try.prog 8 #[v, .int .i64 0, .slice (some ⟨vb, 0, none⟩) 1 1] w (InsPost w base v (x :: l)) := by
  cases l with
  | nil =>
    rcases Own.slw hown with ⟨rfl, _⟩ | ⟨g, cap, rfl⟩
    · exact ins_nil w base vb x hbase hvb
    · exact ins_end w base g cap vb [] x hown hbase hlen hvb
  | cons y r =>
    obtain ⟨g, cap, rfl, h1, h2, h3, h4, _⟩ := Own.getk encE_len hown (by simp)
    have hg : vb ≠ g := fun e => hoff _ _ _ rfl e.symm
    by_cases e2 : (y :: r).length + 1 ≤ cap
    · exact ins_room w base g cap vb 0 (y :: r) x hown hlen (by simp) e2 hvb hg
    · obtain rfl : cap = (y :: r).length := by omega
      exact ins_grow w base g vb 0 (y :: r) x hown hbase hlen (by simp) hvb
end Go.Proofs.Ythpjgongplffnaa

/- slices.Insert of one cue that is heard: the three ways. -/
import Derived.Test.YtaknkldbdijkeaaInsH
import Derived.Test.YtaknkldbdijkeaaDelK
namespace Go.Proofs.Ytaknkldbdijkeaa
open Go.RowKit Go.Lib

/-- A slice of the call's own that reads as m. -/
def InsPost (w : World) (base : Nat) (m : List Hrd) : Ending → World → Prop := fun e w' => ∃ v', e = .returned v' ∧ Own w' base 42 7 encH v' m ∧ Below base w w'
theorem InsPost.mk {w w' : World} {base : Nat} {m : List Hrd} {v' : Value} (h : Own w' base 42 7 encH v' m) (hb : Below base w w') : InsPost w base m (.returned v') w' := ⟨v', rfl, h, hb⟩
theorem sl_one {w : World} {vb : Nat} {x : Hrd} (h : w.heap[vb]? = some (.cells (encH x).toArray 42 (0, 0))) : Sl w 7 encH (.slice (some ⟨vb, 0, none⟩) 1 1) [x] := by
  refine ⟨_, 1, rfl, Nat.le_refl _, by simp [maxLen], fun e => by simp at e, fun i y hy => ⟨vb, 0, rfl, fun j u hu => ?_⟩⟩
  cases i with
  | zero =>
    simp at hy; subst hy
    rw [cell_of_block h]
    simpa using hu
  | succ i => simp at hy

theorem setCells_other {b g : Nat} (h : b ≠ g) : ∀ (vs : List Value) (o : Nat) (w : World), (w.setCells g o vs).heap[b]? = w.heap[b]?
  | [], _, _ => rfl
  | v :: r, o, w => (setCells_other h r (o + 1) _).trans (Below.heap_setCell w ⟨g, o, none⟩ v b h)
set_option maxRecDepth 100000 in
set_option maxHeartbeats 4000000 in
theorem ins_end (w : World) (base g cap vb : Nat) (l : List Hrd) (x : Hrd) (hown : Own w base 42 7 encH (.slice (some ⟨g, 0, none⟩) l.length cap) l) (hbase : base ≤ w.heap.size) (hlen : l.length ≤ 1000) (hvb : w.heap[vb]? = some (.cells (encH x).toArray 42 (0, 0))) :
    Calls Try.prog 15 #[.slice (some ⟨g, 0, none⟩) l.length cap, .int .i64 l.length, .slice (some ⟨vb, 0, none⟩) 1 1] w (InsPost w base (l ++ [x])) := by
  have HO := Lib.hid hown
  have HV := Lib.hid (sl_one hvb)
  have hin : (l.length : Int) ≤ (l.length : Int) := Int.le_refl _
  clear hown hvb
  go_enter Try.func15, Try.ntmps15
  go_wp2_with (at_builtin; go_loud (refine wpList_extend (v := .slice (some ⟨g, 0, none⟩) l.length cap) (u := .slice (some ⟨vb, 0, none⟩) 1 1) (l := l) (m := [x]) rfl _ _ 32 rfl slH encH_len (fun _ => rfl) rfl rfl HO.out HV.out (by simp; omega) hbase ?_); intro v' w1 ho1 hb1; have HO1 := Lib.hid ho1; have HB1 := Lib.hid hb1; clear ho1 hb1)
  all_goals
    go_ret
    exact InsPost.mk HO1.out HB1.out

theorem infoSizeH : (Try.prog.info? 42).map (·.size) = some 7 := by kernel_rfl
theorem sizeOfH (w : World) : (Go.sizeOf 42).run Try.prog w = .ok 7 w := by kernel_rfl
set_option maxRecDepth 100000 in
set_option maxHeartbeats 4000000 in
theorem ins_room (w : World) (base g cap vb i : Nat) (l : List Hrd) (x : Hrd) (hown : Own w base 42 7 encH (.slice (some ⟨g, 0, none⟩) l.length cap) l) (hlen : l.length ≤ 1000) (hi : i < l.length) (hc : l.length + 1 ≤ cap) (hvb : w.heap[vb]? = some (.cells (encH x).toArray 42 (0, 0))) (hne : vb ≠ g) :
    Calls Try.prog 15 #[.slice (some ⟨g, 0, none⟩) l.length cap, .int .i64 i, .slice (some ⟨vb, 0, none⟩) 1 1] w (InsPost w base (l.take i ++ x :: l.drop i)) := by
  obtain ⟨gg, cap', he, hgb, hgl, hgc, hgm, hgcell, hgf⟩ := Own.getk encH_len hown (by intro e; rw [e] at hi; simp at hi)
  simp only [Value.slice.injEq, Option.some.injEq, Addr.mk.injEq, and_true, true_and] at he
  obtain ⟨rfl, rfl⟩ := he
  unfold maxLen at hgm
  obtain ⟨h1, h2⟩ := hown
  rcases h2 with ⟨h2, _⟩ | ⟨g', cap', cur, hv, hg, hh, hn, hm, hs, ht⟩
  · cases h2
  simp only [Value.slice.injEq, Option.some.injEq, Addr.mk.injEq, and_true, true_and] at hv
  obtain ⟨rfl, rfl⟩ := hv
  have hcl : ∀ j u, cur.toList[j]? = some u → w.cell? ⟨g, j, none⟩ = some u := fun j u hu => by rw [cell_of_block hh]; simpa using hu
  have hcs : cur.toList.length = cap * 7 := by simpa using hs
  obtain ⟨cs, hcsd⟩ : ∃ cs, cs = (l.drop i).flatMap encH := ⟨_, rfl⟩
  have hcsl : cs.length = (l.length - i) * 7 := by rw [hcsd, flatMap_len encH_len, List.length_drop]
  have hcsat : ∀ j u, cs[j]? = some u → w.cell? ⟨g, i * 7 + j, none⟩ = some u := fun j u hu => by
    refine hcl _ _ ?_
    have h3 : (l.flatMap encH)[i * 7 + j]? = some u := by
      have e : l.flatMap encH = (l.take i).flatMap encH ++ cs := by rw [hcsd, ← List.flatMap_append, List.take_append_drop]
      have e2 : ((l.take i).flatMap encH).length = i * 7 := by rw [flatMap_len encH_len, List.length_take, Nat.min_eq_left (by omega)]
      rw [e, List.getElem?_append_right (by omega), e2, Nat.add_sub_cancel_left]
      exact hu
    rw [← ht, List.getElem?_take] at h3
    split at h3
    · exact h3
    · cases h3
  have h1c : ∀ u, u ∈ cs → u.oneCell' = true := fun u hu => by
    rw [hcsd, List.mem_flatMap] at hu
    obtain ⟨y, _, hu⟩ := hu
    exact List.all_eq_true.1 (show (encH y).all Value.oneCell' = true from rfl) u hu
  have hsome : ∀ j, j < cap * 7 → (w.cell? ⟨g, j, none⟩).isSome = true := fun j hj => by
    rw [hcl j _ (List.getElem?_eq_getElem (by rw [hcs]; exact hj))]; rfl
  have hcp1 : ∀ ty dc sc, (Builtin.copy_ #[32, 32] ty #[.slice (some ⟨g, (i + 1) * 7, none⟩) (l.length - i) dc, .slice (some ⟨g, i * 7, none⟩) (l.length + 1 - i) sc]).run Try.prog w.drew = .ok (goInt ((l.length - i : Nat) : Int)) (w.drew.setCells g ((i + 1) * 7) cs) := fun ty dc sc =>
    run_copy_k w.drew _ _ ty 42 7 g ((i + 1) * 7) (l.length - i) dc ⟨g, i * 7, none⟩ (l.length + 1 - i) sc (l.length - i) cs Try.underlying32 infoSizeH (by simp only [Nat.min_def]; split <;> omega) hcsl
      (fun j v hj => by rw [Addr.add_lit]; exact hcsat j v hj)
      (fun j hj => hsome _ (by rw [hcsl] at hj; omega)) (fun j hj => hgf _) h1c
  obtain ⟨W1, hW1⟩ : ∃ W1, W1 = w.drew.setCells g ((i + 1) * 7) cs := ⟨_, rfl⟩
  rw [← hW1] at hcp1
  obtain ⟨cur1, hc1, hl1⟩ := setCells_block (g := g) cs ((i + 1) * 7) w.drew cur hh (by rw [hcsl]; have : cur.size = cap * 7 := hs; omega)
  rw [← hW1] at hc1
  have hW1v : W1.heap[vb]? = some (.cells (encH x).toArray 42 (0, 0)) := by
    rw [hW1]
    exact (setCells_other hne cs _ w.drew).trans hvb
  have hW1b : Below base w W1 := by rw [hW1]; exact below_setCellsD hgb _ _ _ (Below.refl base w).drew
  have hc1s : cur1.size = cap * 7 := by
    have : cur1.toList.length = cap * 7 := by
      rw [hl1]
      simp only [List.length_append, List.length_take, List.length_drop, hcsl, hcs]
      omega
    simpa using this
  have hcl1 : ∀ j, j < cap * 7 → (W1.cell? ⟨g, j, none⟩).isSome = true := fun j hj => by
    rw [cell_of_block hc1, Array.getElem?_eq_getElem (by rw [hc1s]; exact hj)]; rfl
  have hfr1 : ∀ j, W1.frozen? ⟨g, j, none⟩ = false := fun j => by simp [World.frozen?, hc1]
  have hcp2 : ∀ (W : World), (∀ x, W.cell? x = W1.cell? x) → (∀ x, W.frozen? x = W1.frozen? x) → ∀ ty dc, (Builtin.copy_ #[32, 32] ty #[.slice (some ⟨g, i * 7, none⟩) (l.length + 1 - i) dc, .slice (some ⟨vb, 0, none⟩) 1 1]).run Try.prog W = .ok (goInt ((1 : Nat) : Int)) (W.setCells g (i * 7) (encH x)) := fun W hWc hWf ty dc =>
    run_copy_k W _ _ ty 42 7 g (i * 7) (l.length + 1 - i) dc ⟨vb, 0, none⟩ 1 1 1 (encH x) Try.underlying32 infoSizeH (by simp only [Nat.min_def]; split <;> omega) rfl
      (fun j v hj => by rw [Addr.add_lit, hWc, Nat.zero_add, cell_of_block hW1v]; simpa using hj)
      (fun j hj => by rw [hWc]; exact hcl1 _ (by have : (encH x).length = 7 := rfl; omega)) (fun j hj => by rw [hWf]; exact hfr1 _) (fun u hu => List.all_eq_true.1 (show (encH x).all Value.oneCell' = true from rfl) u hu)
  obtain ⟨cur2, hc2, hl2⟩ := setCells_block (g := g) (encH x) (i * 7) W1 cur1 hc1 (by have : (encH x).length = 7 := rfl; omega)
  have hc2s : cur2.size = cap * 7 := by
    have : cur2.toList.length = cap * 7 := by
      have e7 : (encH x).length = 7 := rfl
      rw [hl2]
      simp only [List.length_append, List.length_take, List.length_drop, e7, Array.length_toList, hc1s]
      omega
    simpa using this
  have X : Aside (Own (W1.setCells g (i * 7) (encH x)) base 42 7 encH (.slice (some ⟨g, 0, none⟩) (l.length + 1) cap) (l.take i ++ x :: l.drop i)) := by
    show Own _ _ _ _ _ _ _
    have hml := ins_len l x i (by omega)
    have h := Own.of_row (w := W1.setCells g (i * 7) (encH x)) (base := base) (m := l.take i ++ x :: l.drop i) encH_len hgb hc2 hc2s (by rw [hml]; exact hc) (by unfold maxLen; omega) (by
      rw [hml]
      have hA : cur.toList.take (i * 7) = (l.take i).flatMap encH := by
        have e1 : cur.toList.take (i * 7) = (cur.toList.take (l.length * 7)).take (i * 7) := by rw [List.take_take, Nat.min_eq_left (by omega)]
        rw [e1, ht, take_flat encH_len]
      refine ins_row (A := cur.toList) (by omega) hA ?_
      have e7 : (encH x).length = 7 := rfl
      have hA7 : (cur.toList.take (i * 7)).length = i * 7 := by rw [List.length_take, hcs]; omega
      have hA8 : (cur.toList.take ((i + 1) * 7)).length = (i + 1) * 7 := by rw [List.length_take, hcs]; omega
      have hd : cur1.toList.take (i * 7) = cur.toList.take (i * 7) := by
        rw [hl1, List.append_assoc, List.take_append_of_le_length (by rw [hA8]; omega), List.take_take, Nat.min_eq_left (by omega)]
      have hd2 : cur1.toList.drop (i * 7 + (encH x).length) = cs ++ cur.toList.drop ((i + 1) * 7 + cs.length) := by
        rw [hl1, e7, List.append_assoc, List.drop_append_of_le_length (by rw [hA8]; omega), List.drop_of_length_le (by rw [hA8]; omega), List.nil_append]
      rw [hd, hd2, hcsd] at hl2
      have hfin : cur2.toList.drop ((l.length + 1) * 7) = cur.toList.drop ((i + 1) * 7 + ((l.drop i).flatMap encH).length) := by
        have e8 : (cur.toList.take (i * 7) ++ encH x ++ (l.drop i).flatMap encH).length = (l.length + 1) * 7 := by
          rw [List.length_append, List.length_append, hA7, e7, flatMap_len encH_len, List.length_drop]; omega
        rw [hl2, ← List.append_assoc, List.drop_append_of_le_length (by rw [e8]; exact Nat.le_refl _), List.drop_of_length_le (by rw [e8]; exact Nat.le_refl _), List.nil_append]
      rw [hfin, hl2]
      simp only [List.append_assoc])
    rw [hml] at h
    exact h
  have Y : Aside (Below base w (W1.setCells g (i * 7) (encH x))) := below_setCellsD hgb _ _ _ hW1b
  have hsa : w.shape? vb = some (42, 7) := by simp [World.shape?, hvb, encH_len]
  have hsb : w.shape? g = some (42, cap * 7) := by simp [World.shape?, hh, hs]
  have hfa : w.frozen? ⟨vb, 0, none⟩ = false := by simp [World.frozen?, hvb]
  have hfe : w.frozen? ⟨vb, 7, none⟩ = false := by simp [World.frozen?, hvb]
  have hov : ∀ lb cb, (callFunc 29 #[.slice (some ⟨vb, 0, none⟩) 1 1, .slice (some ⟨g, (i + 1) * 7, none⟩) lb cb]).run Try.prog w = .ok (.value (.bool false)) w := fun lb cb => by
    rw [run_callFunc_extern Try.func29 (by kernel_rfl) (by kernel_rfl) (by kernel_rfl) (e := Extern.SlicesOverlaps.overlaps #[32, 32] #[4]) (by kernel_rfl),
      Lib.run_overlaps_apart w 32 4 42 Try.underlying32 7 sizeOfH ⟨vb, 0, none⟩ ⟨g, (i + 1) * 7, none⟩ 1 1 lb cb hne _ _ _ _ hsa hsb (by omega) hfa hfe]
    rfl
  have hz2 : ¬ ((i : Int) = (l.length : Int)) := by omega
  have hwr : IntKind.i64.wrap ((i : Int) + 1) = (i : Int) + 1 := IntWalk.i64_in _ (by omega)
  have hin : i ≤ l.length := by omega
  have hb1 : (0 : Int) ≤ (i : Int) + 1 := by omega
  have htn : ((i : Int) + 1).toNat = i + 1 := by omega
  have htn2 : ((l.length : Int) + 1).toNat = l.length + 1 := by omega
  have hb2 : ¬ (cap = i + 1) := by omega
  have hb3 : (i : Int) ≤ (l.length : Int) + 1 := by omega
  have hb4 : ¬ (cap = i) := by omega
  have hb5 : ¬ ((cap : Int) < (l.length : Int) + 1) := by omega
  have hW := Lib.hid hW1
  clear hW1 hl2 hl1 ht hcl hcsat hgcell hsome hcl1 hc1 hc2 hh hvb hW1v hs hcs hc1s hc2s hcsl hcsd hsa hsb hfa hfe hgf hfr1
  go_enter Try.func15, Try.ntmps15
  go_wp2_with (simp only [hov])
  go_region_law (refine step_copy_runI rfl _ _ 32 32 rfl _ _ (by simp [Act.eval, Act.put]) (by simp [Act.eval, Act.put]) (hcp1 _ _ _) ?_)
  go_wp2_with (at_builtin; refine wpList_copy_runI _ rfl _ _ 32 32 rfl _ _ rfl rfl (hcp2 _ (fun _ => rfl) (fun _ => rfl) _ _) ?_)
  go_ret
  exact InsPost.mk X.out Y.out

theorem zeroCellsH (n : Nat) : (Builtin.zeroCells (Value.agg #[.int .i64 0, .int .i64 0, .int .i64 0, .bool false, .int .i64 0, .int .i64 0, .bool false]).cells n).size = n * 7 := by
  simp [Builtin.zeroCells, Value.cells]
set_option maxRecDepth 100000 in
set_option maxHeartbeats 4000000 in
theorem ins_grow (w : World) (base g vb i : Nat) (l : List Hrd) (x : Hrd) (hown : Own w base 42 7 encH (.slice (some ⟨g, 0, none⟩) l.length l.length) l) (hbase : base ≤ w.heap.size) (hlen : l.length ≤ 1000) (hi : i < l.length) (hvb : w.heap[vb]? = some (.cells (encH x).toArray 42 (0, 0))) :
    Calls Try.prog 15 #[.slice (some ⟨g, 0, none⟩) l.length l.length, .int .i64 i, .slice (some ⟨vb, 0, none⟩) 1 1] w (InsPost w base (l.take i ++ x :: l.drop i)) := by
  obtain ⟨gg, cap', he, hgb, hgl, hgc, hgm, hgcell, hgf⟩ := Own.getk encH_len hown (by intro e; rw [e] at hi; simp at hi)
  simp only [Value.slice.injEq, Option.some.injEq, Addr.mk.injEq, and_true, true_and] at he
  obtain ⟨rfl, rfl⟩ := he
  have hall : ∀ j u, (l.flatMap encH)[j]? = some u → w.cell? ⟨g, j, none⟩ = some u := fun j u hu => by
    obtain ⟨y, hy, hyu⟩ := flatMap_at encH_len (by decide) hu
    have := hgcell _ _ _ _ hy hyu
    rwa [show j / 7 * 7 + j % 7 = j by omega] at this
  obtain ⟨cs, hcsd⟩ : ∃ cs, cs = (l.drop i).flatMap encH := ⟨_, rfl⟩
  have hcsl : cs.length = (l.length - i) * 7 := by rw [hcsd, flatMap_len encH_len, List.length_drop]
  have hcsat : ∀ j u, cs[j]? = some u → w.cell? ⟨g, i * 7 + j, none⟩ = some u := fun j u hu => by
    refine hall _ _ ?_
    have e : l.flatMap encH = (l.take i).flatMap encH ++ cs := by rw [hcsd, ← List.flatMap_append, List.take_append_drop]
    have e2 : ((l.take i).flatMap encH).length = i * 7 := by rw [flatMap_len encH_len, List.length_take, Nat.min_eq_left (by omega)]
    rw [e, List.getElem?_append_right (by omega), e2, Nat.add_sub_cancel_left]
    exact hu
  have h1c : ∀ u, u ∈ cs → u.oneCell' = true := fun u hu => by
    rw [hcsd, List.mem_flatMap] at hu
    obtain ⟨y, _, hu⟩ := hu
    exact List.all_eq_true.1 (show (encH y).all Value.oneCell' = true from rfl) u hu
  have hvw := lt_of_blk hvb
  obtain ⟨hu0, i0, hi0, hz0, hzs, hzb⟩ : Try.prog.underlying 32 = some (.slice 42) ∧ ∃ i0, Try.prog.info? 42 = some i0 ∧ i0.zero = some (.agg #[.int .i64 0, .int .i64 0, .int .i64 0, .bool false, .int .i64 0, .int .i64 0, .bool false]) ∧ i0.size = 7 ∧ i0.bytes = 56 := ⟨Try.underlying32, info_parts infoH⟩
  have hold : (Builtin.firstCells i0.size i (.slice (some ⟨g, 0, none⟩) i l.length)).run Try.prog w.drew = .ok ((l.take i).flatMap encH).toArray w.drew := by
    rw [hzs]
    refine run_firstCells_some w.drew 7 i ⟨g, 0, none⟩ i l.length ((l.take i).flatMap encH) (by rw [flatMap_len encH_len, List.length_take, Nat.min_eq_left (by omega)]) (fun j v hj => ?_)
    rw [Addr.add_lit, Nat.zero_add]
    refine hall j v ?_
    have e : l.flatMap encH = (l.take i).flatMap encH ++ cs := by rw [hcsd, ← List.flatMap_append, List.take_append_drop]
    rw [e, List.getElem?_append_left (List.getElem?_eq_some_iff.1 hj).1]
    exact hj
  obtain ⟨G, hG⟩ : ∃ G, G = grownCap w (l.length + 1) l.length 42 := ⟨_, rfl⟩
  obtain ⟨ROW, hROW⟩ : ∃ ROW : Array Value, ROW = ((l.take i).flatMap encH).toArray ++ Builtin.zeroCells (Value.agg #[.int .i64 0, .int .i64 0, .int .i64 0, .bool false, .int .i64 0, .int .i64 0, .bool false]).cells (l.length + 1 - i) ++ Builtin.zeroCells (Value.agg #[.int .i64 0, .int .i64 0, .int .i64 0, .bool false, .int .i64 0, .int .i64 0, .bool false]).cells (G - (l.length + 1)) := ⟨_, rfl⟩
  have hkk : (l.length : Int) + 1 - (i : Int) = ((l.length + 1 - i : Nat) : Int) := by omega
  have hik : i + (l.length + 1 - i) = l.length + 1 := by omega
  have hrz : ∀ ty, (Builtin.append_ #[32, 3] ty #[.slice (some ⟨g, 0, none⟩) i l.length, .int .i64 ((l.length : Int) + 1 - (i : Int))]).run Try.prog w = .ok (.slice (some ⟨w.heap.size, 0, none⟩) (l.length + 1) G) (w.drew.alloc (.cells ROW 42)) := fun ty => by
    have h := Lib.run_append_grow_zeros w 32 3 ty 42 i0 _ .i64 .i64 hu0 Try.underlying3 hi0 hz0 (some ⟨g, 0, none⟩) i l.length ((l.take i).flatMap encH) hold (l.length + 1 - i) (by omega) (by omega) (by omega) (by omega) (by rw [hzb]; omega) (by rw [hzb, hik]; exact growslice_fits (by omega) (by omega))
    rw [hik, ← hG, ← hROW] at h
    rw [hkk]
    exact h
  have hGn : l.length + 1 ≤ G := by rw [hG]; exact grownCap_ge w _ _ _
  have hGm : G ≤ maxLen := by rw [hG]; exact grownCap_le_maxLen w (l.length + 1) l.length 42 (by unfold maxLen; omega)
  have hG63 : G ≤ 9223372036854775807 := by unfold maxLen at hGm; omega
  have hRs : ROW.size = G * 7 := by
    rw [hROW, Array.size_append, Array.size_append, zeroCellsH, zeroCellsH, List.size_toArray, flatMap_len encH_len, List.length_take, Nat.min_eq_left (by omega)]
    omega
  have hRt : ROW.toList.take (i * 7) = (l.take i).flatMap encH := by
    have e2 : ((l.take i).flatMap encH).length = i * 7 := by rw [flatMap_len encH_len, List.length_take, Nat.min_eq_left (by omega)]
    rw [hROW, Array.toList_append, Array.toList_append, List.append_assoc, List.take_append_of_le_length (by simp [e2]), List.take_of_length_le (by simp [e2])]
  obtain ⟨W1, hW1⟩ : ∃ W1, W1 = (w.alloc (.cells ROW 42)).drew := ⟨_, rfl⟩
  have hb0 : W1.heap[w.heap.size]? = some (.cells ROW 42 (0, 0)) := by rw [hW1]; exact block_new w _
  have hWb : Below w.heap.size w W1 := by rw [hW1]; exact ((Below.refl w.heap.size w).alloc (Nat.le_refl _) _).drew
  have hW1v : W1.heap[vb]? = some (.cells (encH x).toArray 42 (0, 0)) := (hWb.block vb hvw).trans hvb
  have hcl1 : ∀ j, j < G * 7 → (W1.cell? ⟨w.heap.size, j, none⟩).isSome = true := fun j hj => by
    rw [cell_of_block hb0, Array.getElem?_eq_getElem (by rw [hRs]; exact hj)]; rfl
  have hfr1 : ∀ j, W1.frozen? ⟨w.heap.size, j, none⟩ = false := fun j => by simp [World.frozen?, hb0]
  have e7 : (encH x).length = 7 := rfl
  have hcpA : ∀ (W : World), (∀ x, W.cell? x = W1.cell? x) → (∀ x, W.frozen? x = W1.frozen? x) → ∀ ty dc, (Builtin.copy_ #[32, 32] ty #[.slice (some ⟨w.heap.size, i * 7, none⟩) (l.length + 1 - i) dc, .slice (some ⟨vb, 0, none⟩) 1 1]).run Try.prog W = .ok (goInt ((1 : Nat) : Int)) (W.setCells w.heap.size (i * 7) (encH x)) := fun W hWc hWf ty dc =>
    run_copy_k W _ _ ty 42 7 w.heap.size (i * 7) (l.length + 1 - i) dc ⟨vb, 0, none⟩ 1 1 1 (encH x) hu0 infoSizeH (by simp only [Nat.min_def]; split <;> omega) rfl
      (fun j v hj => by rw [Addr.add_lit, hWc, Nat.zero_add, cell_of_block hW1v]; simpa using hj)
      (fun j hj => by rw [hWc]; exact hcl1 _ (by omega)) (fun j hj => by rw [hWf]; exact hfr1 _) (fun u hu => List.all_eq_true.1 (show (encH x).all Value.oneCell' = true from rfl) u hu)
  obtain ⟨cur1, hc1, hl1⟩ := setCells_block (g := w.heap.size) (encH x) (i * 7) W1 ROW hb0 (by omega)
  have hc1s : cur1.size = G * 7 := by
    have : cur1.toList.length = G * 7 := by
      rw [hl1]
      simp only [List.length_append, List.length_take, List.length_drop, e7, Array.length_toList, hRs]
      omega
    simpa using this
  have hWa0 : Below w.heap.size w (W1.setCells w.heap.size (i * 7) (encH x)) := below_setCellsD (Nat.le_refl _) _ _ _ hWb
  obtain ⟨Wa, hWa⟩ : ∃ Wa, Wa = W1.setCells w.heap.size (i * 7) (encH x) := ⟨_, rfl⟩
  rw [← hWa] at hc1 hWa0
  obtain ⟨W2, hW2⟩ : ∃ W2, W2 = Wa.drew := ⟨_, rfl⟩
  have hc1 : W2.heap[w.heap.size]? = some (.cells cur1 42 (0, 0)) := by rw [hW2]; exact hc1
  have hWb2 : Below w.heap.size w W2 := by rw [hW2]; exact hWa0.drew
  have hcl2 : ∀ j, j < G * 7 → (W2.cell? ⟨w.heap.size, j, none⟩).isSome = true := fun j hj => by
    rw [cell_of_block hc1, Array.getElem?_eq_getElem (by rw [hc1s]; exact hj)]; rfl
  have hfr2 : ∀ j, W2.frozen? ⟨w.heap.size, j, none⟩ = false := fun j => by simp [World.frozen?, hc1]
  have hcpB : ∀ (W : World), (∀ x, W.cell? x = W2.cell? x) → (∀ x, W.frozen? x = W2.frozen? x) → ∀ ty dc sc, (Builtin.copy_ #[32, 32] ty #[.slice (some ⟨w.heap.size, (i + 1) * 7, none⟩) (l.length - i) dc, .slice (some ⟨g, i * 7, none⟩) (l.length - i) sc]).run Try.prog W = .ok (goInt ((l.length - i : Nat) : Int)) (W.setCells w.heap.size ((i + 1) * 7) cs) := fun W hWc hWf ty dc sc =>
    run_copy_k W _ _ ty 42 7 w.heap.size ((i + 1) * 7) (l.length - i) dc ⟨g, i * 7, none⟩ (l.length - i) sc (l.length - i) cs hu0 infoSizeH (by simp only [Nat.min_def]; split <;> omega) hcsl
      (fun j v hj => by rw [Addr.add_lit, hWc, hWb2.cell (p := ⟨g, i * 7 + j, none⟩) hgl]; exact hcsat j v hj)
      (fun j hj => by rw [hWc]; exact hcl2 _ (by rw [hcsl] at hj; omega)) (fun j hj => by rw [hWf]; exact hfr2 _) h1c
  obtain ⟨cur2, hc2, hl2⟩ := setCells_block (g := w.heap.size) cs ((i + 1) * 7) W2 cur1 hc1 (by rw [hcsl, hc1s]; omega)
  have hc2s : cur2.size = G * 7 := by
    have : cur2.toList.length = G * 7 := by
      rw [hl2]
      simp only [List.length_append, List.length_take, List.length_drop, hcsl, Array.length_toList, hc1s]
      omega
    simpa using this
  have X : Aside (Own (W2.setCells w.heap.size ((i + 1) * 7) cs) base 42 7 encH (.slice (some ⟨w.heap.size, 0, none⟩) (l.length + 1) G) (l.take i ++ x :: l.drop i)) := by
    show Own _ _ _ _ _ _ _
    have hml := ins_len l x i (by omega)
    have h := Own.of_row (w := W2.setCells w.heap.size ((i + 1) * 7) cs) (base := base) (m := l.take i ++ x :: l.drop i) encH_len hbase hc2 hc2s (by rw [hml]; exact hGn) hGm (by
      rw [hml]
      refine ins_row (A := ROW.toList) (by omega) hRt ?_
      have hA7 : (ROW.toList.take (i * 7)).length = i * 7 := by rw [List.length_take, Array.length_toList, hRs]; omega
      have hd : cur1.toList.take ((i + 1) * 7) = ROW.toList.take (i * 7) ++ encH x := by
        rw [hl1, List.take_append_of_le_length (by rw [List.length_append, hA7, e7]; omega), List.take_of_length_le (by rw [List.length_append, hA7, e7]; omega)]
      rw [hd, hcsd] at hl2
      have hfin : cur2.toList.drop ((l.length + 1) * 7) = cur1.toList.drop ((i + 1) * 7 + ((l.drop i).flatMap encH).length) := by
        have e8 : (ROW.toList.take (i * 7) ++ encH x ++ (l.drop i).flatMap encH).length = (l.length + 1) * 7 := by
          rw [List.length_append, List.length_append, hA7, e7, flatMap_len encH_len, List.length_drop]; omega
        rw [hl2, List.drop_append_of_le_length (by rw [e8]; exact Nat.le_refl _), List.drop_of_length_le (by rw [e8]; exact Nat.le_refl _), List.nil_append]
      rw [hfin]
      exact hl2)
    rw [hml] at h
    exact h
  have Y : Aside (Below base w (W2.setCells w.heap.size ((i + 1) * 7) cs)) := below_setCellsD hbase _ _ _ (hWb2.mono hbase)
  have hz2 : ¬ ((i : Int) = (l.length : Int)) := by omega
  have hwr : IntKind.i64.wrap ((i : Int) + 1) = (i : Int) + 1 := IntWalk.i64_in _ (by omega)
  have hin : i ≤ l.length := by omega
  have hb1 : (0 : Int) ≤ (i : Int) + 1 := by omega
  have htn : ((i : Int) + 1).toNat = i + 1 := by omega
  have hb3 : (i : Int) ≤ (l.length : Int) := by omega
  have hb5 : (l.length : Int) < (l.length : Int) + 1 := by omega
  have hGi : ¬ (G = i) := by omega
  have hGim : ¬ (G = i + 1) := by omega
  have hli : ¬ (l.length = i) := by omega
  have hA1 := Lib.hid (fun ty dc => hcpA W1 (fun _ => rfl) (fun _ => rfl) ty dc)
  have hB1 := Lib.hid (fun ty dc sc => hcpB W2 (fun _ => rfl) (fun _ => rfl) ty dc sc)
  clear hcpA hcpB
  subst hW2
  subst hWa
  have HRZ := Lib.hid hrz
  clear hrz
  clear hc1
  clear hl2 hl1 hcl1 hcl2 hfr1 hfr2 hc1 hc2 hvb hW1v hc1s hc2s hcsl hcsd hgf hgcell hall hcsat hold hROW hRs hRt hb0 hik hkk hzs hzb hz0 hi0 hG hGm
  subst hW1
  clear e7 h1c hWb hWb2 hWa0
  generalize encH x = vs at hA1 hB1 X Y
  go_enter Try.func15, Try.ntmps15
  go_upto_region 10 with (at_builtin; go_loud (refine Lib.wpList_append_run _ rfl _ _ _ _ rfl _ _ rfl rfl _ _ (HRZ.out _) ?_))
  have ha1 := hA1.out
  go_upto_region 11 with (fail)
  go_region_law (refine step_copy_runI rfl _ _ 32 32 rfl (.slice (some ⟨w.heap.size, (i + 1) * 7, none⟩) (l.length - i) (G - (i + 1))) (.slice (some ⟨g, i * 7, none⟩) (l.length - i) (l.length - i)) (by simp [Act.eval, Act.put]) (by simp [Act.eval, Act.put]) (hB1.out _ _ _) ?_)
  go_wp2
  go_ret
  exact InsPost.mk X.out Y.out
end Go.Proofs.Ytaknkldbdijkeaa

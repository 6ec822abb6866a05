/- chains: the walk. -/
import Derived.Test.YtfkmdojnkdoffaaWgtW
import Derived.Test.YtfkmdojnkdoffaaCloT
import Derived.Test.YtfkmdojnkdoffaaOwnP
namespace Go.Proofs.Ytfkmdojnkdoffaa
open Go.RowKit

/-- An array of two cells each that is made. -/
theorem made_rests (n : Nat) : madeCells #[Value.int .i64 0, Value.int .i64 0] (n * 2) = ((List.replicate n (⟨0, 0⟩ : Rst)).flatMap encT).toArray := by
  apply Array.ext
  · rw [size_madeCells, List.size_toArray, flatMap_len encT_len, List.length_replicate]
  · intro i h1 h2
    have ha : (madeCells #[Value.int .i64 0, Value.int .i64 0] (n * 2))[i] = Value.int .i64 0 := by
      simp only [madeCells, Array.getElem_map, Array.getElem_range]
      have : i % 2 = 0 ∨ i % 2 = 1 := by omega
      rcases this with e | e <;> simp [e]
    rw [ha]
    have hb : ∀ u, u ∈ (List.replicate n (⟨0, 0⟩ : Rst)).flatMap encT → u = Value.int .i64 0 := by
      intro u hu
      rw [List.mem_flatMap] at hu
      obtain ⟨a, ha, hu⟩ := hu
      rw [List.mem_replicate] at ha
      rw [ha.2] at hu
      simpa [encT] using hu
    exact (hb _ (by simp)).symm
theorem make_rests (n : Nat) (hn : n ≤ 1000) (w : World) : (Instr.makeSlice 57 (.int .i64 (n : Int)) (.int .i64 (n : Int))).run Try.prog w = .ok (.slice (some ⟨w.heap.size, 0, none⟩) n n) (w.alloc (.cells ((List.replicate n (⟨0, 0⟩ : Rst)).flatMap encT).toArray 59)) := by
  obtain ⟨i0, hi0, hz0, hz1, hz2⟩ := info_parts infoT
  have hr := run_make (P := Try.prog) w 57 59 i0 _ Try.underlying57 hi0 hz0 .i64 .i64 n n (by omega) (Int.le_refl _) (by rw [hz2]; omega) (by omega)
  rw [hr, hz1]
  simp only [Int.toNat_natCast]
  rw [show (Value.agg #[Value.int IntKind.i64 0, Value.int IntKind.i64 0]).cells = #[Value.int .i64 0, Value.int .i64 0] from rfl, made_rests]
theorem Own.made {w : World} {base n : Nat} (hb : base ≤ w.heap.size) (hn : n ≤ 1000) : Own (w.alloc (.cells ((List.replicate n (⟨0, 0⟩ : Rst)).flatMap encT).toArray 59)) base 59 2 encT (.slice (some ⟨w.heap.size, 0, none⟩) n n) (List.replicate n (⟨0, 0⟩ : Rst)) := by
  have h := Own.of_row (w := w.alloc (.cells ((List.replicate n (⟨0, 0⟩ : Rst)).flatMap encT).toArray 59)) (base := base) (m := List.replicate n (⟨0, 0⟩ : Rst)) (cap := n) encT_len hb (block_new w _) (by rw [List.size_toArray, flatMap_len encT_len, List.length_replicate]) (by simp) (by unfold maxLen; omega) (by
    rw [List.take_of_length_le (by rw [flatMap_len encT_len]; exact Nat.le_refl _)])
  rw [List.length_replicate] at h
  exact h
/-- Both cells of an element are stored. -/
theorem Own.store2 {w : World} {base g cap n i : Nat} {L : List Rst} {x : Rst} (y : Rst) (h : Own w base 59 2 encT (.slice (some ⟨g, 0, none⟩) n cap) L) (hn : n = L.length) (hx : L[i]? = some x) :
    Own ((w.setCell ⟨g, i * 2, none⟩ (.int .i64 y.wo)).setCell ⟨g, i * 2 + 1, none⟩ (.int .i64 y.nx)) base 59 2 encT (.slice (some ⟨g, 0, none⟩) n cap) (L.set i y) := by
  have h1 := Own.store (i := i) (j := 0) (x := x) (y := ⟨y.wo, x.nx⟩) (u := .int .i64 y.wo) encT_len h hn hx (by decide) rfl
  have hx2 : (L.set i ⟨y.wo, x.nx⟩)[i]? = some ⟨y.wo, x.nx⟩ := by rw [List.getElem?_set_self (List.getElem?_eq_some_iff.1 hx).1]
  have h2 := Own.store (i := i) (j := 1) (x := ⟨y.wo, x.nx⟩) (y := y) (u := .int .i64 y.nx) encT_len h1 (by simp [hn]) hx2 (by decide) rfl
  rw [List.set_set] at h2
  exact h2
def encV1 (v : Value) : List Value := [v]
theorem encV1_len (v : Value) : (encV1 v).length = 1 := rfl
theorem infoSR : (Try.prog.info? 57).map (fun i => (i.zero, i.size, i.bytes)) = some (some (.slice none 0 0), 1, 24) := by kernel_rfl
theorem slSR : SlT Try.prog 55 57 1 24 := by
  obtain ⟨i0, hi, hz0, hz1, hz2⟩ := info_parts infoSR
  exact ⟨i0, _, Try.underlying55, hi, hz0, hz1, hz2, rfl, by decide, by decide⟩
/-- The layers that chains has built: slices by their numbers. -/
def Lays (W : World) (base m : Nat) (LV : List Value) (l : List Rng) (c : List Vw) : Prop := LV.length = m ∧ ∀ j, j < m → ∃ v, LV[j]? = some v ∧ Own W base 59 2 encT v (layL l c j)
theorem Lays.below {W W' : World} {base m : Nat} {LV : List Value} {l : List Rng} {c : List Vw} (h : Lays W base m LV l c) (hb : Below W.heap.size W W') : Lays W' base m LV l c := ⟨h.1, fun j hj => by
  obtain ⟨v, h1, h2⟩ := h.2 j hj
  exact ⟨v, h1, h2.below hb (Nat.le_refl _)⟩⟩
theorem Own.keepT' {α : Type} {w w' : World} {base : Nat} {E E' : TypeId} {k : Nat} {enc : α → List Value} {v : Value} {l : List α} (h : Own w base E k enc v l) (hk : KeepT E' w w') (hne : E ≠ E') : Own w' base E k enc v l := by
  obtain ⟨q1, q2⟩ := h
  refine ⟨q1, ?_⟩
  rcases q2 with q2 | ⟨g, cap, cur, e1, e2, e3, r⟩
  · exact Or.inl q2
  · exact Or.inr ⟨g, cap, cur, e1, e2, hk _ _ _ _ e3 hne, r⟩
theorem Lays.keepT {W W' : World} {base m : Nat} {LV : List Value} {l : List Rng} {c : List Vw} {E : TypeId} (h : Lays W base m LV l c) (hb : KeepT E W W') (hne : 59 ≠ E) : Lays W' base m LV l c := ⟨h.1, fun j hj => by
  obtain ⟨v, h1, h2⟩ := h.2 j hj
  exact ⟨v, h1, h2.keepT' hb hne⟩⟩
theorem Lays.add {W : World} {base m : Nat} {LV : List Value} {l : List Rng} {c : List Vw} {v : Value} (h : Lays W base m LV l c) (hv : Own W base 59 2 encT v (layL l c m)) : Lays W base (m + 1) (LV ++ [v]) l c := by
  refine ⟨by simp [h.1], fun j hj => ?_⟩
  by_cases e : j < m
  · obtain ⟨x, h1, h2⟩ := h.2 j e
    exact ⟨x, by rw [List.getElem?_append_left (by rw [h.1]; exact e)]; exact h1, h2⟩
  · obtain rfl : j = m := by omega
    exact ⟨v, by rw [List.getElem?_append_right (by rw [h.1]; exact Nat.le_refl _), h.1, Nat.sub_self]; rfl, hv⟩
theorem RowsD.keepT {w w' : World} {g n m i : Nat} {f : Nat → Nat → Int} {E : TypeId} (h : RowsD w g n m i f) (hb : KeepT E w w') (h1 : 3 ≠ E) (h2 : 24 ≠ E) : RowsD w' g n m i f := by
  obtain ⟨V, q1, q2, q3⟩ := h
  refine ⟨V, q1, hb _ _ _ _ q2 h2, fun j hj => ?_⟩
  obtain ⟨b, h4, h5⟩ := q3 j hj
  exact ⟨b, h4, hb _ _ _ _ h5 h1⟩
/-- What chains answers: as many layers as asked, at least one. -/
def ChnP (w : World) (l : List Rng) (c : List Vw) (m : Nat) : Ending → World → Prop := fun e w' => ∃ v LV, e = .returned v ∧ Own w' w.heap.size 57 1 encV1 v LV ∧ Lays w' w.heap.size m LV l c ∧ Below w.heap.size w w'
theorem ChnP.mk {w w' : World} {l : List Rng} {c : List Vw} {m : Nat} {v : Value} {LV : List Value} (h1 : Own w' w.heap.size 57 1 encV1 v LV) (h2 : Lays w' w.heap.size m LV l c) (h3 : Below w.heap.size w w') : ChnP w l c m (.returned v) w' := ⟨v, LV, rfl, h1, h2, h3⟩
set_option maxRecDepth 100000 in
set_option maxHeartbeats 4000000 in
theorem chains_any (w : World) (l : List Rng) (u : Value) (c : List Vw) (v : Value) (m : Nat) (hm0 : 1 ≤ m) (hm1 : m ≤ 100) (hl : Sl w 4 encR u l) (hc : Sl w 3 encV v c) (hl1 : l.length ≤ 100) (hq : QuOk l) (hc1 : c.length ≤ 200) (hcv : ∀ v, v ∈ c → (0 ≤ v.ra ∧ v.ra ≤ 1000000000) ∧ (1 ≤ v.we ∧ v.we ≤ 1000000)) :
    Calls Try.prog 32 #[u, v, .int .i64 m] w (ChnP w l c m) := by
  have H1 := Lib.hid (weights_any w l u c v hl hc hl1 hc1 hcv)
  have HST := Lib.hid (fun (i : Nat) (hi : i < l.length) (k : Nat) => step_bd hq (fun v hv => (hcv v hv).2) hc1 hi k)
  have HLB := Lib.hid (layF_bd hq (fun v hv => (hcv v hv).2) hc1)
  have HBB := Lib.hid (fun (last : Nat → Rst) (B : Int) (hB : 0 ≤ B) (hlast : ∀ k, k < l.length → 0 ≤ (last k).wo ∧ (last k).wo ≤ B) (i : Nat) (hi : i < l.length) => bstF_bd hq (fun v hv => (hcv v hv).2) hc1 hB hlast hi)
  obtain ⟨ao, cap, rfl, hcap, hmax, _, hel⟩ := hl
  obtain ⟨co, ccap, rfl, hccap, hcmax, _, _⟩ := hc
  unfold maxLen at hmax hcmax
  have HEL := Lib.hid hel
  clear hel hcv hq
  unfold WgtP at H1
  have hmk := make_rests l.length (by omega)
  go_enter Try.func32, Try.ntmps32
  go_wp2_with fail
  refine H1.out.mono ?_
  rintro e w2 ⟨G, rfl, hrd, hb2⟩
  have HRD := Lib.hid hrd
  have HB2 := Lib.hid hb2
  have hw2 := hb2.size
  obtain ⟨A, hA⟩ : ∃ A, A = w2.heap.size := ⟨_, rfl⟩
  have HA := Lib.hid hA
  have HO0 : Hid (Own (w2.alloc (.cells ((List.replicate l.length (⟨0, 0⟩ : Rst)).flatMap encT).toArray 59)) w.heap.size 59 2 encT (.slice (some ⟨A, 0, none⟩) l.length l.length) (mixL (alnF l c) (fun _ => ⟨0, 0⟩) 0 l.length)) := Lib.hid (by
    rw [mixL_zero, hA]
    have h := Own.made (w := w2) (base := w.heap.size) (n := l.length) hw2 (by omega)
    have e : (List.range l.length).map (fun _ => (⟨0, 0⟩ : Rst)) = List.replicate l.length ⟨0, 0⟩ := by
      apply List.ext_getElem
      · simp
      · intro i h1 h2; simp
    rw [e]
    exact h)
  have HAB : Hid (Below A w2 (w2.alloc (.cells ((List.replicate l.length (⟨0, 0⟩ : Rst)).flatMap encT).toArray 59))) := Lib.hid (by rw [hA]; exact (Below.refl _ w2).alloc (Nat.le_refl _) _)
  clear hrd hb2 H1
  go_wp2
  obtain ⟨wA, hwA⟩ : ∃ wA, wA = w2.alloc (.cells ((List.replicate l.length (⟨0, 0⟩ : Rst)).flatMap encT).toArray 59) := ⟨_, rfl⟩
  rw [← hA, ← hwA]
  rw [← hwA] at HO0 HAB
  clear hwA
  have hwAs : w.heap.size ≤ A := by omega
  clear hA hmk
  go_loopg [26] l.length (fun gg s26 wr => ∃ i : Nat, i ≤ l.length ∧ l.length - i ≤ gg ∧ s26 = .int .i64 i ∧ Aside (Own wr w.heap.size 59 2 encT (.slice (some ⟨A, 0, none⟩) l.length l.length) (mixL (alnF l c) (fun _ => ⟨0, 0⟩) i l.length)) ∧ Aside (Below A w2 wr))
  case atStart => exact ⟨0, by omega, by omega, rfl, (show Own _ _ _ _ _ _ _ from HO0.out), (show Aside _ from HAB.out)⟩
  case round =>
    obtain ⟨i, hi, hgi, rfl, OW, BW⟩ := hrel
    by_cases hil : i < l.length
    · have hiz : (i : Int) < (l.length : Int) := by omega
      obtain ⟨x, hx⟩ : ∃ x, l[i]? = some x := ⟨l[i], by simp [hil]⟩
      obtain ⟨b, off, rfl, hcx⟩ := HEL.out i x hx
      have HGX : Hid (quA l i = x.qu) := Lib.hid (by unfold quA; rw [getD_of hx])
      have hblt : b < w.heap.size := World.block_lt_of_cell? w _ (hcx 0 _ rfl)
      have HBT : Hid (Below w.heap.size w wr) := Lib.hid (HB2.out.trans (BW.out.mono hwAs))
      have x3 : wr.cell? ⟨b, off + i * 4 + 3, none⟩ = some (.int .i64 x.qu) := (HBT.out.cell (p := ⟨b, off + i * 4 + 3, none⟩) hblt).trans (hcx 3 _ rfl)
      obtain ⟨V, hV, hAV, hVj⟩ := HRD.out
      obtain ⟨R, hVi, hAR⟩ := hVj i hil
      have hGl : G < A := by have := hAV.lt; have := HA.out; omega
      have hRl : R < A := by have := hAR.lt; have := HA.out; omega
      have g1 : wr.cell? ⟨G, i, none⟩ = some (.slice (some ⟨R, 0, none⟩) (l.length + 1) (l.length + 1)) := (BW.out.cell (p := ⟨G, i, none⟩) hGl).trans (hAV.cell hVi)
      have g2 : wr.cell? ⟨R, l.length, none⟩ = some (.int .i64 (Wt l c i l.length)) := (BW.out.cell (p := ⟨R, l.length, none⟩) hRl).trans (hAR.cell (rowF_get (by omega)))
      have hws := BW.out.size
      have hbr : b < wr.heap.size := by have := HBT.out.size; omega
      have hmx : (mixL (alnF l c) (fun _ => (⟨0, 0⟩ : Rst)) i l.length)[i]? = some ⟨0, 0⟩ := by rw [mixL_get hil, if_neg (Nat.lt_irrefl _)]
      obtain ⟨gA, cA, heq, _, hAl, _, _, hcA, hfA⟩ := Own.getk encT_len OW.out (by intro e; rw [e] at hmx; simp at hmx)
      simp only [Value.slice.injEq, Option.some.injEq, Addr.mk.injEq, and_true] at heq
      obtain ⟨rfl, hea, heb⟩ := heq
      have a0 : wr.cell? ⟨A, i * 2, none⟩ = some (.int .i64 0) := by have h := hcA i _ 0 _ hmx rfl; simpa using h
      have a1 : wr.cell? ⟨A, i * 2 + 1, none⟩ = some (.int .i64 0) := hcA i _ 1 _ hmx rfl
      have z0 := hfA (i * 2)
      have z1 := hfA (i * 2 + 1)
      have HP := HST.out i hil l.length
      rw [HGX.out] at HP
      obtain ⟨W1, hW1⟩ : ∃ W1, W1 = Wt l c i l.length := ⟨_, rfl⟩
      rw [← hW1] at g2 HP
      have hzw : IntKind.i64.wrap (x.qu * W1) = x.qu * W1 := IntWalk.i64_in _ (by omega)
      have HNX : Hid (∀ W : World, Own W w.heap.size 59 2 encT (.slice (some ⟨A, 0, none⟩) l.length l.length) (mixL (alnF l c) (fun _ => ⟨0, 0⟩) i l.length) → Own ((W.setCell ⟨A, i * 2, none⟩ (.int .i64 (x.qu * W1))).setCell ⟨A, i * 2 + 1, none⟩ (.int .i64 (-1))) w.heap.size 59 2 encT (.slice (some ⟨A, 0, none⟩) l.length l.length) (mixL (alnF l c) (fun _ => ⟨0, 0⟩) (i + 1) l.length)) := Lib.hid (fun W h => by
        have h2 := Own.store2 (i := i) ⟨x.qu * W1, -1⟩ h (by rw [mixL_len]) hmx
        have e2 : (mixL (alnF l c) (fun _ => (⟨0, 0⟩ : Rst)) i l.length).set i ⟨x.qu * W1, -1⟩ = mixL (alnF l c) (fun _ => ⟨0, 0⟩) (i + 1) l.length := by
          rw [show (⟨x.qu * W1, -1⟩ : Rst) = alnF l c i from by unfold alnF; rw [HGX.out, hW1], mixL_set]
        rw [e2] at h2
        exact h2)
      clear hx hcx hV hAV hVj hVi hAR hcA hfA hmx hea heb hW1 HP
      have hl5 : (0 : Int) ≤ (l.length : Int) := by omega
      have hl6 : (l.length : Int) < (l.length : Int) + 1 := by omega
      go_upto_region 7 with (fail)
      go_still_tail 17, (by kernel_rfl)
      change wpList _ _ _ _ _ wr.drew
      go_wp2
      go_roundg (l.length - (i + 1))
      case measure => omega
      case rel => exact ⟨i + 1, by omega, by omega, by go_num, (show Own _ _ _ _ _ _ _ from HNX.out _ OW.out), (show Aside _ from (BW.out.drew.setCell (Nat.le_refl _) _).setCell (Nat.le_refl _) _)⟩
    · obtain rfl : i = l.length := by omega
      rw [mixL_all] at OW
      have HL0 := Lib.hid (show Lays wr w.heap.size 1 [.slice (some ⟨A, 0, none⟩) l.length l.length] l c from ⟨rfl, fun j hj => by
        obtain rfl : j = 0 := by omega
        exact ⟨_, rfl, OW.out⟩⟩)
      have HBW := Lib.hid (HB2.out.trans (BW.out.mono hwAs))
      have HRW : Hid (RowsD wr G l.length (l.length + 1) l.length (Wt l c)) := Lib.hid (HRD.out.belowB BW.out (by rw [HA.out]; exact Nat.le_refl _))
      obtain ⟨LIT, hLIT⟩ : ∃ LIT : Obj, LIT = .cells #[.slice (some ⟨A, 0, none⟩) l.length l.length] 57 := ⟨_, rfl⟩
      have hws := HBW.out.size
      have HO1 : Hid (Own (wr.alloc LIT) w.heap.size 57 1 encV1 (.slice (some ⟨wr.heap.size, 0, none⟩) 1 1) [.slice (some ⟨A, 0, none⟩) l.length l.length]) := Lib.hid (by
        rw [hLIT]
        exact World.ownsRow_lit wr #[.slice (some ⟨A, 0, none⟩) l.length l.length] 1 hws (by simp [maxLen]) rfl)
      have HL1 : Hid (Lays (wr.alloc LIT) w.heap.size 1 [.slice (some ⟨A, 0, none⟩) l.length l.length] l c) := Lib.hid (HL0.out.below ((Below.refl _ wr).alloc (Nat.le_refl _) _))
      have HR1 : Hid (RowsD (wr.alloc LIT) G l.length (l.length + 1) l.length (Wt l c)) := Lib.hid (HRW.out.belowB ((Below.refl _ wr).alloc (Nat.le_refl _) _) (Nat.le_refl _))
      have HB1 : Hid (Below w.heap.size w (wr.alloc LIT)) := Lib.hid (HBW.out.alloc hws _)
      rw [hLIT] at HO1 HL1 HR1 HB1
      clear hLIT HL0 HRW HBW BW OW HRD HB2 HA
      go_wp2
      go_loopg [11] m (fun gg s11 wr => ∃ (p : Nat) (LV : List Value), 1 ≤ p ∧ p ≤ m ∧ m - p ≤ gg ∧ Aside (Own wr w.heap.size 57 1 encV1 s11 LV) ∧ Aside (Lays wr w.heap.size p LV l c) ∧ Aside (LV[0]? = some (.slice (some ⟨A, 0, none⟩) l.length l.length)) ∧ Aside (RowsD wr G l.length (l.length + 1) l.length (Wt l c)) ∧ Aside (Below w.heap.size w wr))
      case atStart => exact ⟨1, _, Nat.le_refl _, hm0, by omega, (show Own _ _ _ _ _ _ _ from HO1.out), (show Aside _ from HL1.out), (show _ = _ from rfl), (show Aside _ from HR1.out), (show Aside _ from HB1.out)⟩
      case round =>
        obtain ⟨wq, rfl⟩ : ∃ wq : World, wq = wr := ⟨_, rfl⟩
        obtain ⟨p, LV, hp1, hpm, hgp, OO, LL, L0, RR, BB⟩ := hrel
        have HLVl : Hid (LV.length = p) := Lib.hid LL.out.1
        obtain ⟨so, sc, Bo, rfl, hsc1, hsc2, _, hso⟩ := own_parts encV1_len OO.out
        unfold maxLen at hsc2
        have hlv := HLVl.out
        rw [hlv] at hsc1 ⊢
        have OO : Aside (Own wq w.heap.size 57 1 encV1 (.slice so p sc) LV) := by have h := OO; rw [hlv] at h; exact h
        by_cases hpl : p < m
        · have hpz : (p : Int) < (m : Int) := by omega
          obtain ⟨vl, hvl, hol⟩ := LL.out.2 (p - 1) (by omega)
          obtain ⟨rfl, hBo, hcl⟩ := hso (p - 1) vl hvl
          have cl : wq.cell? ⟨Bo, p - 1, none⟩ = some vl := by have h := hcl 0 _ rfl; simpa using h
          obtain ⟨la, lcap, gl, rfl, hlc1, hlc2, _, hlel⟩ := own_parts encT_len hol
          have hll : (layL l c (p - 1)).length = l.length := by simp [layL]
          rw [hll] at hlc1 cl
          obtain ⟨v0, hv0, ho0⟩ := LL.out.2 0 (by omega)
          obtain rfl : v0 = .slice (some ⟨A, 0, none⟩) l.length l.length := by have h := L0.out; rw [hv0] at h; simpa using h
          have hw1 : IntKind.i64.wrap ((p : Int) - 1) = (p : Int) - 1 := IntWalk.i64_in _ (by omega)
          have hw2 : ((p : Int) - 1).toNat = p - 1 := by omega
          have hw3 : (0 : Int) ≤ (p : Int) - 1 := by omega
          have hw4 : (p : Int) - 1 < (p : Int) := by omega
          have hll0 : (layL l c 0).length = l.length := by simp [layL]
          have HCL := Lib.hid (cloneT_any wq (layL l c 0) _ (ho0.sl encT_len) (by rw [hll0]; omega))
          have HLE := Lib.hid hlel
          have HO0' := Lib.hid ho0
          unfold OwnRet at HCL
          clear hvl hso hcl hol hv0 hlel ho0 hlv
          go_wp2_with fail
          refine HCL.out.mono ?_
          rintro e w5 ⟨v5, rfl, ho5, hb5⟩
          have HB5 := Lib.hid hb5
          have hC5 := hb5.size
          obtain ⟨C, hC⟩ : ∃ C, C = wq.heap.size := ⟨_, rfl⟩
          rw [← hC] at HB5 ho5 hC5
          have hCw : w.heap.size ≤ C := by rw [hC]; exact BB.out.size
          have HF : Hid (∀ i, layF l c p i = bstF l c (layF l c (p - 1)) i l.length) := Lib.hid (fun i => by
            obtain ⟨p', rfl⟩ : ∃ p', p = p' + 1 := ⟨p - 1, by omega⟩
            rfl)
          have HO6 : Hid (Own w5 C 59 2 encT v5 (mixL (layF l c p) (alnF l c) 0 l.length)) := Lib.hid (by rw [mixL_zero]; exact ho5)
          obtain ⟨ya, ycap, Y, rfl, hyc1, hyc2, hYC, hyy⟩ := own_parts encT_len HO6.out
          have HYY : Hid (∀ i, i < l.length → ya = some ⟨Y, 0, none⟩) := Lib.hid (fun i hi => (hyy i _ (mixL_get hi)).1)
          rw [mixL_len] at HO6 hyc1 ⊢
          unfold maxLen at hyc2
          obtain ⟨V, hV, hAV, hVj⟩ := RR.out
          have HVJ := Lib.hid hVj
          have HAV := Lib.hid hAV
          have HELq := Lib.hid (el_below HEL.out BB.out (Nat.le_refl _))
          have HWC := Lib.hid hC
          have HLAB : Hid (∀ k, k < l.length → la = some ⟨gl, 0, none⟩ ∧ gl < C ∧ wq.cell? ⟨gl, k * 2, none⟩ = some (.int .i64 (layF l c (p - 1) k).wo)) := Lib.hid (fun k hk => by
            obtain ⟨h1, h2, h3⟩ := HLE.out k (layF l c (p - 1) k) (by simp [layL, hk])
            exact ⟨h1, by rw [hC]; exact h2, by have h := h3 0 _ rfl; simpa using h⟩)
          clear ho5 hb5 hyy hV hAV hVj hC HCL HLE cl
          go_wp2
          go_loopg [63] l.length (fun g3 s63 wr => ∃ i : Nat, i ≤ l.length ∧ l.length - i ≤ g3 ∧ s63 = .int .i64 i ∧ Aside (Own wr C 59 2 encT (.slice ya l.length ycap) (mixL (layF l c p) (alnF l c) i l.length)) ∧ Aside (Below C w5 wr))
          case atStart => exact ⟨0, by omega, by omega, rfl, (show Own _ _ _ _ _ _ _ from HO6.out), (show Aside _ from Below.refl _ _)⟩
          case round =>
            obtain ⟨wi, rfl⟩ : ∃ wi : World, wi = wr := ⟨_, rfl⟩
            obtain ⟨i, hi, hgi, rfl, OI, BI⟩ := hrel
            by_cases hil : i < l.length
            · have hiz : (i : Int) < (l.length : Int) := by omega
              obtain rfl := HYY.out i hil
              obtain ⟨x, hx⟩ : ∃ x, l[i]? = some x := ⟨l[i], by simp [hil]⟩
              obtain ⟨b, off, rfl, hcx⟩ := HELq.out i x hx
              have HGX : Hid (quA l i = x.qu) := Lib.hid (by unfold quA; rw [getD_of hx])
              have hbC : b < C := by have h1 : b < wq.heap.size := World.block_lt_of_cell? wq _ (hcx 0 _ rfl); have h2 := HWC.out; omega
              have HX3 : Hid (wq.cell? ⟨b, off + i * 4 + 3, none⟩ = some (.int .i64 x.qu)) := Lib.hid (hcx 3 _ rfl)
              obtain ⟨R, hVi, hAR⟩ := HVJ.out i hil
              have HG1 : Hid (wq.cell? ⟨G, i, none⟩ = some (.slice (some ⟨R, 0, none⟩) (l.length + 1) (l.length + 1))) := Lib.hid (HAV.out.cell hVi)
              have hGC : G < C := by have := HAV.out.lt; have := HWC.out; omega
              have hRC : R < C := by have := hAR.lt; have := HWC.out; omega
              have HAR := Lib.hid hAR
              have HO7 : Hid (Own wi C 59 2 encT (.slice (some ⟨Y, 0, none⟩) l.length ycap) ((mixL (layF l c p) (alnF l c) i l.length).set i (bstF l c (layF l c (p - 1)) i (i + 1)))) := Lib.hid (by rw [bstF_below _ _ _ _ _ (Nat.le_refl _), mixL_self]; exact OI.out)
              have HBQ5 : Hid (Below C wq wi) := Lib.hid (HB5.out.trans BI.out)
              have hi1 : IntKind.i64.wrap ((i : Int) + 1) = (i : Int) + 1 := IntWalk.i64_in _ (by omega)
              clear hx hcx hVi hAR OI
              go_wp2
              go_loopg [15] l.length (fun g4 s15 wr => ∃ k : Nat, i + 1 ≤ k ∧ k ≤ l.length ∧ l.length - k ≤ g4 ∧ s15 = .int .i64 k ∧ Aside (Own wr C 59 2 encT (.slice (some ⟨Y, 0, none⟩) l.length ycap) ((mixL (layF l c p) (alnF l c) i l.length).set i (bstF l c (layF l c (p - 1)) i k))) ∧ Aside (Below C w5 wr))
              case atStart => exact ⟨i + 1, Nat.le_refl _, by omega, by omega, by go_num, (show Own _ _ _ _ _ _ _ from HO7.out), (show Aside _ from BI.out)⟩
              case round =>
                obtain ⟨k, hik, hk, hgk, rfl, OK, BK⟩ := hrel
                by_cases hkl : k < l.length
                · have hkz : (k : Int) < (l.length : Int) := by omega
                  obtain ⟨y, hy⟩ : ∃ y, l[k]? = some y := ⟨l[k], by simp [hkl]⟩
                  obtain ⟨b', off', hbo, hcy⟩ := HELq.out k y hy
                  simp only [Option.some.injEq, Addr.mk.injEq, and_true] at hbo
                  obtain ⟨rfl, rfl⟩ := hbo
                  have HGY : Hid (quA l k = y.qu) := Lib.hid (by unfold quA; rw [getD_of hy])
                  have HBQ : Hid (Below C wq wr) := Lib.hid (HB5.out.trans BK.out)
                  obtain ⟨rfl, hglC, hlk⟩ := HLAB.out k hkl
                  have hlb := HLB.out (p - 1) k hkl
                  obtain ⟨lw, hlw⟩ : ∃ lw, lw = (layF l c (p - 1) k).wo := ⟨_, rfl⟩
                  rw [← hlw] at hlk hlb
                  have hlb2 : 0 ≤ lw ∧ lw ≤ 101 * 200000000000000 := by
                    refine ⟨hlb.1, Int.le_trans hlb.2 (Int.mul_le_mul_of_nonneg_right (by omega) (by omega))⟩
                  have HP := HST.out i hil k
                  rw [HGX.out] at HP
                  obtain ⟨W1, hW1⟩ : ∃ W1, W1 = Wt l c i k := ⟨_, rfl⟩
                  have hrk := HAR.out.cell (rowF_get (show k < l.length + 1 by omega))
                  rw [← hW1] at HP hrk
                  have hcb := HBB.out (layF l c (p - 1)) (101 * 200000000000000) (by omega) (fun q hq => by
                    have := HLB.out (p - 1) q hq
                    exact ⟨this.1, Int.le_trans this.2 (Int.mul_le_mul_of_nonneg_right (by omega) (by omega))⟩) i hil k hk
                  obtain ⟨cur, hcur⟩ : ∃ cur, cur = bstF l c (layF l c (p - 1)) i k := ⟨_, rfl⟩
                  have HNX : Hid (bstF l c (layF l c (p - 1)) i (k + 1) = if x.qu < y.qu ∧ cur.wo < x.qu * W1 + lw then ⟨x.qu * W1 + lw, k⟩ else cur) := Lib.hid (by
                    rw [show bstF l c (layF l c (p - 1)) i (k + 1) = tryF l c (layF l c (p - 1)) i k (bstF l c (layF l c (p - 1)) i k) from rfl, ← hcur]
                    unfold tryF
                    rw [HGX.out, HGY.out, ← hW1, ← hlw]
                    by_cases h : x.qu < y.qu ∧ cur.wo < x.qu * W1 + lw
                    · rw [if_pos h, if_pos ⟨by omega, h⟩]
                    · rw [if_neg h, if_neg (fun h2 => h h2.2)])
                  rw [← hcur] at OK hcb
                  have hmx := mixL_cur (f := layF l c p) (g := alnF l c) (z := cur) hil
                  obtain ⟨gA, cA, heq, _, hYl, _, _, hcA, hfA⟩ := Own.getk encT_len OK.out (by intro e; rw [e] at hmx; simp at hmx)
                  simp only [Value.slice.injEq, Option.some.injEq, Addr.mk.injEq, and_true] at heq
                  obtain ⟨rfl, hea, heb⟩ := heq
                  have a0 : wr.cell? ⟨Y, i * 2, none⟩ = some (.int .i64 cur.wo) := by have h := hcA i _ 0 _ hmx rfl; simpa using h
                  have a1 : wr.cell? ⟨Y, i * 2 + 1, none⟩ = some (.int .i64 cur.nx) := hcA i _ 1 _ hmx rfl
                  have z0 := hfA (i * 2)
                  have z1 := hfA (i * 2 + 1)
                  have x3 := (HBQ.out.cell (p := ⟨b, off + i * 4 + 3, none⟩) hbC).trans HX3.out
                  have y3 : wr.cell? ⟨b, off + k * 4 + 3, none⟩ = some (.int .i64 y.qu) := (HBQ.out.cell (p := ⟨b, off + k * 4 + 3, none⟩) hbC).trans (hcy 3 _ rfl)
                  have g1 := (HBQ.out.cell (p := ⟨G, i, none⟩) hGC).trans HG1.out
                  have r1 := (HBQ.out.cell (p := ⟨R, k, none⟩) hRC).trans hrk
                  have l1 := (HBQ.out.cell (p := ⟨gl, k * 2, none⟩) hglC).trans hlk
                  have HST2 : Hid (∀ W : World, Own W C 59 2 encT (.slice (some ⟨Y, 0, none⟩) l.length ycap) ((mixL (layF l c p) (alnF l c) i l.length).set i cur) → Own ((W.setCell ⟨Y, i * 2, none⟩ (.int .i64 (x.qu * W1 + lw))).setCell ⟨Y, i * 2 + 1, none⟩ (.int .i64 k)) C 59 2 encT (.slice (some ⟨Y, 0, none⟩) l.length ycap) ((mixL (layF l c p) (alnF l c) i l.length).set i ⟨x.qu * W1 + lw, k⟩)) := Lib.hid (fun W h => by
                    have h2 := Own.store2 (i := i) ⟨x.qu * W1 + lw, k⟩ h (by rw [List.length_set, mixL_len]) hmx
                    rw [List.set_set] at h2
                    exact h2)
                  have hpw : IntKind.i64.wrap (x.qu * W1) = x.qu * W1 := IntWalk.i64_in _ (by omega)
                  have hzw : IntKind.i64.wrap (x.qu * W1 + lw) = x.qu * W1 + lw := IntWalk.i64_in _ (by omega)
                  have hkz2 : (k : Int) < (l.length : Int) + 1 := by omega
                  have hk1 : IntKind.i64.wrap ((k : Int) + 1) = (k : Int) + 1 := IntWalk.i64_in _ (by omega)
                  clear hy hcy hlw hW1 hcur hrk hlk hlb hcb hcA hfA hmx hea heb HP hlb2 HGY
                  have HXX : Hid (∀ n, Own (wr.drewN n) C 59 2 encT (.slice (some ⟨Y, 0, none⟩) l.length ycap) ((mixL (layF l c p) (alnF l c) i l.length).set i cur)) := Lib.hid (fun n => OK.out)
                  have HBX : Hid (∀ n, Below C w5 (wr.drewN n)) := Lib.hid (fun n => below_drewN BK.out n)
                  clear OK BK
                  go_upto_region 19 with (fail)
                  go_quiet (fail)
                  go_upto_region 20 with (fail)
                  have hund : undef = Value.tuple #[] := rfl
                  cases e1 : decide (x.qu < y.qu)
                  case false =>
                    have e1' : ¬ x.qu < y.qu := of_decide_eq_false e1
                    have HN2 : Hid (bstF l c (layF l c (p - 1)) i (k + 1) = cur) := Lib.hid (by rw [HNX.out, if_neg (fun h => e1' h.1)])
                    go_quiet (fail)
                    clear hund
                    go_wp2
                    go_roundg (l.length - (k + 1))
                    case measure => omega
                    case rel => exact ⟨k + 1, by omega, by omega, by omega, by go_num, (show Aside (Own _ _ _ _ _ _ _) from by rw [HN2.out]; exact HXX.out _), (show Aside _ from HBX.out _)⟩
                  case true =>
                    have e1' : x.qu < y.qu := of_decide_eq_true e1
                    cases e2 : decide (cur.wo < x.qu * W1 + lw)
                    case false =>
                      have e2' : ¬ cur.wo < x.qu * W1 + lw := of_decide_eq_false e2
                      have HN2 : Hid (bstF l c (layF l c (p - 1)) i (k + 1) = cur) := Lib.hid (by rw [HNX.out, if_neg (fun h => e2' h.2)])
                      go_quiet (fail)
                      clear hund
                      go_wp2
                      go_roundg (l.length - (k + 1))
                      case measure => omega
                      case rel => exact ⟨k + 1, by omega, by omega, by omega, by go_num, (show Aside (Own _ _ _ _ _ _ _) from by rw [HN2.out]; exact HXX.out _), (show Aside _ from HBX.out _)⟩
                    case true =>
                      have e2' : cur.wo < x.qu * W1 + lw := of_decide_eq_true e2
                      have HN2 : Hid (bstF l c (layF l c (p - 1)) i (k + 1) = ⟨x.qu * W1 + lw, k⟩) := Lib.hid (by rw [HNX.out, if_pos ⟨e1', e2'⟩])
                      go_quiet (fail)
                      clear hund
                      go_wp2
                      go_roundg (l.length - (k + 1))
                      case measure => omega
                      case rel => exact ⟨k + 1, by omega, by omega, by omega, by go_num, (show Aside (Own _ _ _ _ _ _ _) from by rw [HN2.out]; exact HST2.out _ (HXX.out _)), (show Aside _ from ((HBX.out _).setCell hYC _).setCell hYC _)⟩
                · obtain rfl : k = l.length := by omega
                  have HN2 : Hid ((mixL (layF l c p) (alnF l c) i l.length).set i (bstF l c (layF l c (p - 1)) i l.length) = mixL (layF l c p) (alnF l c) (i + 1) l.length) := Lib.hid (by rw [← HF.out, mixL_set])
                  go_wp2
                  go_roundg (l.length - (i + 1))
                  case measure => omega
                  case rel => exact ⟨i + 1, by omega, by omega, by go_num, (show Aside (Own _ _ _ _ _ _ _) from by rw [← HN2.out]; exact OK.out), BK⟩
            · obtain rfl : i = l.length := by omega
              rw [mixL_all] at OI
              have HOL : Hid (Own wi w.heap.size 59 2 encT (.slice ya l.length ycap) (layL l c p)) := Lib.hid (OI.out.rebase hCw)
              have HBQ : Hid (Below C wq wi) := Lib.hid (HB5.out.trans BI.out)
              have hbq : Below wq.heap.size wq wi := by have h := HBQ.out; rw [HWC.out] at h; exact h
              have HLI : Hid (Lays wi w.heap.size p LV l c) := Lib.hid (LL.out.below hbq)
              have HRI : Hid (RowsD wi G l.length (l.length + 1) l.length (Wt l c)) := Lib.hid (RR.out.belowB hbq (Nat.le_refl _))
              have HOI : Hid (Own wi w.heap.size 57 1 encV1 (.slice (some ⟨Bo, 0, none⟩) p sc) LV) := Lib.hid (OO.out.below hbq (Nat.le_refl _))
              have HBI : Hid (Below w.heap.size w wi) := Lib.hid (BB.out.thru hbq)
              have hwi := HBI.out.size
              have HL00 := Lib.hid L0.out
              clear OI BI OO LL RR BB L0 hbq
              go_wp2_with (at_builtin; go_loud (refine wpList_pushK rfl _ _ 55 rfl slSR (enc := encV1) rfl rfl (.slice ya l.length ycap) rfl rfl rfl HOI.out rfl (by rw [HLVl.out]; omega) hwi ?_); intro v7 w7 ho7 hb7 hk7; have hho := Lib.hid ho7; have hhb := Lib.hid hb7; have hhk := Lib.hid hk7; clear ho7 hb7 hk7)
              go_roundg (m - (p + 1))
              case measure => omega
              case rel =>
                exact ⟨p + 1, LV ++ [.slice ya l.length ycap], by omega, by omega, by omega, (show Own _ _ _ _ _ _ _ from hho.out), (show Aside _ from ((HLI.out.keepT hhk.out (by decide)).add (HOL.out.keepT' hhk.out (by decide)))), (show _ = _ from by rw [List.getElem?_append_left (by rw [HLVl.out]; omega)]; exact HL00.out), (show Aside _ from HRI.out.keepT hhk.out (by decide) (by decide)), (show Aside _ from HBI.out.trans hhb.out)⟩
        · obtain rfl : p = m := by omega
          go_wp2
          go_ret
          exact ChnP.mk OO.out LL.out BB.out
end Go.Proofs.Ytfkmdojnkdoffaa

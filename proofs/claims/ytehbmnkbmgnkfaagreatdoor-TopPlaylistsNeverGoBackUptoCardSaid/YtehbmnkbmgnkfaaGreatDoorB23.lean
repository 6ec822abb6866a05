/- newWorld: the walk. -/
import Derived.Test.YtehbmnkbmgnkfaaGreatDoorB16
import Derived.Test.YtehbmnkbmgnkfaaGreatDoorB13
import Derived.Shelf.SlicesE.DeleteFunc
import Derived.Shelf.SlGeneric
import Derived.Test.YtehbmnkbmgnkfaaGreatDoorProg
import Derived.Test.YtehbmnkbmgnkfaaGreatDoorB15
import Derived.Lib.OwnBridge
import Derived.Lib.SliceRun
import Derived.LaidEqlPtr
namespace Go.Proofs.YtehbmnkbmgnkfaaGreatDoor
open Go.RowKit

theorem infoGt : (Tryz.prog.info? 57).map (fun i => (i.zero, i.size, i.bytes)) = some (some (.agg #[.int .i64 0, .int .i64 0, .int .i64 0, .string ⟨#[]⟩, .int .i64 0]), 5, 48) := by kernel_rfl
theorem infoSt : (Tryz.prog.info? 132).map (fun i => (i.zero, i.size, i.bytes)) = some (some (.pointer none), 1, 8) := by kernel_rfl
theorem slSt : SlT Tryz.prog 74 132 1 8 := by
  obtain ⟨i0, hi, hz0, hz1, hz2⟩ := info_parts infoSt
  exact ⟨i0, _, Tryz.underlying74, hi, hz0, hz1, hz2, rfl, by decide, by decide⟩
theorem made_gots (n : Nat) : madeCells #[Value.int .i64 0, .int .i64 0, .int .i64 0, .string ⟨#[]⟩, .int .i64 0] (n * 5) = ((List.replicate n (⟨0, 0, 0, ⟨#[]⟩, 0⟩ : Gtn)).flatMap encN).toArray := by
  apply Array.toList_inj.1
  have e : ∀ m, (madeCells #[Value.int .i64 0, .int .i64 0, .int .i64 0, .string ⟨#[]⟩, .int .i64 0] m).toList = (List.range m).map fun j => #[Value.int .i64 0, .int .i64 0, .int .i64 0, .string ⟨#[]⟩, .int .i64 0][j % 5]! := fun m => by
    unfold madeCells
    simp
  rw [e]
  show _ = (List.replicate n _).flatMap encN
  induction n with
  | zero => rfl
  | succ n ih =>
    rw [List.replicate_succ', List.flatMap_append, ← ih, show (n + 1) * 5 = n * 5 + 1 + 1 + 1 + 1 + 1 by omega]
    simp only [List.range_succ, List.map_append, List.append_assoc, List.map_cons, List.map_nil]
    rw [show (n * 5) % 5 = 0 by omega, show (n * 5 + 1) % 5 = 1 by omega, show (n * 5 + 1 + 1) % 5 = 2 by omega, show (n * 5 + 1 + 1 + 1) % 5 = 3 by omega, show (n * 5 + 1 + 1 + 1 + 1) % 5 = 4 by omega]
    rfl
theorem make_gots (n : Nat) (hn : n ≤ 1000) (w : World) : (Instr.makeSlice 53 (.int .i64 (n : Int)) (.int .i64 (n : Int))).run Tryz.prog w = .ok (.slice (some ⟨w.heap.size, 0, none⟩) n n) (w.alloc (.cells ((List.replicate n (⟨0, 0, 0, ⟨#[]⟩, 0⟩ : Gtn)).flatMap encN).toArray 57)) := by
  obtain ⟨i0, hi0, hz0, hz1, hz2⟩ := info_parts infoGt
  have hr := run_make (P := Tryz.prog) w 53 57 i0 _ Tryz.underlying53 hi0 hz0 .i64 .i64 n n (by omega) (Int.le_refl _) (by rw [hz2]; omega) (by omega)
  rw [hr, hz1]
  simp only [Int.toNat_natCast]
  rw [← made_gots]
  rfl
structure NewS (w W : World) (d0 d1 d2 d3 : Value) (many : Nat) : Prop where
  bel : Below w.heap.size w W
  size : W.heap.size = w.heap.size + 3
  box : W.heap[w.heap.size]? = some (.cells #[d0, d1, d2, d3] 41 (0, 0))
  got : W.heap[w.heap.size + 1]? = some (.cells ((List.replicate many (⟨0, 0, 0, ⟨#[]⟩, 0⟩ : Gtn)).flatMap encN).toArray 57 (0, 0))
  wld : W.heap[w.heap.size + 2]? = some (.cells #[d0, d1, d2, d3, .slice none 0 0, .slice none 0 0, .int .i64 0, .slice (some ⟨w.heap.size + 1, 0, none⟩) many many, .int .i64 0] 78 (0, 0))
theorem NewS.made {w : World} {d0 d1 d2 d3 : Value} {many : Nat} : NewS w (((w.alloc (Obj.cells #[d0, d1, d2, d3] 41)).alloc (Obj.cells ((List.replicate many (⟨0, 0, 0, ⟨#[]⟩, 0⟩ : Gtn)).flatMap encN).toArray 57)).alloc (Obj.cells #[d0, d1, d2, d3, .slice none 0 0, .slice none 0 0, .int .i64 0, .slice (some ⟨w.heap.size + 1, 0, none⟩) many many, .int .i64 0] 78)).drew d0 d1 d2 d3 many := by
  refine ⟨((((Below.refl _ w).alloc (Nat.le_refl _) _).alloc (by simp) _).alloc (by simp; omega) _).drew, by simp, ?_, ?_, ?_⟩
  · show (((w.alloc _).alloc _).alloc _).heap[w.heap.size]? = _
    rw [Below.heap_alloc _ _ _ (by simp; omega), Below.heap_alloc _ _ _ (by simp)]
    exact block_new w _
  · show (((w.alloc _).alloc _).alloc _).heap[w.heap.size + 1]? = _
    rw [Below.heap_alloc _ _ _ (by simp)]
    have h := block_new (w.alloc (Obj.cells #[d0, d1, d2, d3] 41)) (Obj.cells ((List.replicate many (⟨0, 0, 0, ⟨#[]⟩, 0⟩ : Gtn)).flatMap encN).toArray 57)
    simpa using h
  · show (((w.alloc _).alloc _).alloc _).heap[w.heap.size + 2]? = _
    have h := block_new ((w.alloc (Obj.cells #[d0, d1, d2, d3] 41)).alloc (Obj.cells ((List.replicate many (⟨0, 0, 0, ⟨#[]⟩, 0⟩ : Gtn)).flatMap encN).toArray 57)) (Obj.cells #[d0, d1, d2, d3, .slice none 0 0, .slice none 0 0, .int .i64 0, .slice (some ⟨w.heap.size + 1, 0, none⟩) many many, .int .i64 0] 78)
    simpa using h
/-- So many caches stand. -/
structure NewL (w W : World) (C : List Cch) (d0 d1 d2 d3 : Value) (many i : Nat) : Prop where
  ex : ∃ A, PD W w.heap.size A (day0 ((C.take i).map (stoOf C)) many) ∧ A.q = w.heap.size + 2 ∧ A.d0 = d0 ∧ A.d1 = d1 ∧ A.d2 = d2 ∧ A.d3 = d3 ∧ A.x = [] ∧ offB w.heap.size A.sv
  bel : Below w.heap.size w W
  box : W.heap[w.heap.size]? = some (.cells #[d0, d1, d2, d3] 41 (0, 0))
set_option maxRecDepth 100000 in
set_option maxHeartbeats 4000000 in
theorem newWorld_any (w : World) (C : List Cch) (d0 d1 d2 d3 : Value) (many : Nat) (hC : Sl w 4 encC d0 C) (hm : many ≤ 1000) (hc : C.length ≤ 1000) :
    Calls Tryz.prog 40 #[.agg #[d0, d1, d2, d3], .int .i64 (many : Nat)] w fun e w' => ∃ A, e = .returned (.pointer (some ⟨A.q, 0, none⟩)) ∧ PD w' w.heap.size A (day0 (C.map (stoOf C)) many) ∧ A.d0 = d0 ∧ A.d1 = d1 ∧ A.d2 = d2 ∧ A.d3 = d3 ∧ Below w.heap.size w w' := by
  have hmk := make_gots many hm
  go_enter Tryz.func40, Tryz.ntmps40
  go_upto_region 1 with (fail)
  go_cut [5] (fun s5 W => s5 = .pointer (some ⟨w.heap.size + 2, 0, none⟩) ∧ Aside (NewS w W d0 d1 d2 d3 many))
  case first =>
    go_region_law (fail)
    all_goals go_wp2
    all_goals go_meet
    all_goals exact ⟨by simp, (show Aside _ from NewS.made)⟩
  obtain ⟨rfl, NS⟩ := hcut
  obtain ⟨w1, rfl⟩ : ∃ W : World, W = wc := ⟨_, rfl⟩
  have HNS := Lib.hid NS.out
  clear NS hmk
  obtain ⟨ao, cap, rfl, hcap, hmax, hnil, hel⟩ := hC
  have HCC := Lib.hid hel
  have HC0 : Hid (Sl w 4 encC (.slice ao C.length cap) C) := Lib.hid ⟨ao, cap, rfl, hcap, hmax, hnil, hel⟩
  obtain ⟨A0, hp0, ha0⟩ := PD.start (W := w1) (B := w.heap.size) (q := w.heap.size + 2) (g := w.heap.size + 1) (many := many) (by have := HNS.out.size; omega) ⟨by omega, HNS.out.wld⟩ ⟨by omega, HNS.out.got⟩ (by omega) hm
  have b0 : w1.cell? ⟨w.heap.size, 0, none⟩ = some (.slice ao C.length cap) := cellF HNS.out.box 0 rfl
  have HL0 : Hid (NewL w w1 C (.slice ao C.length cap) d1 d2 d3 many 0) := Lib.hid ⟨⟨A0, by simpa using hp0, ha0.1, ha0.2.1, ha0.2.2.1, ha0.2.2.2.1, ha0.2.2.2.2.1, ha0.2.2.2.2.2.1, by rw [ha0.2.2.2.2.2.2]; exact offB.nil _⟩, HNS.out.bel, HNS.out.box⟩
  unfold maxLen at hmax
  clear hel hnil hp0 ha0
  go_wp2_with fail
  clear b0
  go_loopg [7, 8, 17] C.length (fun gg s7 s8 s17 wr => ∃ i : Nat, i ≤ C.length ∧ C.length - i ≤ gg ∧ s17 = .int .i64 i ∧ Aside (NewL w wr C (.slice ao C.length cap) d1 d2 d3 many i))
  case atStart => exact ⟨0, Nat.zero_le _, by omega, rfl, (show Aside _ from HL0.out)⟩
  case round =>
    obtain ⟨wq, rfl⟩ : ∃ wq : World, wq = wr := ⟨_, rfl⟩
    obtain ⟨i, hi, hgi, rfl, NL⟩ := hrel
    by_cases hil : i < C.length
    · have hiz : (i : Int) < (C.length : Int) := by omega
      obtain ⟨c, hc0⟩ : ∃ c, C[i]? = some c := ⟨C[i], by simp [hil]⟩
      obtain ⟨b, off, rfl, hcc⟩ := HCC.out i c hc0
      have hbl := NL.out.bel
      have p0 : w.cell? ⟨b, off + i * 4, none⟩ = some (.string c.na) := hcc 0 _ rfl
      have p1 : w.cell? ⟨b, off + i * 4 + 1, none⟩ = some (.string c.pa) := hcc 1 _ rfl
      have p2 : w.cell? ⟨b, off + i * 4 + 2, none⟩ = some (.int .i64 c.de) := hcc 2 _ rfl
      have p3 : w.cell? ⟨b, off + i * 4 + 3, none⟩ = some (.int .i64 c.ro) := hcc 3 _ rfl
      have c0 := (hbl.cell (p := ⟨b, off + i * 4, none⟩) (World.block_lt_of_cell? w _ p0)).trans p0
      have c1 := (hbl.cell (p := ⟨b, off + i * 4 + 1, none⟩) (World.block_lt_of_cell? w _ p1)).trans p1
      have c2 := (hbl.cell (p := ⟨b, off + i * 4 + 2, none⟩) (World.block_lt_of_cell? w _ p2)).trans p2
      have c3 := (hbl.cell (p := ⟨b, off + i * 4 + 3, none⟩) (World.block_lt_of_cell? w _ p3)).trans p3
      obtain ⟨A, hp, hq, e0, e1, e2, e3, ex, eo⟩ := NL.out.ex
      obtain ⟨w7, hw7⟩ : ∃ w7, w7 = wq.alloc (.cells #[.string c.na, .string c.pa, .int .i64 c.de, .int .i64 c.ro] 35) := ⟨_, rfl⟩
      have hb7 : Below wq.heap.size wq w7 := by rw [hw7]; exact (Below.refl _ wq).alloc (Nat.le_refl _) _
      have hk7 : w7.heap[wq.heap.size]? = some (.cells #[.string c.na, .string c.pa, .int .i64 c.de, .int .i64 c.ro] 35 (0, 0)) := by rw [hw7]; exact block_new wq _
      have hbx : w7.heap[w.heap.size]? = some (.cells #[.slice (some ⟨b, off, none⟩) C.length cap, d1, d2, d3] 41 (0, 0)) := (hb7.block _ (Array.getElem?_eq_some_iff.1 NL.out.box).1).trans NL.out.box
      have hBW7 : Below w.heap.size w w7 := hbl.trans (hb7.mono (by have := hbl.size; omega))
      have HIX := Lib.hid (idxC 65 #[.pointer (some ⟨wq.heap.size, 0, none⟩)] (fun o => isC o c.pa) w7 C (.slice (some ⟨b, off, none⟩) C.length cap) (HC0.out.below hBW7 (Nat.le_refl _)) (enters_of Tryz.func65 (by kernel_rfl) rfl) (fun W y _ hb => isPar c y wq.heap.size W (by
        rw [hb.cell (p := ⟨wq.heap.size, 1, none⟩) (Array.getElem?_eq_some_iff.1 hk7).1]
        exact cellF hk7 1 rfl)))
      have HBW7 := Lib.hid hBW7
      have HP7 := Lib.hid (hp.below hb7)
      have HBX := Lib.hid hbx
      have HK7 := Lib.hid hk7
      have HW7 := Lib.hid hw7
      have HC := Lib.hid hc0
      have HA := Lib.hid (show A.q = w.heap.size + 2 ∧ A.d0 = .slice (some ⟨b, off, none⟩) C.length cap ∧ A.d1 = d1 ∧ A.d2 = d2 ∧ A.d3 = d3 ∧ A.x = [] ∧ offB w.heap.size A.sv from ⟨hq, e0, e1, e2, e3, ex, eo⟩)
      have HGI := Lib.hid hgi
      have HIL := Lib.hid hil
      have b0 : w7.cell? ⟨w.heap.size, 0, none⟩ = some (.slice (some ⟨b, off, none⟩) C.length cap) := cellF hbx 0 rfl
      clear hcc p0 p1 p2 p3 hbl hp hq e0 e1 e2 e3 ex eo hw7 hb7 hk7 hbx hBW7 hc0 NL hgi HL0
      go_upto_region 5 with (fail)
      rw [← HW7.out]
      clear c0 c1 c2 c3
      go_wp2_with fail
      refine HIX.out.mono ?_
      rintro e w8 ⟨rfl, hb8⟩
      clear b0
      have hp8 := HP7.out.below hb8
      have hk8 := (hb8.block _ (Array.getElem?_eq_some_iff.1 HK7.out).1).trans HK7.out
      have hbx8 := (hb8.block _ (Array.getElem?_eq_some_iff.1 HBX.out).1).trans HBX.out
      have y0 := cellF hk8 0 (v := .string c.na) rfl
      have y1 := cellF hk8 1 (v := .string c.pa) rfl
      have y2 := cellF hk8 2 (v := .int .i64 c.de) rfl
      have y3 := cellF hk8 3 (v := .int .i64 c.ro) rfl
      have l7 : wq.heap.size < w8.heap.size := (Array.getElem?_eq_some_iff.1 hk8).1
      have hqb := hp8.qb.2
      rw [HA.out.1] at hqb
      have lq : w.heap.size + 2 < w8.heap.size := (Array.getElem?_eq_some_iff.1 hqb).1
      have lq0 : w.heap.size < w8.heap.size := by omega
      have lq1 : w.heap.size + 1 < w8.heap.size := by omega
      obtain ⟨sv, hsv⟩ : ∃ v, v = A.sv := ⟨_, rfl⟩
      have q4 : w8.cell? ⟨w.heap.size + 2, 4, none⟩ = some sv := by rw [hsv]; exact cellF hqb 4 rfl
      have ho8 := hp8.stores
      have hof := hp8.offSs
      rw [← hsv] at ho8 hof
      rw [HA.out.1] at hof
      obtain ⟨so, sn, sc, rfl⟩ := Own.slv (encP_len A.sb) ho8
      obtain ⟨pr, hpr⟩ : ∃ p, p = cNum C c.pa := ⟨_, rfl⟩
      rw [show fidxC (fun o => isC o c.pa) C = pr from hpr.symm]
      obtain ⟨N8, hN8⟩ : ∃ N, N = w8.heap.size := ⟨_, rfl⟩
      obtain ⟨W3, hW3⟩ : ∃ W3, W3 = ((w8.drew.alloc (.map #[] 0)).alloc (.cells #[.string c.na, .string c.pa, .int .i64 c.de, .int .i64 c.ro, .int .i64 pr, .map (some w8.heap.size), .slice none 0 0, .int .i64 0, .int .i64 0, .int .i64 0, .int .i64 0, .int .i64 0, .int .i64 0] 138)).alloc (.cells #[.pointer (some ⟨w8.heap.size + 1, 0, none⟩)] 132) := ⟨_, rfl⟩
      have hb3 : Below w8.heap.size w8 W3 := by rw [hW3]; exact ((((Below.refl _ w8).drew).alloc (Nat.le_refl _) _).alloc (by simp) _).alloc (by simp; omega) _
      have hlen8 : (day0 ((C.take i).map (stoOf C)) many).st.length = i := by show ((C.take i).map _).length = i; simp; omega
      have hO3 : Own W3 w.heap.size 132 1 (encP (upF A.sb i (w8.heap.size + 1))) (.slice so sn sc) (List.range i) := by
        have h := Own.below ho8 hb3 (Nat.le_refl _)
        rw [hlen8] at h
        have e : (List.range i).flatMap (encP A.sb) = (List.range i).flatMap (encP (upF A.sb i (w8.heap.size + 1))) := fm_congr fun j hj => by
          unfold encP
          rw [upF_other _ _ (by have := List.mem_range.1 hj; omega)]
        unfold Own at h ⊢
        rw [← e]
        exact h
      have hA3 : W3.heap[w8.heap.size + 2]? = some (.cells (encP (upF A.sb i (w8.heap.size + 1)) i).toArray 132 (0, 0)) := by
        rw [hW3]
        have h := block_new ((w8.drew.alloc (.map #[] 0)).alloc (.cells #[.string c.na, .string c.pa, .int .i64 c.de, .int .i64 c.ro, .int .i64 pr, .map (some w8.heap.size), .slice none 0 0, .int .i64 0, .int .i64 0, .int .i64 0, .int .i64 0, .int .i64 0, .int .i64 0] 138)) (.cells #[.pointer (some ⟨w8.heap.size + 1, 0, none⟩)] 132 (0, 0))
        unfold encP
        rw [upF_same]
        simpa using h
      have hm3 : W3.heap[w8.heap.size]? = some (.map #[] 0) := by
        rw [hW3, Below.heap_alloc _ _ _ (by simp; omega), Below.heap_alloc _ _ _ (by simp)]
        exact block_new w8.drew _
      have hs3 : W3.heap[w8.heap.size + 1]? = some (.cells #[.string c.na, .string c.pa, .int .i64 c.de, .int .i64 c.ro, .int .i64 pr, .map (some w8.heap.size), .slice none 0 0, .int .i64 0, .int .i64 0, .int .i64 0, .int .i64 0, .int .i64 0, .int .i64 0] 138 (0, 0)) := by
        rw [hW3, Below.heap_alloc _ _ _ (by simp)]
        have h := block_new (w8.drew.alloc (.map #[] 0)) (.cells #[.string c.na, .string c.pa, .int .i64 c.de, .int .i64 c.ro, .int .i64 pr, .map (some w8.heap.size), .slice none 0 0, .int .i64 0, .int .i64 0, .int .i64 0, .int .i64 0, .int .i64 0, .int .i64 0] 138 (0, 0))
        simpa using h
      have HO3 := Lib.hid hO3
      have HA3 := Lib.hid hA3
      have HNL : Hid ((List.range i).length * 8 ≤ 140737488355328) := Lib.hid (by simp; omega)
      have HBS : Hid (w.heap.size ≤ W3.heap.size) := Lib.hid (by have := hb3.size; omega)
      have HQB : Hid (∀ (W : World) (v5 : Value), KeepB W3 W (.slice so sn sc) v5 → W.cell? ⟨w.heap.size + 2, 4, none⟩ = some (.slice so sn sc) ∧ W.frozen? ⟨w.heap.size + 2, 4, none⟩ = false) := Lib.hid fun W v5 hk => by
        have h5 := ((hk (w.heap.size + 2) (Nat.lt_of_lt_of_le lq hb3.size) hof).1.trans (hb3.block _ lq)).trans hqb
        exact ⟨by rw [hsv]; exact cellF h5 4 rfl, frozF h5 4⟩
      have HFI : Hid (∀ (W : World) (v5 : Value), Own W w.heap.size 132 1 (encP (upF A.sb i (w8.heap.size + 1))) v5 (List.range i ++ [i]) → Below w.heap.size W3 W → KeepB W3 W (.slice so sn sc) v5 → NewL w (W.setCell ⟨w.heap.size + 2, 4, none⟩ v5) C (.slice (some ⟨b, off, none⟩) C.length cap) d1 d2 d3 many (i + 1)) := Lib.hid fun W v5 ho hb hk => by
        have hadd := hp8.addSt HA.out.2.2.2.2.2.1 (stoOf C c) rfl rfl hb3 (mb := w8.heap.size) (sb := w8.heap.size + 1) (mo := .map #[] 0) ⟨rfl, hm3, MapO.of (MapH.made w8.drew _) (block_new w8.drew _)⟩ ⟨rfl, by show _ = some (Obj.cells #[.string c.na, .string c.pa, .int .i64 c.de, .int .i64 c.ro, .int .i64 (cNum C c.pa), _, _, _, _, _, _, _, _] _ _); rw [← hpr]; exact hs3⟩ (W5 := W) (v5 := v5) (by rw [hlen8, List.range_succ]; exact ho) hb.size (by rw [← hsv]; exact hk)
        obtain ⟨A', g1, g2, g3, g4, g5, g6, g7, g8⟩ := hadd
        rw [HA.out.1] at g1 g2
        refine ⟨⟨A', ?_, g2, g3.trans HA.out.2.1, g4.trans HA.out.2.2.1, g5.trans HA.out.2.2.2.1, g6.trans HA.out.2.2.2.2.1, g7, ?_⟩, ?_, ?_⟩
        · have e : day0 ((C.take (i + 1)).map (stoOf C)) many = { day0 ((C.take i).map (stoOf C)) many with st := (day0 ((C.take i).map (stoOf C)) many).st ++ [stoOf C c] } := by
            rw [List.take_add_one, HC.out, List.map_append]
            rfl
          rw [e]
          exact g1
        · rw [g8]
          exact (hk w.heap.size (by have := hb3.size; have := lq; omega) (by rw [hsv]; exact HA.out.2.2.2.2.2.2)).2
        · exact ((HBW7.out.trans (hb8.mono (by have := HBW7.out.size; omega))).trans ((hb3.mono (by have := lq; omega)).trans hb)).setCell (by show w.heap.size ≤ w.heap.size + 2; omega) _
        · rw [Below.heap_setCell _ _ _ _ (by show w.heap.size ≠ w.heap.size + 2; omega)]
          exact ((hk w.heap.size (by have := hb3.size; have := lq; omega) (by rw [hsv]; exact HA.out.2.2.2.2.2.2)).1.trans (hb3.block _ (by have := lq; omega))).trans hbx8
      have HW3 := Lib.hid hW3
      have hmm := @run_makeMap Tryz.prog
      clear hp8 hk8 hbx8 hqb hsv ho8 hof hpr hN8 hb3 hlen8 hO3 hA3 hm3 hs3 hb8
      rw [hW3] at HO3 HA3 HBS HQB HFI
      clear hW3 HW3
      go_upto_region 6 with (fail)
      go_region_law (first | (refine step_pushB (enc := encP (upF A.sb i (w8.heap.size + 1))) (v := .slice so sn sc) (l := List.range i) rfl _ _ 74 rfl slSt (by decide) rfl rfl i rfl rfl HO3.out HA3.out HNL.out HBS.out ?_; intro v5 w5 ho5 hb5 hk5; obtain ⟨z4, f4⟩ := HQB.out _ _ hk5; obtain ⟨so5, sn5, sc5, rfl⟩ := Own.slv (encP_len _) ho5; have HFN := Lib.hid (HFI.out _ _ ho5 hb5 hk5); clear ho5 hb5 hk5) | fail)
      all_goals clear y0 y1 y2 y3 q4 hmm z4 f4
      all_goals go_wp2_with fail
      all_goals go_roundg (C.length - (i + 1))
      all_goals first
        | (have := HGI.out; have := HIL.out; omega)
        | exact ⟨i + 1, by have := HIL.out; omega, by omega, by go_num, (show Aside _ from HFN.out)⟩
    · obtain rfl : i = C.length := by omega
      obtain ⟨A, hp, hq, e0, e1, e2, e3, ex, eo⟩ := NL.out.ex
      rw [List.take_length] at hp
      have HP := Lib.hid hp
      have HB := Lib.hid NL.out.bel
      have HA := Lib.hid (show A.q = w.heap.size + 2 ∧ A.d0 = .slice ao C.length cap ∧ A.d1 = d1 ∧ A.d2 = d2 ∧ A.d3 = d3 from ⟨hq, e0, e1, e2, e3⟩)
      clear hp hq e0 e1 e2 e3 ex eo NL HL0
      go_wp2_with fail
      go_ret
      exact ⟨A, by rw [HA.out.1]; rfl, HP.out, HA.out.2.1, HA.out.2.2.1, HA.out.2.2.2.1, HA.out.2.2.2.2, HB.out⟩
end Go.Proofs.YtehbmnkbmgnkfaaGreatDoor

/- Contracts of the library, laid by the shelf at this seat. -/
namespace Go.Proofs
open Go.Shelf
def Tryz.laysDf_ren : Go.Shelf.Ren := ⟨fun | 10 => 87 | 6 => 103 | n => n, fun | 22 => 134 | 23 => 139 | 25 => 175 | 3 => 3 | 4 => 4 | 0 => 0 | n => n, fun | n => n⟩
theorem Tryz.laysDf : Go.Proofs.SlLaysH.n10 Tryz.prog Tryz.laysDf_ren := {
  mixed := by kernel_rfl
  f6 := ⟨Tryz.f103.name, by decide, Tryz.func103.trans (congrArg some (by kernel_rfl))⟩
  f10 := ⟨Tryz.f87.name, by decide, Tryz.func87.trans (congrArg some (by kernel_rfl))⟩
  t0 := Tryz.underlying0
  a0 := Tryz.isAgg0
  z0 := Tryz.sizeOf0
  v0 := Tryz.zeroValue0
  t3 := Tryz.underlying3
  a3 := Tryz.isAgg3
  z3 := Tryz.sizeOf3
  v3 := Tryz.zeroValue3
  t4 := Tryz.underlying4
  a4 := Tryz.isAgg4
  z4 := Tryz.sizeOf4
  v4 := Tryz.zeroValue4
  t22 := Tryz.underlying134
  a22 := Tryz.isAgg134
  z22 := Tryz.sizeOf134
  v22 := Tryz.zeroValue134
  a23 := Tryz.isAgg139
  z23 := Tryz.sizeOf139
  t25 := Tryz.underlying175
  a25 := Tryz.isAgg175
  z25 := Tryz.sizeOf175
  v25 := Tryz.zeroValue175 }
end Go.Proofs

/- slices.DeleteFunc: an ask leaves the row of those that are under way. -/
namespace Go.Proofs.YtehbmnkbmgnkfaaGreatDoor
open Go.Shelf Go.RowKit Go.Lib Go.Sort

theorem PD.ab_inj {W : World} {B : Nat} {A : Adr} {D : Day} (h : PD W B A D) {a b : Nat} (ha : a < D.ak.length) (hb : b < D.ak.length) (e : A.ab a = A.ab b) : a = b := by
  obtain ⟨M, h1, h2⟩ := h
  have ga := h2.ak a _ (Day.ak_at ha)
  have gb := h2.ak b _ (Day.ak_at hb)
  rw [e] at ga
  have := h1.inj _ _ _ _ _ ga gb
  unfold rAk at this
  omega
theorem infoAk : ∃ j, Tryz.prog.info? 153 = some j ∧ j.size ≠ 0 := by
  have h : (Tryz.prog.info? 153).map (fun i => i.size) = some 6 := by kernel_rfl
  cases e : Tryz.prog.info? 153 with
  | none => rw [e] at h; cases h
  | some j => rw [e] at h; exact ⟨j, rfl, by simp at h; omega⟩
/-- An ask's number, if it is one. -/
def fo (n : Nat) (o : Nat) : Option (Fin n) := if h : o < n then some ⟨o, h⟩ else none
def encO (ab : Nat → Nat) (n : Nat) : Option (Fin n) → Value
  | none => .pointer none
  | some o => .pointer (some ⟨ab o.1, 0, none⟩)
theorem fo_in {n o : Nat} (h : o < n) : fo n o = some ⟨o, h⟩ := dif_pos h
theorem encO_fo (ab : Nat → Nat) {n o : Nat} (h : o < n) : encO ab n (fo n o) = .pointer (some ⟨ab o, 0, none⟩) := by rw [fo_in h]; rfl
theorem encP_fo (ab : Nat → Nat) (n : Nat) : ∀ (l : List Nat), (∀ o, o ∈ l → o < n) → l.flatMap (encP ab) = (l.map (fo n)).map (encO ab n)
  | [], _ => rfl
  | a :: l, h => by
    rw [List.flatMap_cons, encP_fo ab n l (fun o ho => h o (List.mem_cons_of_mem _ ho)), List.map_cons, List.map_cons, encO_fo ab (h a (List.mem_cons_self ..))]
    rfl
set_option maxRecDepth 100000 in
theorem isIt_any (ab : Nat → Nat) (n j N : Nat) (hj : j < n) (x : Option (Fin n)) (W : World) (hc : W.cell? ⟨N, 0, none⟩ = some (.pointer (some ⟨ab j, 0, none⟩))) (hb : ∀ o, o < n → ∃ cs, W.heap[ab o]? = some (.cells cs 153 (0, 0))) (hi : ∀ a b, a < n → b < n → ab a = ab b → a = b) :
    FnGives Tryz.prog 88 #[.pointer (some ⟨N, 0, none⟩)] #[encO ab n x] (.bool (decide (x = fo n j))) W := by
  cases x with
  | none =>
    have hv : decide ((none : Option (Fin n)) = fo n j) = false := by rw [fo_in hj]; simp
    rw [hv]
    show Calls Tryz.prog 88 #[.pointer none, .pointer (some ⟨N, 0, none⟩)] W _
    obtain ⟨ji, hj1, hj2⟩ := infoAk
    have hq : (binOp .eql 139 (.pointer none) (.pointer (some ⟨ab j, 0, none⟩))).run Tryz.prog W = .ok (.bool false) W := by
      have h : ∀ d : Nat, (Op.equalIn (d + 1) 139 (.pointer none) (.pointer (some ⟨ab j, 0, none⟩))).run Tryz.prog W = .ok false W := fun d => by
        simp [Op.equalIn, run_underlying (P := Tryz.prog) Tryz.underlying139]
      simp only [binOp]
      simp [Op.equal, Op.maxDepth, h 9999]
    clear hb hi hj1 hv
    go_enter Tryz.func88, Tryz.ntmps88
    go_wp2
    go_ret
    exact ⟨rfl, 0, rfl⟩
  | some o =>
    show Calls Tryz.prog 88 #[.pointer (some ⟨ab o.1, 0, none⟩), .pointer (some ⟨N, 0, none⟩)] W _
    obtain ⟨ji, hj1, hj2⟩ := infoAk
    by_cases e : o.1 = j
    · have hv : decide (some o = fo n j) = true := by rw [fo_in hj]; simp; exact Fin.ext e
      have hq : (binOp .eql 139 (.pointer (some ⟨ab j, 0, none⟩)) (.pointer (some ⟨ab j, 0, none⟩))).run Tryz.prog W = .ok (.bool true) W := run_eql_ptr_same W _ Tryz.underlying139 hj1
      rw [hv, e]
      clear hb hi hj1 hv
      go_enter Tryz.func88, Tryz.ntmps88
      go_wp2
      go_ret
      exact ⟨rfl, 0, rfl⟩
    · have hv : decide (some o = fo n j) = false := by rw [fo_in hj]; simp; exact fun h => e (by rw [h])
      obtain ⟨c1, b1⟩ := hb o.1 o.2
      obtain ⟨c2, b2⟩ := hb j hj
      have hq : (binOp .eql 139 (.pointer (some ⟨ab o.1, 0, none⟩)) (.pointer (some ⟨ab j, 0, none⟩))).run Tryz.prog W = .ok (.bool false) W := run_eql_ptr_other W Tryz.underlying139 hj1 hj2 (fun h => e (hi _ _ o.2 hj (by simpa using h))) b1 b2
      rw [hv]
      clear hb hi hj1 hv b1 b2
      go_enter Tryz.func88, Tryz.ntmps88
      go_wp2
      go_ret
      exact ⟨rfl, 0, rfl⟩
theorem delA_any (w : World) (B : Nat) (A : Adr) (D : Day) (i j N : Nat) (s : Sto) (h : PD w B A D) (hs : D.st[i]? = some s) (hn : DNum D) (hj : j ∈ s.ar) (hN : w.cell? ⟨N, 0, none⟩ = some (.pointer (some ⟨A.ab j, 0, none⟩))) (hoff : offB N (A.av i)) (hl : s.ar.length ≤ 800000) :
    Calls Tryz.prog 87 #[A.av i, .func (.func 88) #[] #[.pointer (some ⟨N, 0, none⟩)]] w fun e w' => ∃ v', e = .returned v' ∧ Own w' B 139 1 (encP A.ab) v' (s.ar.filter fun o => !decide (o = j)) ∧ Below B w w' ∧ KeepB w w' (A.av i) v' := by
  have eg : ∀ args w, (callFunc 88 args).run Tryz.prog w = .ok (.enter 88 args) w := enters_of Tryz.func88 (by kernel_rfl) rfl
  have ho := h.asks hs
  obtain ⟨n, hnn⟩ : ∃ n, n = D.ak.length := ⟨_, rfl⟩
  have hin : ∀ o, o ∈ s.ar → o < n := fun o ho => by rw [hnn]; exact hn.ar i s hs o ho
  have hjn := hin j hj
  obtain ⟨zs, hzs⟩ : ∃ zs, zs = s.ar.map (fo n) := ⟨_, rfl⟩
  have ho2 : w.ownsRow B 139 1 (A.av i) s.ar.length (zs.map (encO A.ab n)) := by
    rw [hzs, ← encP_fo A.ab n s.ar hin]
    exact ho
  have hne : A.av i ≠ .slice none 0 0 := fun e => by
    rcases ho.2 with ⟨_, h2⟩ | ⟨g, cap, cur, h2, _⟩
    · rw [List.length_eq_zero_iff] at h2
      rw [h2] at hj
      cases hj
    · rw [e] at h2
      cases h2
  obtain ⟨g, cap, hv, hB, hg, hcap, hm, hzl, hH⟩ := holds_of_ownsRow ho2 hne
  have hsz : zs.toArray.size = s.ar.length := by simp [hzl]
  have hNl := World.block_lt_of_cell? w _ hN
  have hNg : N ≠ g := fun e => hoff _ _ _ hv e.symm
  have hab : ∀ o, o < n → ∃ cs, w.heap[A.ab o]? = some (.cells cs 153 (0, 0)) ∧ A.ab o ≠ g := fun o ho => by
    rw [hnn] at ho
    obtain ⟨M, h1, h2⟩ := h
    have ga := h2.ak o _ (Day.ak_at ho)
    exact ⟨_, (h1.at_ _ _ _ ga).2, fun e => OwnM.off h1 (h2.sa i s hs) ga (by unfold rAk rSa; omega) _ _ _ hv e.symm⟩
  have hinj : ∀ a b, a < n → b < n → A.ab a = A.ab b → a = b := fun a b ha hb e => h.ab_inj (by rw [← hnn]; exact ha) (by rw [← hnn]; exact hb) e
  have hcon := AnyE.slices_DeleteFunc Tryz.laysDf (encO A.ab n) (fun x => by cases x <;> rfl) (fun x => decide (x = fo n j)) 88 #[.pointer (some ⟨N, 0, none⟩)] eg none Tryz.zeroValue139 g 0 cap zs.toArray w
    (fun W x hb => isIt_any A.ab n j N hjn x W ((hb.cell (p := ⟨N, 0, none⟩) hNl).trans hN) (fun o ho => by
      obtain ⟨cs, h1, _⟩ := hab o ho
      exact ⟨cs, (hb.block _ (Array.getElem?_eq_some_iff.1 h1).1).trans h1⟩) hinj)
    (fun m os dk x _ => isIt_any A.ab n j N hjn x _ (by
      unfold sortWorld
      rw [cell?_grow _ _ _ (by show N < (putRow _ _ _ _ _).heap.size; rw [size_putRow]; exact hNl), cell?_putRow_other _ _ g 0 _ _ (Or.inl hNg)]
      exact hN) (fun o ho => by
      obtain ⟨cs, h1, h2⟩ := hab o ho
      refine ⟨cs, ?_⟩
      unfold sortWorld
      rw [heap_grow_old _ _ (by rw [size_putRow]; exact (Array.getElem?_eq_some_iff.1 h1).1)]
      simp [putRow, mapBlock, Sort.ahead, Array.getElem?_modify, Ne.symm h2, h1]) hinj) hH (by rw [hsz]; omega) (by rw [hsz]; exact hcap)
  rw [hsz] at hcon
  change Calls Tryz.prog 87 _ _ _ at hcon
  have hF : (zs.filter fun x => !decide (x = fo n j)) = (s.ar.filter fun o => !decide (o = j)).map (fo n) := by
    rw [hzs, List.filter_map]
    congr 1
    refine List.filter_congr fun o hm => ?_
    show (!decide (fo n o = fo n j)) = !decide (o = j)
    rw [fo_in (hin o hm), fo_in hjn]
    by_cases e : o = j
    · subst e; simp
    · rw [decide_eq_false e, decide_eq_false (fun h2 => e (by simpa using h2))]
  obtain ⟨F, hFF⟩ : ∃ F, F = s.ar.filter fun o => !decide (o = j) := ⟨_, rfl⟩
  rw [← hFF] at hF
  have hFl : F.length ≤ s.ar.length := by rw [hFF]; exact List.length_filter_le _ _
  rw [hv]
  refine hcon.mono ?_
  rintro e w' ⟨rfl, q, rfl⟩
  have ezl : zs.toArray.toList = zs := by simp
  rw [ezl, hF, List.length_map]
  rw [hv] at ho2
  have hrow := ownsRow_putRow (q := q) (k := F.length) (ys := F.map (fo n) ++ List.replicate (s.ar.length - F.length) none) ho2 (by simp; omega) hFl
  refine ⟨_, rfl, ?_, below_putRow (Below.refl _ _) hB, fun b hb hob => ⟨?_, offB.mk (hob _ _ _ rfl)⟩⟩
  · rw [← hFF]
    unfold Own
    rw [encP_fo A.ab n F (fun o ho => hin o (by rw [hFF] at ho; exact (List.mem_filter.1 ho).1))]
    have e : List.take F.length (F.map (fo n) ++ List.replicate (s.ar.length - F.length) none) = F.map (fo n) := by
      rw [List.take_append_of_le_length (by simp), List.take_of_length_le (by simp)]
    rw [e] at hrow
    exact hrow
  · have hne : g ≠ b := hob _ _ _ rfl
    simp [putRow, mapBlock, Sort.ahead, Array.getElem?_modify, hne]
end Go.Proofs.YtehbmnkbmgnkfaaGreatDoor

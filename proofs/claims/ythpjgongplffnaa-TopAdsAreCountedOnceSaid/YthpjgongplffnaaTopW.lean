/- TopAdsAreCountedOnce: the walk. -/
import Derived.Test.YthpjgongplffnaaTopA
import Derived.Test.YthpjgongplffnaaCntW
import Derived.Test.YthpjgongplffnaaCloneI
import Derived.Test.YthpjgongplffnaaAlv
import Derived.Deep.RegionHeld3
namespace Go.Proofs.Ythpjgongplffnaa
open Go.RowKit

theorem arrNeq2 (a : Int) (w : World) : (binOp .neq 39 (.agg #[.int .i64 a, .int .i64 a, .int .i64 a, .int .i64 a, .int .i64 a]) (.agg #[.int .i64 a, .int .i64 a, .int .i64 a, .int .i64 a, .int .i64 a])).run Try.prog w = .ok (.bool false) w := by
  have h2 : (Op.equalIn 10000 39 (.agg #[.int .i64 a, .int .i64 a, .int .i64 a, .int .i64 a, .int .i64 a]) (.agg #[.int .i64 a, .int .i64 a, .int .i64 a, .int .i64 a, .int .i64 a])).run Try.prog w = .ok true w := by
    obtain ⟨i0, hi, _⟩ := info_parts infoI
    have h5 : List.range 5 = [0, 1, 2, 3, 4] := rfl
    rw [run_equalIn_array w 9999 _ _ Try.underlying39 hi, h5]
    simp [Op.eqItems, go_sem, cellsI]
  simp [go_sem, h2]
theorem grownBy_set2 (w : World) (g i : Nat) (v : Value) : w.grownBy (w.setCell ⟨g, i, none⟩ v) (some g) :=
  have h : Below g w (w.setCell ⟨g, i, none⟩ v) := (Below.refl g w).setCell (Nat.le_refl _) _
  ⟨h.os, h.tape, h.output, h.size, fun k hk hne => Below.heap_setCell w ⟨g, i, none⟩ v k (fun e => hne (by rw [e]))⟩
theorem frz_of {w : World} {b i : Nat} {c : Array Value} {T : TypeId} (h : w.heap[b]? = some (.cells c T (0, 0))) : w.frozen? ⟨b, i, none⟩ = false := by simp [World.frozen?, h]
def TopP (w : World) : Ending → World → Prop := fun e w' => e = .returned (.bool true) ∧ Below w.heap.size w w'
set_option maxRecDepth 100000 in
set_option maxHeartbeats 4000000 in
theorem topAds_any (w : World) (l : List Prt) (u : Value) (C0 : List Int) (v : Value) (s : ByteArray) (hl : Sl w 3 encP u l) (hw : ∀ p, p ∈ l → WfP p) (hc : Sl w 1 encI v C0) (hcw : ∀ x, x ∈ C0 → -9223372036854775808 ≤ x ∧ x ≤ 9223372036854775807) (hr : C0.length * 8 ≤ 140737488355328) (hs : s.size ≤ 9223372036854775807) :
    Calls Try.prog 3 #[u, v, .string s] w (TopP w) := by
  have H1 := Lib.hid (checkParts_any w l u hl hw)
  have H2 := Lib.hid (fun (W : World) (hb : Below w.heap.size w W) (a n : Int) => due_own W l u a n (hl.below hb (Nat.le_refl _)) hw)
  have H3 := Lib.hid (fun (W : World) (hb : Below w.heap.size w W) (es : List Ev) (x : Value) (hx : Sl W 4 encE x es) (hs : ∀ e, e ∈ es → WfE e) => counts_any W l es u x (hl.below hb (Nat.le_refl _)) hx hw hs)
  have H4 := Lib.hid (fun (W : World) (hb : Below w.heap.size w W) => cloneI_any W C0 v (hc.below hb (Nat.le_refl _)) hr)
  have HWF := Lib.hid hw
  obtain ⟨ao, cap, rfl, hcap, hmax, hnil, hel⟩ := hl
  obtain ⟨vo, vcap, rfl, hvcap, hvmax, _, _⟩ := hc
  unfold maxLen at hmax hvmax
  have HEL := Lib.hid hel
  have HCW := Lib.hid hcw
  clear hel hw hnil hcw
  unfold DueOwn at H2
  unfold CntPost at H3
  unfold OwnRet at H4
  obtain ⟨f, hf⟩ : ∃ f, f = checkP l := ⟨_, rfl⟩
  rw [← hf] at H1
  have HF := Lib.hid hf
  clear hf
  go_enter Try.func3, Try.ntmps3
  go_wp2_with fail
  refine H1.out.mono ?_
  rintro e w1 ⟨rfl, hb1⟩
  have HB1 := Lib.hid hb1
  clear hb1 H1
  by_cases hf0 : f = 0
  case neg =>
    have hne : (f != 0) = true := by simpa using hf0
    have heq : (f == 0) = false := by simpa using hf0
    go_wp2_with (go_at_call 5; refine (alive_any _).mono ?_; rintro e w6 ⟨rfl, hb6⟩)
    go_ret
    exact ⟨rfl, HB1.out.thru hb6⟩
  subst hf0
  have HCP : Hid (checkP l = 0) := Lib.hid HF.out.symm
  have hl1000 := (checkP_parts HCP.out).1
  obtain ⟨S, hS⟩ : ∃ S, S = sumL l := ⟨_, rfl⟩
  have HSN : Hid (∀ k, 0 ≤ sumL (l.take k) ∧ sumL (l.take k) ≤ 1000000000000000 ∧ sumL (l.take k) ≤ S) := Lib.hid (by rw [hS]; exact sumL_nonneg HCP.out)
  have HS := Lib.hid hS
  have hS0 : 0 ≤ S ∧ S ≤ 1000000000000000 := by
    have h := sumL_nonneg HCP.out l.length
    rw [List.take_length] at h
    omega
  clear hS HF
  have HEL1 := Lib.hid (el_below HEL.out HB1.out (Nat.le_refl _))
  go_wp2
  go_loopg [7, 33] l.length (fun gg s7 s33 wr => ∃ k : Nat, k ≤ l.length ∧ l.length - k ≤ gg ∧ s33 = .int .i64 k ∧ s7 = .int .i64 (sumL (l.take k)) ∧ Aside (Below w1.heap.size w1 wr))
  case atStart => exact ⟨0, by omega, by omega, rfl, rfl, (show Aside _ from Below.refl _ _)⟩
  case round =>
    obtain ⟨k, hk, hgk, rfl, rfl, BW⟩ := hrel
    by_cases hkl : k < l.length
    · have hkz : (k : Int) < (l.length : Int) := by omega
      obtain ⟨p, hp⟩ : ∃ p, l[k]? = some p := ⟨l[k], by simp [hkl]⟩
      obtain ⟨pb, po, rfl, hpc⟩ := HEL1.out k p hp
      have hlt0 : pb < w1.heap.size := World.block_lt_of_cell? w1 _ (hpc 0 _ rfl)
      have c0 : wr.cell? ⟨pb, po + k * 3, none⟩ = some (.string p.ad) := by have h := (BW.out.cell (p := ⟨pb, po + k * 3 + 0, none⟩) hlt0).trans (hpc 0 _ rfl); simpa using h
      have c1 := (BW.out.cell (p := ⟨pb, po + k * 3 + 1, none⟩) hlt0).trans (hpc 1 _ rfl)
      have c2 := (BW.out.cell (p := ⟨pb, po + k * 3 + 2, none⟩) hlt0).trans (hpc 2 _ rfl)
      have HNX := Lib.hid (sumL_take hp)
      have hb := HSN.out (k + 1)
      have hzw : IntKind.i64.wrap (sumL (l.take k) + p.ln) = sumL (l.take k) + p.ln := IntWalk.i64_in _ (by rw [← HNX.out]; omega)
      have HNB : Hid (Below w1.heap.size w1 (wr.alloc (.cells #[.string p.ad, .int .i64 p.fr, .int .i64 p.ln] 28))) := Lib.hid (BW.out.alloc BW.out.size _)
      clear hp hpc hb hlt0
      obtain ⟨z, hz⟩ : ∃ z, z = sumL (l.take k) := ⟨_, rfl⟩
      rw [← hz] at hzw ⊢
      have HZ := Lib.hid hz
      clear hz
      go_wp2
      go_roundg (l.length - (k + 1))
      case measure => omega
      case rel => exact ⟨k + 1, by omega, by omega, by go_num, (by rw [HNX.out, HZ.out]), HNB.out⟩
    · obtain rfl : k = l.length := by omega
      have hT : sumL (l.take l.length) = S := by rw [HS.out, List.take_length]
      rw [hT]
      clear hT
      have HBR : Hid (Below w.heap.size w wr) := Lib.hid (HB1.out.thru BW.out)
      clear BW HEL1
      go_wp2_with fail
      refine (H4.out wr HBR.out).mono ?_
      rintro e w2 ⟨v2, rfl, ho2, hb2⟩
      have HB2 := Lib.hid (HBR.out.thru hb2)
      have hbs : wr.heap.size ≤ (w2.alloc (.cells #[.int .i64 S] 3)).heap.size := by have := hb2.size; simp; omega
      have HO2 := Lib.hid (ho2.al (.cells #[.int .i64 S] 3))
      have HLT := Lib.hid (block_new w2 (.cells #[.int .i64 S] 3))
      have HBA : Hid (Below wr.heap.size w2 (w2.alloc (.cells #[.int .i64 S] 3))) := Lib.hid ((Below.refl _ w2).alloc hb2.size _)
      clear ho2 hb2
      obtain ⟨C, hC⟩ : ∃ C, C = C0 ++ [S] := ⟨_, rfl⟩
      have HCC := Lib.hid hC
      have HCL : Hid (∀ j, j < C.length → ∃ n, C[j]? = some n ∧ (-9223372036854775808 ≤ n ∧ n ≤ 9223372036854775807) ∧ (j + 1 = C.length → n = S)) := Lib.hid (fun j hj => by
        subst hC
        refine ⟨(C0 ++ [S])[j], by simp, ?_, fun e => ?_⟩
        · have hm : (C0 ++ [S])[j] ∈ C0 ++ [S] := List.getElem_mem hj
          rcases List.mem_append.1 hm with hm | hm
          · exact HCW.out _ hm
          · rw [List.mem_singleton.1 hm]; omega
        · rw [List.length_append, List.length_singleton] at e
          obtain rfl : j = C0.length := by omega
          simp)
      have hC1 : C.length ≤ 17592186044417 := by rw [hC]; simp; omega
      have hC0 : ¬ C.length = 0 := by rw [hC]; simp
      clear hC
      go_wp2_with (at_builtin; go_loud (refine wpList_pushB (l := C0) rfl _ _ 23 rfl slI (by decide) rfl rfl S rfl rfl HO2.out HLT.out hr hbs ?_); intro v3 w3 ho3 hb3 _; rw [← HCC.out] at ho3; have HB3 := Lib.hid (HB2.out.trans ((HBA.out.trans hb3).mono HBR.out.size)); obtain ⟨ca, cc, P0, rfl, hcc1, hcc2, _, hcel⟩ := own_parts encI_len ho3; have HCE := Lib.hid hcel; clear hcel ho3 hb3)
      unfold maxLen at hcc2
      clear HCC HO2 HLT HBA hbs HB2
      obtain ⟨N1, hN1⟩ : ∃ N1, N1 = w3.heap.size := ⟨_, rfl⟩
      have HN1 := Lib.hid hN1
      have hNW : w.heap.size ≤ N1 := by have := HB3.out.size; omega
      clear hN1
      go_loopg [10, 11, 48] C.length (fun gg s10 s11 s48 wq => ∃ (j : Nat) (a : Int) (D : List Ev), j ≤ C.length ∧ C.length - j ≤ gg ∧ s48 = .int .i64 j ∧ s11 = .int .i64 a ∧ (0 ≤ a ∧ a ≤ S) ∧ Aside (Came l s a D) ∧ Aside (j = C.length → a = S) ∧ Aside (Below N1 w3 wq) ∧ Aside (Own wq N1 34 4 encE s10 (told2 D)))
      case atStart => exact ⟨0, 0, [], by omega, by omega, rfl, rfl, by omega, (show Aside _ from came_start HCP.out s), (show Aside _ from fun e => absurd e.symm hC0), (show Aside _ from Below.refl _ _), (show Own _ _ _ _ _ _ _ from Own.nil)⟩
      case round =>
        obtain ⟨wq, rfl⟩ : ∃ wq : World, wq = wr := ⟨_, rfl⟩
        obtain ⟨j, a, D, hj, hgj, rfl, rfl, ⟨ha0, haS⟩, CM, EN, BQ, OQ⟩ := hrel
        obtain ⟨ta, tc, _, rfl, _, _, _, _⟩ := own_parts encE_len OQ.out
        by_cases hjl : j < C.length
        · have hjz : (j : Int) < (C.length : Int) := by omega
          obtain ⟨n, hn, ⟨hn1, hn2⟩, hnS⟩ := HCL.out j hjl
          obtain ⟨rfl, hPl, hcn⟩ := HCE.out j n hn
          have cn : wq.cell? ⟨P0, j, none⟩ = some (.int .i64 n) := by have h := (BQ.out.cell (p := ⟨P0, j * 1 + 0, none⟩) (show P0 < N1 by have := HN1.out; omega)).trans (hcn 0 _ rfl); simpa using h
          have HNS := Lib.hid hnS
          clear hn hcn hPl hnS
          by_cases hna : n < a
          case pos =>
            have HE : Hid (j + 1 = C.length → a = S) := Lib.hid (fun e => by have := HNS.out e; omega)
            go_wp2
            go_roundg (C.length - (j + 1))
            case measure => omega
            case rel => exact ⟨j + 1, a, D, by omega, by omega, by go_num, rfl, by omega, CM, (show Aside _ from HE.out), BQ, OQ⟩
          by_cases hnS2 : S < n
          case pos =>
            have HE : Hid (j + 1 = C.length → a = S) := Lib.hid (fun e => by have := HNS.out e; omega)
            go_wp2
            go_roundg (C.length - (j + 1))
            case measure => omega
            case rel => exact ⟨j + 1, a, D, by omega, by omega, by go_num, rfl, by omega, CM, (show Aside _ from HE.out), BQ, OQ⟩
          have hdd := dueL_ok HCP.out ha0 (show a ≤ n by omega) (show n ≤ 1000000000000000 by omega)
          have HBQ : Hid (Below w.heap.size w wq) := Lib.hid (HB3.out.trans (BQ.out.mono hNW))
          have hd := H2.out wq HBQ.out a n
          rw [hdd.1] at hd
          obtain ⟨E, hE⟩ : ∃ E, E = dueL l a n := ⟨_, rfl⟩
          rw [← hE] at hd
          have HCN : Hid (Came l s n (D ++ E.map (setS s))) := Lib.hid (by rw [hE]; exact came_next HCP.out CM.out ha0 (by omega) (by omega))
          have HLN : Hid ((D ++ E.map (setS s)).length ≤ 5000) := Lib.hid (came_len HCP.out HCN.out (by omega) (by rw [← HS.out]; omega))
          have hEl : E.length ≤ 5000 := by have := HLN.out; rw [List.length_append, List.length_map] at this; omega
          have HD := Lib.hid hd
          clear hd hdd hE
          go_wp2_with fail
          refine HD.out.mono ?_
          rintro e w5 ⟨v5, rfl, ho5, hb5⟩
          have hs5 := hb5.size
          have hqN : N1 ≤ wq.heap.size := by have h1 := BQ.out.size; have h2 := HN1.out; omega
          have HB5 : Hid (Below N1 w3 w5) := Lib.hid (BQ.out.trans (hb5.mono hqN))
          have HO5 : Hid (Own w5 N1 34 4 encE (.slice ta (told2 D).length tc) (told2 D)) := Lib.hid (OQ.out.below hb5 (Nat.le_refl _))
          obtain ⟨ea, ec, P, rfl, hec1, hec2, hPq, hee⟩ := own_parts encE_len ho5
          have HF5 : Hid (offB P (.slice ta (told2 D).length tc)) := Lib.hid (offB_lt OQ.out hPq)
          unfold maxLen at hec2
          have HEE := Lib.hid hee
          have HPN : Hid (N1 ≤ P) := Lib.hid (Nat.le_trans hqN hPq)
          obtain ⟨N5, hN5⟩ : ∃ N5, N5 = w5.heap.size := ⟨_, rfl⟩
          have HN5 := Lib.hid hN5
          have hN15 : N1 ≤ N5 := by omega
          clear hee ho5 hb5 hN5 hPq HD hs5 hqN
          go_wp2
          go_loopg [10, 71] E.length (fun g3 s10 s71 wp => ∃ k : Nat, k ≤ E.length ∧ E.length - k ≤ g3 ∧ s71 = .int .i64 k ∧ Aside (Below N1 w3 wp) ∧ Aside (Own wp N1 34 4 encE s10 (told2 (cameK s D E k))) ∧ Aside (offB P s10 ∧ N5 ≤ wp.heap.size ∧ wp.heap[P]? = w5.heap[P]?))
          case atStart => exact ⟨0, by omega, by omega, rfl, HB5.out, (show Own _ _ _ _ _ _ _ from by rw [cameK_zero]; exact HO5.out), (show Aside _ from ⟨HF5.out, by rw [HN5.out]; exact Nat.le_refl _, rfl⟩)⟩
          case round =>
            obtain ⟨wp, rfl⟩ : ∃ wp : World, wp = wr := ⟨_, rfl⟩
            obtain ⟨k, hk, hg3, rfl, BP, OP, XP⟩ := hrel
            obtain ⟨xa, xL, xc, rfl⟩ := Own.slv encE_len OP.out
            by_cases hke : k < E.length
            · have hkz : (k : Int) < (E.length : Int) := by omega
              obtain ⟨x, hx⟩ : ∃ x, E[k]? = some x := ⟨E[k], by simp [hke]⟩
              obtain ⟨rfl, hPl, hxc⟩ := HEE.out k x hx
              have hP5 : P < N5 := by have := HN5.out; omega
              have HPS : Hid (P < wp.heap.size) := Lib.hid (by have := XP.out.2.1; omega)
              have toP : ∀ o u, w5.cell? ⟨P, o, none⟩ = some u → wp.cell? ⟨P, o, none⟩ = some u := fun o u hu => (World.cell?_of_block (w := w5) (w' := wp) (a := ⟨P, o, none⟩) XP.out.2.2).trans hu
              have c0 : wp.cell? ⟨P, k * 4, none⟩ = some (.string x.se) := by have h := toP _ _ (hxc 0 _ rfl); simpa using h
              have c1 := toP _ _ (hxc 1 _ rfl)
              have c2 := toP _ _ (hxc 2 _ rfl)
              have c3 := toP _ _ (hxc 3 _ rfl)
              have HNX := Lib.hid (cameK_next (s := s) (D := D) hx)
              have HLB : Hid ((told2 (cameK s D E k)).length ≤ 20000) := Lib.hid (by
                have h1 := cameK_len s D E k
                have h2 := HLN.out
                rw [List.length_append, List.length_map] at h2
                omega)
              have hpN : N1 ≤ wp.heap.size := by have h1 := BP.out.size; have h2 := HN1.out; omega
              clear hx hxc hPl toP
              go_upto_region 21 with (fail)
              obtain ⟨wx, hwx⟩ : ∃ wx, wx = wp.alloc (.cells #[.string x.se, .int .i64 x.pl, .string x.ad, .int .i64 x.ki] 34) := ⟨_, rfl⟩
              have HKX : Hid (wx.heap[wp.heap.size]? = some (.cells #[.string x.se, .int .i64 x.pl, .string x.ad, .int .i64 x.ki] 34 (0, 0))) := Lib.hid (by rw [hwx]; exact block_new wp _)
              have HBX : Hid (Below N1 w3 wx) := Lib.hid (by rw [hwx]; exact BP.out.alloc hpN _)
              have HOX : Hid (Own wx N1 34 4 encE (.slice xa xL xc) (told2 (cameK s D E k))) := Lib.hid (by rw [hwx]; exact OP.out.al _)
              have HXX : Hid (N5 ≤ wx.heap.size ∧ wx.heap[P]? = w5.heap[P]?) := Lib.hid (by
                rw [hwx]
                exact ⟨by have := XP.out.2.1; simp; omega, (Below.heap_alloc wp _ P HPS.out).trans XP.out.2.2⟩)
              have HPB : Hid (∀ g nn cc, (.slice xa xL xc : Value) = .slice (some ⟨g, 0, none⟩) nn cc → g < wp.heap.size) := Lib.hid (fun g nn cc h => by
                have hb := OP.out
                rw [h] at hb
                obtain ⟨cur, hc⟩ := hb.blk
                exact lt_of_block hc)
              have HOF : Hid (offB P (.slice xa xL xc)) := Lib.hid XP.out.1
              have HFW : Hid (offB wp.heap.size (.slice xa xL xc)) := Lib.hid (offB_lt OP.out (Nat.le_refl _))
              rw [← hwx]
              clear hwx c0 c1 c2 c3
              obtain ⟨X, hX⟩ : ∃ X, X = wp.heap.size := ⟨_, rfl⟩
              have HPX : Hid (P < X) := Lib.hid (by rw [hX]; exact HPS.out)
              rw [← hX] at HKX HPB HFW ⊢
              have hNX : N1 ≤ X := by omega
              clear hX HPS BP OP XP
              have p0 := (cell_of_block (i := 0) HKX.out).trans rfl
              have hpl := lt_of_block HKX.out
              have z0 := frz_of (i := 0) HKX.out
              go_upto_region 22 with (fail)
              obtain ⟨wy, hwy⟩ : ∃ wy, wy = wx.setCell ⟨X, 0, none⟩ (.string s) := ⟨_, rfl⟩
              have HKY : Hid (wy.heap[X]? = some (.cells #[.string s, .int .i64 x.pl, .string x.ad, .int .i64 x.ki] 34 (0, 0))) := Lib.hid (by rw [hwy]; exact (heap_setCell_same _ X _ _ _ _ HKX.out).trans rfl)
              have HBY : Hid (Below N1 w3 wy) := Lib.hid (by rw [hwy]; exact HBX.out.setCell hNX _)
              have HOY : Hid (Own wy N1 34 4 encE (.slice xa xL xc) (told2 (cameK s D E k))) := Lib.hid (by rw [hwy]; exact HOX.out.grownOff (grownBy_set2 _ _ _ _) (fun g nn cc h e => by have := HPB.out g nn cc h; simp at e; omega))
              have HXY : Hid (N5 ≤ wy.heap.size ∧ wy.heap[P]? = w5.heap[P]?) := Lib.hid (by
                rw [hwy]
                exact ⟨by simpa using HXX.out.1, (Below.heap_setCell wx ⟨X, 0, none⟩ _ P (by have := HPX.out; simp; omega)).trans HXX.out.2⟩)
              rw [← hwy]
              clear hwy p0 hpl z0 HKX HBX HOX HXX HPB
              have q0 := (cell_of_block (i := 0) HKY.out).trans rfl
              have q1 := (cell_of_block (i := 1) HKY.out).trans rfl
              have q2 := (cell_of_block (i := 2) HKY.out).trans rfl
              have q3 := (cell_of_block (i := 3) HKY.out).trans rfl
              obtain ⟨T, hT⟩ : ∃ T, T = told2 (cameK s D E k) := ⟨_, rfl⟩
              have HFX : Hid (offB X (.slice xa xL xc)) := HFW
              have HFH : Hid (∀ n, offB (wy.heap.size + n) (.slice xa xL xc)) := Lib.hid (fun n => offB_lt HOY.out (by omega))
              rw [← hT] at HNX HLB HOY
              have hXl := lt_of_block HKY.out
              have HHH : Hid (∀ W : World, Own W N1 34 4 encE (.slice xa xL xc) T → N1 ≤ W.heap.size → ∀ vb, W.heap[vb]? = some (.cells #[.string s, .int .i64 x.pl, .string x.ad, .int .i64 x.ki] 34 (0, 0)) → offB vb (.slice xa xL xc) → Calls Try.prog 8 #[.slice xa xL xc, .int .i64 0, .slice (some ⟨vb, 0, none⟩) 1 1] W (InsPost W N1 (.slice xa xL xc) (setS s x :: T))) := Lib.hid (fun W h1 h2 vb h3 h4 => ins_front W N1 vb T (setS s x) _ h1 h2 HLB.out h3 h4)
              have HSS : Hid (∀ W : World, W.heap[X]? = wy.heap[X]? → W.cell? ⟨X, 0, none⟩ = some (.string s) ∧ W.cell? ⟨X, 1, none⟩ = some (.int .i64 x.pl) ∧ W.cell? ⟨X, 2, none⟩ = some (.string x.ad) ∧ W.cell? ⟨X, 3, none⟩ = some (.int .i64 x.ki)) := Lib.hid (fun W h => by
                have h2 := h.trans HKY.out
                exact ⟨(cell_of_block (i := 0) h2).trans rfl, (cell_of_block (i := 1) h2).trans rfl, (cell_of_block (i := 2) h2).trans rfl, (cell_of_block (i := 3) h2).trans rfl⟩)
              obtain ⟨LI, hLI⟩ : ∃ LI : Obj, LI = .cells #[.string s, .int .i64 x.pl, .string x.ad, .int .i64 x.ki] 34 := ⟨_, rfl⟩
              have HT0 : Hid (TS w3 w5 N1 N5 P wy (.slice xa xL xc) T) := Lib.hid ⟨HOY.out, HBY.out, HOF.out, HXY.out.1, HXY.out.2⟩
              have HT1 : Hid (TS w3 w5 N1 N5 P (wy.alloc (.cells #[.string s, .int .i64 x.pl, .string x.ad, .int .i64 x.ki] 34)).drew (.slice xa xL xc) T) := Lib.hid (HT0.out.alloc hN15 hP5 _).drew
              have HT2 : Hid (TS w3 w5 N1 N5 P ((wy.alloc (.cells #[.string s, .int .i64 x.pl, .string x.ad, .int .i64 x.ki] 34)).alloc (.cells #[.string s, .int .i64 x.pl, .string x.ad, .int .i64 x.ki] 34)).drew (.slice xa xL xc) T) := Lib.hid ((HT0.out.alloc hN15 hP5 _).alloc hN15 hP5 _).drew
              have hNy : N1 ≤ wy.heap.size := Nat.le_trans hN15 HXY.out.1
              have HX1 : Hid ((wy.alloc (.cells #[.string s, .int .i64 x.pl, .string x.ad, .int .i64 x.ki] 34)).drew.heap[X]? = wy.heap[X]?) := Lib.hid (Below.heap_alloc wy _ X hXl)
              have HX2 : Hid (((wy.alloc (.cells #[.string s, .int .i64 x.pl, .string x.ad, .int .i64 x.ki] 34)).alloc (.cells #[.string s, .int .i64 x.pl, .string x.ad, .int .i64 x.ki] 34)).drew.heap[X]? = wy.heap[X]?) := Lib.hid ((Below.heap_alloc (wy.alloc (.cells #[.string s, .int .i64 x.pl, .string x.ad, .int .i64 x.ki] 34)) _ X (by simp; omega)).trans (Below.heap_alloc wy _ X hXl))
              have HLa : Hid ((wy.alloc (.cells #[.string s, .int .i64 x.pl, .string x.ad, .int .i64 x.ki] 34)).drew.heap[wy.heap.size]? = some (.cells #[.string s, .int .i64 x.pl, .string x.ad, .int .i64 x.ki] 34)) := Lib.hid (block_new wy _)
              have HLb : Hid (((wy.alloc (.cells #[.string s, .int .i64 x.pl, .string x.ad, .int .i64 x.ki] 34)).alloc (.cells #[.string s, .int .i64 x.pl, .string x.ad, .int .i64 x.ki] 34)).drew.heap[wy.heap.size]? = some (.cells #[.string s, .int .i64 x.pl, .string x.ad, .int .i64 x.ki] 34)) := Lib.hid ((Below.heap_alloc (wy.alloc (.cells #[.string s, .int .i64 x.pl, .string x.ad, .int .i64 x.ki] 34)) _ wy.heap.size (by simp)).trans (block_new wy _))
              have HLc : Hid (((wy.alloc (.cells #[.string s, .int .i64 x.pl, .string x.ad, .int .i64 x.ki] 34)).alloc (.cells #[.string s, .int .i64 x.pl, .string x.ad, .int .i64 x.ki] 34)).drew.heap[wy.heap.size + 1]? = some (.cells #[.string s, .int .i64 x.pl, .string x.ad, .int .i64 x.ki] 34)) := Lib.hid (by
                have h := block_new (wy.alloc (.cells #[.string s, .int .i64 x.pl, .string x.ad, .int .i64 x.ki] 34)) (.cells #[.string s, .int .i64 x.pl, .string x.ad, .int .i64 x.ki] 34)
                rwa [show (wy.alloc (.cells #[.string s, .int .i64 x.pl, .string x.ad, .int .i64 x.ki] 34)).heap.size = wy.heap.size + 1 by simp] at h)
              have hs1 : (wy.alloc (.cells #[.string s, .int .i64 x.pl, .string x.ad, .int .i64 x.ki] 34)).drew.heap.size = wy.heap.size + 1 := by show (wy.alloc _).heap.size = _; simp
              have hs2 : ((wy.alloc (.cells #[.string s, .int .i64 x.pl, .string x.ad, .int .i64 x.ki] 34)).alloc (.cells #[.string s, .int .i64 x.pl, .string x.ad, .int .i64 x.ki] 34)).drew.heap.size = wy.heap.size + 2 := by show ((wy.alloc _).alloc _).heap.size = _; simp
              have HCa := Lib.hid (HHH.out _ HT1.out.own (by rw [hs1]; omega) _ HLa.out (HFH.out 0))
              have HCb := Lib.hid (HHH.out _ HT2.out.own (by rw [hs2]; omega) _ HLb.out (HFH.out 0))
              have HCc := Lib.hid (HHH.out _ HT2.out.own (by rw [hs2]; omega) _ HLc.out (HFH.out 1))
              have HS1 := Lib.hid hs1
              have HS2 := Lib.hid hs2
              have HF1 : Hid (offB (wy.heap.size + 1) (.slice xa xL xc)) := Lib.hid (HFH.out 1)
              have HF0 : Hid (offB (wy.heap.size) (.slice xa xL xc)) := Lib.hid (HFH.out 0)
              have HNB : Hid ((setS s x :: T).length * 48 ≤ 140737488355328) := Lib.hid (by have := HLB.out; simp; omega)
              have HK1 := Lib.hid hk
              clear hs1 hs2 hLI
              unfold InsPost at HCa HCb HCc
              go_region_held3 (fun W => W.cell? ⟨X, 0, none⟩ = some (.string s) ∧ W.cell? ⟨X, 1, none⟩ = some (.int .i64 x.pl) ∧ W.cell? ⟨X, 2, none⟩ = some (.string x.ad) ∧ W.cell? ⟨X, 3, none⟩ = some (.int .i64 x.ki))
                (first | exact HSS.out _ rfl | exact HSS.out _ HX1.out | exact HSS.out _ HX2.out | exact HSS.out _ hxi | exact HSS.out _ hxi2 | exact HSS.out _ hx7 | fail "keep")
                (first | (go_at_call 8; ((with_reducible refine (HCa.out).mono ?_); rintro e wi ⟨vi, rfl, hoi, hbi, hki⟩; have hway1 := trivial; have hti := HT1.out.step hP5 hoi hbi hki; have hox := (hki X (by rw [HS1.out]; omega) HFX.out).2; have hxi := (hki.blk (by rw [HS1.out]; omega) HFX.out).trans HX1.out; have hwx : X < wi.heap.size := (by have := hbi.size; rw [HS1.out] at this; omega); have hxi2 := (Below.heap_alloc wi (.cells #[.string s, .int .i64 x.pl, .string x.ad, .int .i64 x.ki] 34) X (by have := hbi.size; rw [HS1.out] at this; omega)).trans hxi; have hni := Nat.le_trans (by rw [HS1.out]; omega : N1 ≤ (wy.alloc (.cells #[.string s, .int .i64 x.pl, .string x.ad, .int .i64 x.ki] 34)).drew.heap.size) hbi.size; clear hoi hbi hki))
                       | (go_at_call 8; ((with_reducible refine (HCb.out).mono ?_); rintro e wi ⟨vi, rfl, hoi, hbi, hki⟩; have hway2 := trivial; have hti := HT2.out.step hP5 hoi hbi hki; have hox := (hki X (by rw [HS2.out]; omega) HFX.out).2; have hxi := (hki.blk (by rw [HS2.out]; omega) HFX.out).trans HX2.out; have hwx : X < wi.heap.size := (by have := hbi.size; rw [HS2.out] at this; omega); have hli := (hki.blk (by rw [HS2.out]; omega) HF1.out).trans HLc.out; have hni := Nat.le_trans (by rw [HS2.out]; omega : N1 ≤ ((wy.alloc (.cells #[.string s, .int .i64 x.pl, .string x.ad, .int .i64 x.ki] 34)).alloc (.cells #[.string s, .int .i64 x.pl, .string x.ad, .int .i64 x.ki] 34)).drew.heap.size) hbi.size; clear hoi hbi hki))
                       | (go_at_call 8; ((with_reducible refine (HCc.out).mono ?_); rintro e wi ⟨vi, rfl, hoi, hbi, hki⟩; have hway2 := trivial; have hti := HT2.out.step hP5 hoi hbi hki; have hox := (hki X (by rw [HS2.out]; omega) HFX.out).2; have hxi := (hki.blk (by rw [HS2.out]; omega) HFX.out).trans HX2.out; have hwx : X < wi.heap.size := (by have := hbi.size; rw [HS2.out] at this; omega); have hli := (hki.blk (by rw [HS2.out]; omega) HF0.out).trans HLb.out; have hni := Nat.le_trans (by rw [HS2.out]; omega : N1 ≤ ((wy.alloc (.cells #[.string s, .int .i64 x.pl, .string x.ad, .int .i64 x.ki] 34)).alloc (.cells #[.string s, .int .i64 x.pl, .string x.ad, .int .i64 x.ki] 34)).drew.heap.size) hbi.size; clear hoi hbi hki))
                       | (have hwt := hway1; clear hwt; refine step_pushB rfl (.tmp 80) (.tmp 82) 29 rfl slE (by decide) rfl rfl (setS s x) rfl rfl (hti.own.al _) (block_new wi _) HNB.out (by simp; omega) ?_; intro v7 w7 ho7 hb7 hk7; have HT7 := Lib.hid ((hti.alloc hN15 hP5 _).step hP5 ho7 hb7 hk7); have hx7 := (hk7.blk (by simp; omega) hox).trans hxi2; clear ho7 hb7 hk7 hti)
                       | (have hwt := hway2; clear hwt; refine step_pushB rfl (.tmp 80) (.tmp 82) 29 rfl slE (by decide) rfl rfl (setS s x) rfl rfl hti.own hli HNB.out hni ?_; intro v7 w7 ho7 hb7 hk7; have HT7 := Lib.hid (hti.step hP5 ho7 hb7 hk7); have hx7 := (hk7.blk hwx hox).trans hxi; clear ho7 hb7 hk7 hti)
                       | fail "arms")
              all_goals
                rw [← HNX.out] at HT7
                go_wp2
                go_roundg (E.length - (k + 1))
                case measure => omega
                case rel => exact ⟨k + 1, by omega, by omega, by go_num, HT7.out.bel, HT7.out.own, (show Aside _ from ⟨HT7.out.off, HT7.out.sz, HT7.out.blk⟩)⟩
            · obtain rfl : k = E.length := by omega
              go_wp2
              go_roundg (C.length - (j + 1))
              case measure => omega
              case rel => exact ⟨j + 1, n, D ++ E.map (setS s), by omega, by omega, by go_num, rfl, by omega, (show Aside _ from HCN.out), (show Aside _ from HNS.out), BP, (show Own _ _ _ _ _ _ _ from by
                have h := OP.out
                rw [cameK_all] at h
                exact h)⟩
        · obtain rfl : j = C.length := by omega
          obtain rfl : a = S := EN.out rfl
          have HBQ : Hid (Below w.heap.size w wq) := Lib.hid (HB3.out.trans (BQ.out.mono hNW))
          have HCM : Hid (Came l s (sumL l) D) := Lib.hid (by have h := CM.out; rw [HS.out] at h; exact h)
          have hDl := came_len HCP.out CM.out ha0 (by rw [← HS.out]; exact Int.le_refl _)
          have hc := H3.out wq HBQ.out (told2 D) _ (OQ.out.sl encE_len) (fun e he => by
            have he' : e ∈ D := by
              unfold told2 at he
              rw [List.mem_append, List.mem_reverse] at he
              exact he.elim id id
            obtain ⟨i, r1, _, r3, r4, r5, r6, _⟩ := (HCM.out.2 e).1 he'
            have hd2 : l.getD i default = l[i] := by rw [List.getD_eq_getElem?_getD, List.getElem?_eq_getElem r1]; rfl
            refine ⟨by rw [r3]; exact hs, ?_, ?_, ?_⟩
            · rw [r5, hd2]
              exact (HWF.out _ (List.getElem_mem r1)).1
            · omega
            · omega)
          have HCT := Lib.hid (fun h0 => came_counts HCP.out HCM.out h0)
          have HTL : Hid ((told2 D).length = D.length + D.length) := Lib.hid (by unfold told2; simp)
          have HNO : Hid (cntF l (told2 D) ≠ 0 → cntA l (told2 D) = []) := Lib.hid (fun h => by unfold cntA; rw [if_pos h])
          obtain ⟨A, hA⟩ : ∃ A, A = cntA l (told2 D) := ⟨_, rfl⟩
          obtain ⟨I, hI⟩ : ∃ I, I = cntI l (told2 D) := ⟨_, rfl⟩
          obtain ⟨F, hF⟩ : ∃ F, F = cntF l (told2 D) := ⟨_, rfl⟩
          rw [← hA, ← hI, ← hF] at hc
          have HKD : Hid (F = 0 → I.length = D.length ∧ sumK A = adsN l ∧ ∀ c ∈ A, (0 ≤ c.k0 ∧ c.k0 ≤ l.length) ∧ c.k1 = c.k0 ∧ c.k2 = c.k0 ∧ c.k3 = c.k0 ∧ c.k4 = c.k0) := Lib.hid (fun h0 => by rw [hA, hI]; exact HCT.out (by rw [hF] at h0; exact h0))
          rw [← hA, ← hF] at HNO
          obtain ⟨E2, hE2⟩ : ∃ E2, E2 = told2 D := ⟨_, rfl⟩
          rw [← hE2] at hc HTL ⊢
          have HC := Lib.hid hc
          clear hc hA hI hF hE2 HCT HCM CM BQ OQ EN HB3 HCL HCE H2 H3 H4
          go_wp2_with fail
          refine HC.out.mono ?_
          rintro e w4 ⟨v4, v5, rfl, hs4, hi4, hb4⟩
          have HB4 := Lib.hid (HBQ.out.thru hb4)
          obtain ⟨a4, c4, rfl, hc4, hm4, _, hel4⟩ := hs4
          obtain ⟨a5, c5, rfl, hc5, hm5, _, _⟩ := hi4
          unfold maxLen at hm4 hm5
          have HELA := Lib.hid hel4
          clear hel4 hb4 HC HBQ
          by_cases hF0 : F = 0
          case neg =>
            have hne : (F != 0) = true := by simpa using hF0
            have heq : (F == 0) = false := by simpa using hF0
            obtain rfl := HNO.out hF0
            go_wp2_with (go_at_call 5; refine (alive_any _).mono ?_; rintro e w6 ⟨rfl, hb6⟩)
            go_ret
            exact ⟨rfl, HB4.out.thru hb6⟩
          subst hF0
          obtain ⟨g1, g2, g3⟩ := HKD.out rfl
          have HKC := Lib.hid g3
          have HIL := Lib.hid g1
          have HSK := Lib.hid g2
          clear g1 g2 g3 HKD HNO
          go_wp2
          go_loopg [21, 104] l.length (fun gg s21 s104 wr => ∃ k : Nat, k ≤ l.length ∧ l.length - k ≤ gg ∧ s104 = .int .i64 k ∧ s21 = .int .i64 ((adsN (l.take k) : Nat) : Int) ∧ Aside (Below w4.heap.size w4 wr))
          case atStart => exact ⟨0, by omega, by omega, rfl, rfl, (show Aside _ from Below.refl _ _)⟩
          case round =>
            obtain ⟨k, hk, hgk, rfl, rfl, BW⟩ := hrel
            by_cases hkl : k < l.length
            · have hkz : (k : Int) < (l.length : Int) := by omega
              obtain ⟨p, hp⟩ : ∃ p, l[k]? = some p := ⟨l[k], by simp [hkl]⟩
              have hel5 := el_below HEL.out (HB4.out.thru BW.out) (Nat.le_refl _)
              obtain ⟨pb, po, rfl, hpc⟩ := hel5 k p hp
              have c0 : wr.cell? ⟨pb, po + k * 3, none⟩ = some (.string p.ad) := by have h := hpc 0 _ rfl; simpa using h
              have c1 := hpc 1 _ rfl
              have c2 := hpc 2 _ rfl
              have HNX := Lib.hid (adsN_next hp)
              have hle : adsN (l.take (k + 1)) ≤ l.length := Nat.le_trans (adsN_le _) (by rw [List.length_take]; omega)
              obtain ⟨z, hz⟩ : ∃ z, z = adsN (l.take k) := ⟨_, rfl⟩
              rw [← hz] at HNX ⊢
              have HNB : Hid (Below w4.heap.size w4 (wr.alloc (.cells #[.string p.ad, .int .i64 p.fr, .int .i64 p.ln] 28))) := Lib.hid (BW.out.alloc BW.out.size _)
              clear hp hpc hel5 hz
              cases e2 : p.ad.toList.isEmpty
              case true =>
                have HN2 : Hid (adsN (l.take (k + 1)) = z) := Lib.hid (by rw [HNX.out, show noAd p = true from e2]; rfl)
                go_wp2
                go_roundg (l.length - (k + 1))
                case measure => omega
                case rel => exact ⟨k + 1, by omega, by omega, by go_num, (by rw [HN2.out]), HNB.out⟩
              case false =>
                have HN2 : Hid (adsN (l.take (k + 1)) = z + 1) := Lib.hid (by rw [HNX.out, show noAd p = false from e2]; rfl)
                have hz1 : z + 1 ≤ 1000 := by rw [← HN2.out]; omega
                clear hle
                go_wp2
                go_roundg (l.length - (k + 1))
                case measure => omega
                case rel => exact ⟨k + 1, by omega, by omega, by go_num, (by rw [HN2.out]; go_num), HNB.out⟩
            · obtain rfl : k = l.length := by omega
              have hT : adsN (l.take l.length) = adsN l := by rw [List.take_length]
              rw [hT]
              have hal := adsN_le l
              obtain ⟨M, hM⟩ : ∃ M, M = adsN l := ⟨_, rfl⟩
              rw [← hM] at HSK hal ⊢
              have HBR : Hid (Below w.heap.size w wr) := Lib.hid (HB4.out.thru BW.out)
              have HELB := Lib.hid (el_below HELA.out BW.out (Nat.le_refl _))
              obtain ⟨wk, rfl⟩ : ∃ wk : World, wk = wr := ⟨_, rfl⟩
              clear hT hM BW HELA HB4
              go_wp2
              go_loopg [22, 116] A.length (fun gg s22 s116 wt => ∃ q : Nat, q ≤ A.length ∧ A.length - q ≤ gg ∧ s116 = .int .i64 q ∧ s22 = .int .i64 (sumK (A.take q)) ∧ Aside (Below wk.heap.size wk wt))
              case atStart => exact ⟨0, by omega, by omega, rfl, rfl, (show Aside _ from Below.refl _ _)⟩
              case round =>
                obtain ⟨wt, rfl⟩ : ∃ wt : World, wt = wr := ⟨_, rfl⟩
                obtain ⟨q, hq, hgq, rfl, rfl, BT⟩ := hrel
                by_cases hqa : q < A.length
                · have hqz : (q : Int) < (A.length : Int) := by omega
                  obtain ⟨c, hcx⟩ : ∃ c, A[q]? = some c := ⟨A[q], by simp [hqa]⟩
                  obtain ⟨b, off, rfl, hcc⟩ := HELB.out q c hcx
                  obtain ⟨⟨f0, f1⟩, d1, d2, d3, d4⟩ := HKC.out c (List.mem_of_getElem? hcx)
                  have hbl : b < wk.heap.size := World.block_lt_of_cell? wk _ (hcc 0 _ rfl)
                  have y0 : wt.cell? ⟨b, off + q * 6, none⟩ = some (.string c.ad) := by have h := (BT.out.cell (p := ⟨b, off + q * 6 + 0, none⟩) hbl).trans (hcc 0 _ rfl); simpa using h
                  have x0 := (BT.out.cell (p := ⟨b, off + q * 6 + 1, none⟩) hbl).trans (hcc 1 _ rfl)
                  have x1 := (BT.out.cell (p := ⟨b, off + q * 6 + 2, none⟩) hbl).trans (hcc 2 _ rfl)
                  have x2 := (BT.out.cell (p := ⟨b, off + q * 6 + 3, none⟩) hbl).trans (hcc 3 _ rfl)
                  have x3 := (BT.out.cell (p := ⟨b, off + q * 6 + 4, none⟩) hbl).trans (hcc 4 _ rfl)
                  have x4 := (BT.out.cell (p := ⟨b, off + q * 6 + 5, none⟩) hbl).trans (hcc 5 _ rfl)
                  rw [d1] at x1
                  rw [d2] at x2
                  rw [d3] at x3
                  rw [d4] at x4
                  have HNX := Lib.hid (sumK_take hcx)
                  have hle := sumK_le (fun c hc => (HKC.out c hc).1.1) (q + 1)
                  have hle0 := sumK_le (fun c hc => (HKC.out c hc).1.1) q
                  rw [HSK.out] at hle hle0
                  rw [HNX.out] at hle
                  obtain ⟨z, hz⟩ : ∃ z, z = sumK (A.take q) := ⟨_, rfl⟩
                  rw [← hz] at HNX hle hle0 ⊢
                  have hzw : IntKind.i64.wrap (z + c.k0) = z + c.k0 := IntWalk.i64_in _ (by omega)
                  have HNB : Hid (Below wk.heap.size wk (wt.alloc (.cells #[.string c.ad, .int .i64 c.k0, .int .i64 c.k0, .int .i64 c.k0, .int .i64 c.k0, .int .i64 c.k0] 41))) := Lib.hid (BT.out.alloc BT.out.size _)
                  have han := arrNeq2 c.k0
                  clear hcx hcc d1 d2 d3 d4 hz hle hle0 f0 f1
                  go_wp2
                  go_roundg (A.length - (q + 1))
                  case measure => omega
                  case rel => exact ⟨q + 1, by omega, by omega, by go_num, (by rw [HNX.out]), HNB.out⟩
                · obtain rfl : q = A.length := by omega
                  have hT : sumK (A.take A.length) = (M : Int) := by rw [List.take_length]; exact HSK.out
                  rw [hT]
                  have HBT : Hid (Below w.heap.size w wt) := Lib.hid (HBR.out.thru BT.out)
                  have hil : (I.length : Int) = (D.length : Int) := by rw [HIL.out]
                  have hdv : Int.tdiv (E2.length : Int) 2 = (D.length : Int) := by rw [Int.tdiv_eq_ediv_of_nonneg (by omega), HTL.out]; omega
                  clear hT BT HELB HKC
                  go_wp2_with (go_at_call 5; refine (alive_any _).mono ?_; rintro e w6 ⟨rfl, hb6⟩)
                  go_ret
                  exact ⟨rfl, HBT.out.thru hb6⟩
end Go.Proofs.Ythpjgongplffnaa

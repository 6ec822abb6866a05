/- The builder of a timeline: ads, done. -/
import Derived.Test.YtpdeodoidlcdoaaG19
import Derived.Test.YtpdeodoidlcdoaaG17
namespace Go.Proofs.Ytpdeodoidlcdoaa
open Go.RowKit

theorem step_pushP {α : Type} {P : Program} {ops : Array Oper} {o : Oper} {a : Act} {Q : Exit → Act → World → Prop} {K : Act → World → Prop} {X : Prop} (hgd : o.guard = none) (s x : Operand) (t : TypeId)
    (ho : o.op = .call { callee := .builtin .append, args := #[s, x], argTypes := #[t, t] })
    {E : TypeId} {k bytes : Nat} (hT : SlT P t E k bytes) {enc : α → List Value} {base : Nat} {v : Value} {l : List α} {W : World} {C : List Value} (hs : a.eval s = v)
    {A : Nat} (hx : a.eval x = .slice (some ⟨A, 0, none⟩) 1 1)
    (y : α) (hC : enc y = C) (hk : C.length = k) (h1 : C.all Value.oneCell' = true)
    (hown : Own W base E k enc v l) (hA : A = W.heap.size) (hn : (l.length + 1) * bytes ≤ 140737488355328) (hbase : base ≤ W.heap.size)
    (h : ∀ v' w', Own w' base E k enc v' (l ++ [y]) → Below base W w' → KeepT E W w' → K (a.put o.dst v') w') :
    if Region.wanted o (yielded ops a.tmps) = true then Oper.wp P o a (W.alloc (.cells C.toArray E)).drew K Q else X := by
  have hw : Region.wanted o (yielded ops a.tmps) = true := by simp [Region.wanted, hgd]
  rw [if_pos hw]
  obtain ⟨i, z, ht, hi, hz, hsize, hby, hzs, hsz, hb0⟩ := hT
  subst hA
  have hlen : l.length + 1 ≤ 140737488355328 := Nat.le_trans (Nat.le_mul_of_pos_right _ hb0) hn
  refine wp_append_own _ s x t ho base E i z k bytes ht hi hz hsize hby hzs hsz v l.length (l.flatMap enc) hs (World.ownsRow.alloc hown _) ⟨W.heap.size, 0, none⟩ 1 1 C hx (by omega)
    (cell_new_list W C E (0, 0)) (fun u hu => List.all_eq_true.1 h1 u hu) (by unfold maxLen; omega) hn (by show base ≤ (W.alloc _).heap.size; simp; omega) (fun v' w' h2 h3 _ => h v' w' ?_ ?_ ?_)
  · unfold Own
    rw [List.flatMap_append, List.length_append, List.flatMap_singleton, hC]
    exact h2
  · have h3' : (W.alloc (.cells C.toArray E)).grownBy w' v.ownBlock := ⟨h3.os, h3.tape, h3.output, h3.size, h3.block⟩
    exact ((Below.refl _ _).alloc hbase _).grown h3' (by simp; omega) (fun k hk => (World.ownsRow.lt hown k hk).1)
  · intro b c T fr hb hT
    have hlt : b < W.heap.size := (Array.getElem?_eq_some_iff.1 hb).1
    have hb' : (W.alloc (.cells C.toArray E)).heap[b]? = some (.cells c T fr) := by rw [Below.heap_alloc W _ b hlt]; exact hb
    have hsz2 : (W.alloc (.cells C.toArray E)).heap.size = W.heap.size + 1 := by simp
    rw [h3.block b (by show b < (W.alloc (.cells C.toArray E)).heap.size; omega) ?_]
    · exact hb'
    · intro e
      obtain ⟨_, h4⟩ := hown
      rcases h4 with ⟨rfl, _⟩ | ⟨g, cap, cur, rfl, _, hh, _⟩
      · simp [Value.ownBlock] at e
      · simp only [Value.ownBlock, Option.some.injEq] at e
        subst e
        rw [hh] at hb
        simp only [Option.some.injEq, Obj.cells.injEq] at hb
        exact hT hb.2.1.symm

/-- What is left behind an advertisement's append. -/
def AdsCut (B : Nat) (wr w4 : World) (l : List Prt) (x : Int) : Prop := Bld w4 B l ∧ Below B wr w4 ∧ KeepB B wr w4 ∧ w4.cell? ⟨wr.heap.size, 1, none⟩ = some (.int .i64 x)
theorem AdsCut.mk {B : Nat} {wr w5 : World} {l : List Prt} {x : Int} {v u : Value} {a b c : Value} {T : TypeId} {fr : Nat × Nat} {o : Obj} (h1 : w5.heap[B]? = some (.cells #[v] 90 (0, 0))) (h2 : Own w5 (B + 1) 52 3 encP u l) (h3 : Below (B + 1) (wr.alloc o) w5)
    (h4 : w5.heap[wr.heap.size]? = some (.cells #[a, .int .i64 x, b, c] T fr)) (hB : B < wr.heap.size) (hk : KeepT 52 (wr.alloc o) w5) : AdsCut B wr (w5.setCell ⟨B, 0, none⟩ u) l x := by
  refine ⟨⟨u, one_setCell h1, ownsRow_setCell_below h2 (by show B < B + 1; omega) _⟩, (((Below.refl _ _).alloc (by omega) _).trans (h3.mono (Nat.le_succ B))).setCell (Nat.le_refl _) _, (((KeepB.refl B wr).alloc o).trans (KeepB.of_keepT hk)).setB 0 u, ?_⟩
  have h5 : (w5.setCell ⟨B, 0, none⟩ u).heap[wr.heap.size]? = some (.cells #[a, .int .i64 x, b, c] T fr) := (Below.heap_setCell w5 ⟨B, 0, none⟩ u wr.heap.size (by show wr.heap.size ≠ B; omega)).trans h4
  exact (cell_of_block h5).trans rfl

set_option maxRecDepth 100000 in
set_option maxHeartbeats 4000000 in
theorem bads_any (w : World) (B : Nat) (l : List Prt) (ads : List Adv) (u : Value) (h : Bld w B l) (hs : Sl w 4 encA u ads) (hltB : 0 < ads.length → ∀ ao len cap, u = .slice ao len cap → ∀ b, ao = some b → b.block < B) (hf : adsF ads = 0) (hlen : l.length + ads.length ≤ 1000000000000) :
    Calls Try.prog 27 #[.pointer (some ⟨B, 0, none⟩), u] w (BldPost w B (l ++ ads.map adP) (.returned (.int .i64 (capA 0 ads)))) := by
  obtain ⟨ao, cap, rfl, hcap, hmax, hnil, hel⟩ := hs
  unfold maxLen at hmax
  have HBD := Lib.hid h
  have HEL := Lib.hid hel
  have HF := Lib.hid (fun a ha => (adsF_zero hf a ha).2)
  have HLB := Lib.hid (fun h => hltB h _ _ _ rfl)
  clear h hel hf hltB
  go_enter Try.func27, Try.ntmps27
  go_wp2
  go_loopg [5, 10] ads.length (fun gg s5 s10 wr => ∃ (kk : Nat) (n : Int), kk ≤ ads.length ∧ ads.length - kk ≤ gg ∧ s10 = .int .i64 kk ∧ s5 = .int .i64 n ∧ 0 ≤ n ∧ n ≤ 1000000000000000 ∧ Aside (n = capA 0 (ads.take kk)) ∧ Aside (Below B w wr) ∧ Aside (Bld wr B (l ++ (ads.take kk).map adP)) ∧ Aside (KeepB B w wr))
  case atStart => exact ⟨0, 0, Nat.zero_le _, by omega, rfl, rfl, by omega, by omega, (show Aside _ from rfl), Below.refl _ _, (show Bld _ _ _ from by simpa using HBD.out), KeepB.refl _ _⟩
  case round =>
    obtain ⟨kk, n, hkk, hg, rfl, rfl, hn0, hn1, N, BW, BD, KB⟩ := hrel
    by_cases hlt : kk < ads.length
    · have hltz : (kk : Int) < (ads.length : Int) := by omega
      obtain ⟨a, hx⟩ : ∃ x, ads[kk]? = some x := ⟨ads[kk], by simp [hlt]⟩
      obtain ⟨b, off, hao, hc⟩ := HEL.out kk a hx
      have hbB := HLB.out (by omega) _ hao
      subst hao
      have hlt0 := World.block_lt_of_cell? w _ (hc 0 _ rfl)
      have c0 : wr.cell? ⟨b, off + kk * 4, none⟩ = some (.string a.na) := (BW.out.cell (p := ⟨b, off + kk * 4, none⟩) hbB).trans (hc 0 _ rfl)
      have c1 : wr.cell? ⟨b, off + kk * 4 + 1, none⟩ = some (.int .i64 a.ln) := (BW.out.cell (p := ⟨b, off + kk * 4 + 1, none⟩) hbB).trans (hc 1 _ rfl)
      have c2 : wr.cell? ⟨b, off + kk * 4 + 2, none⟩ = some (.int .i64 a.va) := (BW.out.cell (p := ⟨b, off + kk * 4 + 2, none⟩) hbB).trans (hc 2 _ rfl)
      have c3 : wr.cell? ⟨b, off + kk * 4 + 3, none⟩ = some (.string a.ri) := (BW.out.cell (p := ⟨b, off + kk * 4 + 3, none⟩) hbB).trans (hc 3 _ rfl)
      obtain ⟨ha0, ha1⟩ := HF.out a (List.mem_of_getElem? hx)
      obtain ⟨v, hblk, hown⟩ := BD.out
      obtain ⟨aoo, Lo, capo, rfl⟩ := Own.slv encP_len hown
      have hcB := cell_of_one hblk
      have hBw := lt_of_block hblk
      have hsz := BW.out.size
      have hn : Hid (capA 0 (ads.take (kk + 1)) = min (n + a.ln) 1000000000000000) := Lib.hid (by rw [capA_take hx, N.out])
      have hnx : Hid (l ++ (ads.take (kk + 1)).map adP = (l ++ (ads.take kk).map adP) ++ [⟨a.na, 0, a.ln⟩]) := Lib.hid (by rw [take_next hx, List.map_append, List.append_assoc]; rfl)
      have hll : Hid ((l ++ (ads.take kk).map adP).length < 1000000000000) := Lib.hid (by simp; omega)
      have HOW := Lib.hid hown
      have HBK : Hid ((wr.alloc (.cells #[.string a.na, .int .i64 a.ln, .int .i64 a.va, .string a.ri] 47)).heap[B]? = _) := Lib.hid ((Below.heap_alloc wr _ B hBw).trans hblk)
      clear hx hc hown hblk
      have hBX : Hid ((wr.alloc (.cells #[.string a.na, .int .i64 a.ln, .int .i64 a.va, .string a.ri] 47)).heap[wr.heap.size]? = _) := Lib.hid (block_new wr _)
      go_upto_region 5 with (fail)
      go_cut [] (fun w4 => AdsCut B wr w4 (l ++ (ads.take (kk + 1)).map adP) a.ln)
      case first =>
        go_region_law (refine step_pushP rfl _ _ 48 rfl slP rfl rfl ⟨a.na, 0, a.ln⟩ rfl rfl rfl (HOW.out.al _) (by simp) (by have := hll.out; omega) (by simp; omega) ?_; intro v5 w5 ho5 hb5 hk5; rw [← hnx.out] at ho5; obtain ⟨ao5, L5, cap5, rfl⟩ := Own.slv encP_len ho5; have HO5 := Lib.hid ho5; have HB5 := Lib.hid hb5; have HK5 := Lib.hid hk5; have hblk5 := hk5 _ _ _ _ HBK.out (by decide); have HX5 := Lib.hid (hk5 _ _ _ _ hBX.out (by decide)); have hc5 := cell_of_one hblk5; have hf5 := free_of_one hblk5; have HBLK5 := Lib.hid hblk5; clear ho5 hb5 hk5 hblk5)
        all_goals
          go_wp2
          go_meet
          exact AdsCut.mk HBLK5.out HO5.out HB5.out HX5.out hBw HK5.out
      have hq1 := hcut.1
      have hq2 := hcut.2.1
      have hq3 := hcut.2.2.2
      have HQ1 := Lib.hid hq1
      have HQ2 := Lib.hid hq2
      have HQ4 := Lib.hid hcut.2.2.1
      clear hq1 hq2 hcut hcB
      go_wp2
      all_goals
        go_roundg (ads.length - (kk + 1))
        case measure => omega
        case rel => exact ⟨kk + 1, _, by omega, by omega, by go_num, rfl, by omega, by omega, (show Aside _ from by show _ = _; rw [hn.out]; omega), BW.out.trans HQ2.out, HQ1.out, KB.out.trans HQ4.out⟩
    · obtain rfl : kk = ads.length := by omega
      go_wp2
      go_ret
      exact BldPost.mk (ret_int (by rw [N.out, List.take_length])) (by have := BD.out; rwa [List.take_length] at this) BW.out KB.out

/-- A timeline, if it is right. -/
def rightL (l : List Prt) : List Prt := if checkP l = 0 then l else []

set_option maxHeartbeats 1000000 in
theorem bdone_any (w : World) (B : Nat) (l : List Prt) (h : Bld w B l) (hp : ∀ p, p ∈ l → WfP p) :
    Calls Try.prog 28 #[.pointer (some ⟨B, 0, none⟩)] w (SlPost w 3 encP (rightL l) (checkP l)) := by
  obtain ⟨v, hblk, hown⟩ := h
  have hcB := cell_of_one hblk
  have hBw := lt_of_block hblk
  have hsl := hown.sl encP_len
  have h1 := checkParts_any w l v hsl hp
  have hR : Hid (rightL l = if checkP l = 0 then l else []) := Lib.hid rfl
  generalize checkP l = c at h1 hR ⊢
  have HSL := Lib.hid hsl
  clear hblk hown hsl
  cases e1 : (c != 0)
  case true =>
    have hv : Hid (rightL l = []) := Lib.hid (by rw [hR.out, if_neg (by simpa using e1)])
    go_enter Try.func28, Try.ntmps28
    go_wp2_with (go_at_call 47; refine h1.mono ?_; rintro e w' ⟨rfl, hb'⟩)
    go_ret2
    exact SlPost.mk rfl (by rw [hv.out]; exact Sl.nil) hb'
  obtain rfl : c = 0 := by simpa using e1
  have hv : Hid (rightL l = l) := Lib.hid (by rw [hR.out, if_pos rfl])
  clear e1
  go_enter Try.func28, Try.ntmps28
  go_wp2_with (go_at_call 47; refine h1.mono ?_; rintro e w' ⟨rfl, hb'⟩; have hc' := (hb'.cell (p := ⟨B, 0, none⟩) hBw).trans hcB)
  go_ret2
  exact SlPost.mk rfl (by rw [hv.out]; exact HSL.out.below hb' (Nat.le_refl _)) hb'
end Go.Proofs.Ytpdeodoidlcdoaa

/- Due of the reference: what it returns. -/
namespace Go.Proofs.Ytpdeodoidlcdoaa
open Go.RowKit

theorem Sl.drewN {α : Type} {w : World} {k : Nat} {enc : α → List Value} {v : Value} {l : List α} (h : Sl w k enc v l) (n : Nat) : Sl (w.drewN n) k enc v l := h

end Go.Proofs.Ytpdeodoidlcdoaa

/- playedFault; the reference's programme, played, right. -/
namespace Go.Proofs.Ytpdeodoidlcdoaa
open Go.RowKit

set_option maxRecDepth 100000 in
set_option maxHeartbeats 4000000 in
theorem playedFault_any (w : World) (ads : List Adv) (u : Value) (hs : Sl w 4 encA u ads) (hw : ∀ a, a ∈ ads → WfA a) :
    Calls Try.prog 25 #[u] w fun e w' => e = .returned (.int .i64 (adsF ads)) ∧ Below w.heap.size w w' := by
  obtain ⟨ao, cap, rfl, hcap, hmax, hnil, hel⟩ := hs
  unfold maxLen at hmax
  have hF : Hid (adsF ads = FF (fun j => adF (ads.getD j default)) ads.length) := Lib.hid rfl
  generalize adsF ads = F at hF ⊢
  go_enter Try.func25, Try.ntmps25
  go_wp2
  go_loopg [7] ads.length (fun gg s7 wr => ∃ kk : Nat, kk ≤ ads.length ∧ ads.length - kk ≤ gg ∧ s7 = .int .i64 kk ∧ Aside (Below w.heap.size w wr) ∧ Aside (∀ j, j < kk → adF (ads.getD j default) = 0))
  case atStart => exact ⟨0, Nat.zero_le _, by omega, rfl, Below.refl _ _, fun j hj => absurd hj (Nat.not_lt_zero _)⟩
  case round =>
    obtain ⟨kk, hkk, hg, rfl, BW, A⟩ := hrel
    by_cases hlt : kk < ads.length
    · have hltz : (kk : Int) < (ads.length : Int) := by omega
      obtain ⟨a, hx⟩ : ∃ x, ads[kk]? = some x := ⟨ads[kk], by simp [hlt]⟩
      obtain ⟨b, off, rfl, hc⟩ := hel kk a hx
      have hlt0 := World.block_lt_of_cell? w _ (hc 0 _ rfl)
      have c0 : wr.cell? ⟨b, off + kk * 4, none⟩ = some (.string a.na) := (BW.out.cell (p := ⟨b, off + kk * 4, none⟩) hlt0).trans (hc 0 _ rfl)
      have c1 : wr.cell? ⟨b, off + kk * 4 + 1, none⟩ = some (.int .i64 a.ln) := (BW.out.cell (p := ⟨b, off + kk * 4 + 1, none⟩) hlt0).trans (hc 1 _ rfl)
      have c2 : wr.cell? ⟨b, off + kk * 4 + 2, none⟩ = some (.int .i64 a.va) := (BW.out.cell (p := ⟨b, off + kk * 4 + 2, none⟩) hlt0).trans (hc 2 _ rfl)
      have c3 : wr.cell? ⟨b, off + kk * 4 + 3, none⟩ = some (.string a.ri) := (BW.out.cell (p := ⟨b, off + kk * 4 + 3, none⟩) hlt0).trans (hc 3 _ rfl)
      have hsz : a.na.size ≤ 9223372036854775807 := (hw a (List.mem_of_getElem? hx)).1
      have hin := isName_any a.na
      have hgd : Hid (ads.getD kk default = a) := Lib.hid (by rw [List.getD_eq_getElem?_getD, hx]; rfl)
      have hS : Hid (∀ z, adF a = z → z ≠ 0 → z = F) := Lib.hid (fun z h hz => by
        rw [hF.out, FF_hit hlt A.out (by rw [hgd.out, h]; exact hz), hgd.out, h])
      have hA : Hid (adF a = if nameB a.na = false then 5 else if outB a.ln 1 1000000000000000 = true then 1 else 0) := Lib.hid rfl
      have hszw := BW.out.size
      clear hx hc hel hw
      cases e1 : nameB a.na
      case false =>
        have hv : Hid (5 = F) := Lib.hid (hS.out 5 (by rw [hA.out, if_pos e1]) (by decide))
        go_wp2_with (first | (go_at_call 40; refine (hin _ hsz).mono ?_; rintro e w' ⟨rfl, rfl⟩) | (go_at_call 21; refine (out_any _ _ _ _).mono ?_; rintro e w' ⟨rfl, rfl⟩))
        go_ret
        exact ⟨ret_int hv.out, BW.out.alloc hszw _⟩
      cases e2 : outB a.ln 1 1000000000000000
      case true =>
        have hv : Hid (1 = F) := Lib.hid (hS.out 1 (by rw [hA.out, e1, e2]; rfl) (by decide))
        go_wp2_with (first | (go_at_call 40; refine (hin _ hsz).mono ?_; rintro e w' ⟨rfl, rfl⟩) | (go_at_call 21; refine (out_any _ _ _ _).mono ?_; rintro e w' ⟨rfl, rfl⟩))
        go_ret
        exact ⟨ret_int hv.out, BW.out.alloc hszw _⟩
      case false =>
        have hv : Hid (adF a = 0) := Lib.hid (by rw [hA.out, e1, e2]; rfl)
        go_wp2_with (first | (go_at_call 40; refine (hin _ hsz).mono ?_; rintro e w' ⟨rfl, rfl⟩) | (go_at_call 21; refine (out_any _ _ _ _).mono ?_; rintro e w' ⟨rfl, rfl⟩))
        go_roundg (ads.length - (kk + 1))
        case measure => omega
        case rel =>
          refine ⟨kk + 1, by omega, by omega, by go_num, BW.out.alloc hszw _, (show Aside _ from fun j hj => ?_)⟩
          by_cases e : j = kk
          · rw [e, hgd.out, hv.out]
          · exact A.out j (by omega)
    · obtain rfl : kk = ads.length := by omega
      have hv : Hid (0 = F) := Lib.hid (by rw [hF.out, FF_zero A.out])
      clear hel
      go_wp2
      go_ret
      exact ⟨ret_int hv.out, BW.out⟩

/-- A timeline that the call has built. -/
def TlRet (w : World) (base : Nat) (l : List Prt) : Ending → World → Prop := fun e w' => ∃ v', e = .returned v' ∧ Own w' base 52 3 encP v' l ∧ Below base w w'
theorem TlRet.mk {w w' : World} {base : Nat} {l : List Prt} {v' : Value} (h : Own w' base 52 3 encP v' l) (hb : Below base w w') : TlRet w base l (.returned v') w' := ⟨v', rfl, h, hb⟩
def TlRet2 (w : World) (base : Nat) (l : List Prt) (f : Int) : Ending → World → Prop := fun e w' => ∃ v', e = .returned (.tuple #[v', .int .i64 f]) ∧ Own w' base 52 3 encP v' l ∧ Below base w w'
theorem TlRet2.mk {w w' : World} {base : Nat} {l : List Prt} {f f' : Int} {v' : Value} (hf : f' = f) (h : Own w' base 52 3 encP v' l) (hb : Below base w w') : TlRet2 w base l f (.returned (.tuple #[v', .int .i64 f'])) w' := ⟨v', by rw [hf], h, hb⟩

/-- What played leaves. -/
def playL (l : List Prt) (ads : List Adv) : List Prt := if adsF ads = 0 then l ++ ads.map adP else []

end Go.Proofs.Ytpdeodoidlcdoaa

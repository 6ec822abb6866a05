/- Bounds of choices; append of an int in a region that draws its order. -/
import Derived.Test.YtpdeodoidlcdoaaG09
import Derived.Test.YtpdeodoidlcdoaaG04
import Derived.Test.YtpdeodoidlcdoaaG11
import Derived.Deep.RegionHeld3
import Derived.Test.YtpdeodoidlcdoaaG10
namespace Go.Proofs.Ytpdeodoidlcdoaa
open Go.RowKit

theorem bitsL_len (bit : Nat → Bool) : ∀ n, (bitsL bit n).length ≤ n
  | 0 => by simp [bitsL]
  | n + 1 => by
    have := bitsL_len bit n
    unfold bitsL
    split
    · simp; omega
    · omega
theorem okL.cnt {l : List Adv} {m : Int} {L : List Int} (h : okL l m L) : L.length ≤ l.length := by
  obtain ⟨s, _, rfl⟩ := bits_all l.length L h.rng h.inc
  exact bitsL_len _ _
theorem sel_bd {f : Int → Int} {C : Int} : ∀ {L : List Int}, (∀ k, k ∈ L → 0 ≤ f k ∧ f k ≤ C) → 0 ≤ (L.map f).sum ∧ (L.map f).sum ≤ L.length * C
  | [], _ => by simp
  | k :: r, h => by
    have h1 := h k (by simp)
    have h2 := sel_bd (f := f) (C := C) (L := r) fun j hj => h j (by simp [hj])
    simp only [List.map_cons, List.sum_cons, List.length_cons, Int.natCast_add, Int.add_mul]
    omega
/-- The bounds of advertisements that have no fault. -/
def AdsOk (l : List Adv) : Prop := l.length ≤ 16 ∧ ∀ x, x ∈ l → (1 ≤ x.ln ∧ x.ln ≤ 1000000000000000) ∧ (0 ≤ x.va ∧ x.va ≤ 1000000000)
theorem adAt_of {l : List Adv} {k : Int} (h : 0 ≤ k ∧ k < l.length) : adAt l k ∈ l := by
  unfold adAt
  rw [getD_of (List.getElem?_eq_getElem (by omega : k.toNat < l.length))]
  exact List.getElem_mem _
theorem okL.bdV {l : List Adv} {m : Int} {L : List Int} (h : okL l m L) (ha : AdsOk l) : 0 ≤ selV l L ∧ selV l L ≤ 16000000000 := by
  have h1 := sel_bd (f := fun k => (adAt l k).va) (C := 1000000000) (L := L) fun k hk => (ha.2 _ (adAt_of (h.rng k hk))).2
  have h2 := h.cnt
  have h3 := ha.1
  unfold selV
  omega
theorem okL.bdL {l : List Adv} {m : Int} {L : List Int} (h : okL l m L) (ha : AdsOk l) : 0 ≤ selL l L :=
  sum_nonneg fun k hk => by have := (ha.2 _ (adAt_of (h.rng k hk))).1; omega

theorem cell_new1 (w : World) (v : Value) (E : TypeId) (fr : Nat × Nat) : (w.alloc (.cells #[v] E fr)).cell? ⟨w.heap.size, 0, none⟩ = some v := by rw [World.cell?_alloc_mark]; rfl
theorem lt_alloc (w : World) (o : Obj) : w.heap.size < (w.alloc o).heap.size := by simp
theorem le_alloc {w : World} {b : Nat} (o : Obj) (h : b ≤ w.heap.size) : b ≤ (w.alloc o).heap.size := Nat.le_trans h (Nat.le_of_lt (lt_alloc w o))
theorem add0 (A : Nat) : (⟨A, 0, none⟩ : Addr).add 0 = ⟨A, 0, none⟩ := by unfold Addr.add; split <;> simp_all
/-- append of one int that lies somewhere, as one step of a region that draws its order. -/
theorem step_int {P : Program} {ops : Array Oper} {o : Oper} {a : Act} {Q : Exit → Act → World → Prop} {K : Act → World → Prop} {X : Prop} (hgd : o.guard = none) (s x : Operand) (t : TypeId)
    (ho : o.op = .call { callee := .builtin .append, args := #[s, x], argTypes := #[t, t] })
    {E : TypeId} (hT : SlT P t E 1 8) {base : Nat} {v : Value} {l : List Int} {W : World} (hs : a.eval s = v)
    {A : Nat} {y : Int} (hx : a.eval x = .slice (some ⟨A, 0, none⟩) 1 1) (hc : W.cell? ⟨A, 0, none⟩ = some (.int .i64 y))
    (hown : Own W base E 1 encI v l) (hn : (l.length + 1) * 8 ≤ 140737488355328) (hbase : base ≤ W.heap.size)
    (h : ∀ v' w', Own w' base E 1 encI v' (l ++ [y]) → Below base W w' → K (a.put o.dst v') w') :
    if Region.wanted o (yielded ops a.tmps) = true then Oper.wp P o a W K Q else X := by
  have hw : Region.wanted o (yielded ops a.tmps) = true := by simp [Region.wanted, hgd]
  rw [if_pos hw]
  obtain ⟨i, z, ht, hi, hz, hsize, hby, hzs, hsz, hb0⟩ := hT
  refine wp_append_own _ s x t ho base E i z 1 8 ht hi hz hsize hby hzs hsz v l.length (l.flatMap encI) hs hown ⟨A, 0, none⟩ 1 1 [.int .i64 y] hx (by simp)
    (fun j u hu => ?_) (fun u hu => by simp at hu; subst hu; rfl) (by unfold maxLen; omega) hn hbase (fun v' w' h2 h3 _ => h v' w' ?_ ?_)
  · match j with
    | 0 => simp at hu; subst hu; rw [add0]; exact hc
    | j + 1 => simp at hu
  · unfold Own
    rw [List.flatMap_append, List.length_append, List.flatMap_singleton]
    exact h2
  · exact (Below.refl _ _).grown h3 hbase (fun k hk => (World.ownsRow.lt hown k hk).1)

end Go.Proofs.Ytpdeodoidlcdoaa

/- The recursion over choices, of the program. -/
namespace Go.Proofs.Ytpdeodoidlcdoaa
open Go.RowKit

def FromP (W : World) (P : Nat) (va : Value) (m : Int) (l : List Adv) (PL : List Int) (i : Int) (B : List Int) : Ending → World → Prop :=
  fun e w' => ∃ B', e = .returned (.tuple #[]) ∧ FillAt w' P va m l B' ∧ okL l m B' ∧ upB l B B' ∧ coverL l m PL i B' ∧ Onl P W w'

theorem cell_set3 (W : World) {P a b c blk o : Nat} {u v x : Value} (h : blk ≠ P) : (((W.setCell ⟨P, a, none⟩ u).setCell ⟨P, b, none⟩ v).setCell ⟨P, c, none⟩ x).cell? ⟨blk, o, none⟩ = W.cell? ⟨blk, o, none⟩ :=
  World.cell?_of_block (a := ⟨blk, o, none⟩) ((Below.heap_setCell _ _ _ _ h).trans ((Below.heap_setCell _ _ _ _ h).trans (Below.heap_setCell _ _ _ _ h)))

/-- What holds when the choice itself has been looked at. -/
def Up1 (w : World) (P : Nat) (va : Value) (m : Int) (l : List Adv) (PL B : List Int) (w' : World) : Prop :=
  Onl P w w' ∧ ∃ B1, FillAt w' P va m l B1 ∧ okL l m B1 ∧ upB l B B1 ∧ betB l PL B1 = false

/-- What holds when numbers below k have been tried. -/
def FR (w : World) (P : Nat) (va : Value) (m : Int) (l : List Adv) (PL B : List Int) (i k : Int) (w' : World) : Prop :=
  Onl P w w' ∧ ∃ B1, FillAt w' P va m l B1 ∧ okL l m B1 ∧ upB l B B1 ∧ coverTo l m PL i k B1

theorem FillAt.store {W : World} {P : Nat} {va : Value} {m : Int} {l : List Adv} {B PL : List Int} {v : Value} (h : FillAt W P va m l B) (hs : Sl W 1 encI v PL) (hp : offB P v) :
    FillAt (((W.setCell ⟨P, 2, none⟩ (.int .i64 (selV l PL))).setCell ⟨P, 3, none⟩ (.int .i64 (selL l PL))).setCell ⟨P, 4, none⟩ v) P va m l PL := by
  obtain ⟨vb, h1, _, _⟩ := h
  refine ⟨v, ?_, hs.onl hp (((Onl.set P W 2 _).trans (Onl.set P _ 3 _)).trans (Onl.set P _ 4 _)), hp⟩
  have h2 := heap_setCell_same W P 2 _ _ (.int .i64 (selV l PL)) h1
  have h3 := heap_setCell_same _ P 3 _ _ (.int .i64 (selL l PL)) h2
  have h4 := heap_setCell_same _ P 4 _ _ v h3
  exact h4

set_option maxRecDepth 100000 in
set_option maxHeartbeats 4000000 in
theorem from_any (l : List Adv) (m : Int) (hm : 0 ≤ m ∧ m ≤ 1000000000000000) (ha : AdsOk l) : ∀ (n : Nat) (i : Nat) (w : World) (P : Nat) (va vp : Value) (PL B : List Int), l.length - i < n → i ≤ l.length → Sl w 4 encA va l → (l ≠ [] → offB P va) → FillAt w P va m l B → Sl w 1 encI vp PL → offB P vp →
    okL l m PL → (∀ j, j ∈ PL → j < i) → okL l m B →
    Calls Try.prog 24 #[.pointer (some ⟨P, 0, none⟩), .int .i64 i, .agg #[.int .i64 (selV l PL), .int .i64 (selL l PL), vp]] w (FromP w P va m l PL i B) := by
  intro n
  induction n with
  | zero => exact fun i w P va vp PL B hn => absurd hn (Nat.not_lt_zero _)
  | succ n ih =>
    intro i w P va vp PL B hn hi hva hPa hf hvp hPp hPL hlt hB
    have hbv := hPL.bdV ha
    have hbl := hPL.bdL ha
    have hbl2 := hPL.len
    have HPL := Lib.hid hPL
    have HB := Lib.hid hB
    have HLT := Lib.hid hlt
    have HVA := Lib.hid hva
    have HVP := Lib.hid hvp
    have HF := Lib.hid hf
    have HPA := Lib.hid hPa
    have HPP := Lib.hid hPp
    have hP := hf.lt
    have IH := Lib.hid ih
    obtain ⟨vb, hf0, hvb, hPb⟩ := hf
    have HFB := Lib.hid hf0
    have HVB := Lib.hid hvb
    have HPB := Lib.hid hPb
    have f0 := (cell_of_block (i := 0) hf0).trans rfl
    have f2 := (cell_of_block (i := 2) hf0).trans rfl
    have f3 := (cell_of_block (i := 3) hf0).trans rfl
    have f4 := (cell_of_block (i := 4) hf0).trans rfl
    have HK0 := Lib.hid (block_new w (.cells #[.pointer (some ⟨P, 0, none⟩)] 82))
    have hsz : (w.alloc (.cells #[.pointer (some ⟨P, 0, none⟩)] 82)).heap.size = w.heap.size + 1 := by simp
    have hK1 := block_new (w.alloc (.cells #[.pointer (some ⟨P, 0, none⟩)] 82)) (.cells #[.int .i64 (selV l PL), .int .i64 (selL l PL), vp] 84)
    rw [hsz] at hK1
    have HB2 := Lib.hid (((Below.refl w.heap.size w).alloc (Nat.le_refl _) (.cells #[.pointer (some ⟨P, 0, none⟩)] 82)).alloc (by simp) (.cells #[.int .i64 (selV l PL), .int .i64 (selL l PL), vp] 84))
    have hK0 : ((w.alloc (.cells #[.pointer (some ⟨P, 0, none⟩)] 82)).alloc (.cells #[.int .i64 (selV l PL), .int .i64 (selL l PL), vp] 84)).heap[w.heap.size]? = some (.cells #[.pointer (some ⟨P, 0, none⟩)] 82) := by
      rw [Below.heap_alloc _ _ _ (by simp)]; exact HK0.out
    obtain ⟨w2, hw2⟩ : ∃ w2, w2 = ((w.alloc (.cells #[.pointer (some ⟨P, 0, none⟩)] 82)).alloc (.cells #[.int .i64 (selV l PL), .int .i64 (selL l PL), vp] 84)) := ⟨_, rfl⟩
    rw [← hw2] at hK0 hK1 HB2
    have HW2 := Lib.hid hw2
    have hsz2 : w2.heap.size = w.heap.size + 2 := by rw [hw2]; simp
    have HS2 := Lib.hid hsz2
    have HBT : Hid (∀ W v u, Sl W 1 encI v PL → Sl W 1 encI u B → Calls Try.prog 43 #[.agg #[.int .i64 (selV l PL), .int .i64 (selL l PL), v], .agg #[.int .i64 (selV l B), .int .i64 (selL l B), u]] W fun e w' => e = .returned (.bool (betB l PL B)) ∧ Below W.heap.size W w') :=
      Lib.hid fun W v u h1 h2 => better_any W _ _ _ _ PL B v u h1 h2
    clear hw2 hsz2 hsz HK0 hva hvp hvb hPb hPa hPp hPL hB hlt ih
    have H0 := Lib.hid hK0
    have hl0 : w.heap.size < w2.heap.size := by have := HS2.out; omega
    have hl1 : w.heap.size + 1 < w2.heap.size := by have := HS2.out; omega
    have hlP : P < w2.heap.size := by have := HS2.out; omega
    have H1 := Lib.hid hK1
    have e0 := (cell_of_block (i := 0) hK0).trans rfl
    have e1 := (cell_of_block (i := 0) hK1).trans rfl
    have e2 := (cell_of_block (i := 1) hK1).trans rfl
    have e3 := (cell_of_block (i := 2) hK1).trans rfl
    have g0 := (cell_of_block (i := 0) ((HB2.out.block P hP).trans hf0)).trans rfl
    have g2 := (cell_of_block (i := 2) ((HB2.out.block P hP).trans hf0)).trans rfl
    have g3 := (cell_of_block (i := 3) ((HB2.out.block P hP).trans hf0)).trans rfl
    have g4 := (cell_of_block (i := 4) ((HB2.out.block P hP).trans hf0)).trans rfl
    clear hK0 hK1 hf0 f0 f2 f3 f4
    go_enter Try.func24, Try.ntmps24
    go_upto_region 1 with (fail)
    rw [← HW2.out]
    go_cut [13] (fun s13 w4 => s13 = .bool (betB l PL B) ∧ Aside (Below w2.heap.size w2 w4))
    case first =>
      as_aux_lemma =>
        go_region_held3 (fun w' => w'.cell? ⟨w.heap.size, 0, none⟩ = some (.pointer (some ⟨P, 0, none⟩)) ∧ w'.cell? ⟨w.heap.size + 1, 0, none⟩ = some (.int .i64 (selV l PL)) ∧ w'.cell? ⟨w.heap.size + 1, 1, none⟩ = some (.int .i64 (selL l PL)) ∧ w'.cell? ⟨w.heap.size + 1, 2, none⟩ = some vp ∧ w'.cell? ⟨P, 2, none⟩ = some (.int .i64 (selV l B)) ∧ w'.cell? ⟨P, 3, none⟩ = some (.int .i64 (selL l B)) ∧ w'.cell? ⟨P, 4, none⟩ = some vb)
          (first | go_keep | (refine ⟨?_, ?_, ?_, ?_, ?_, ?_, ?_⟩ <;> (refine (hb.cell ?_).trans ?_ <;> first | exact hl0 | exact hl1 | exact hlP | exact e0 | exact e1 | exact e2 | exact e3 | exact g2 | exact g3 | exact g4)))
          (first | (go_at_call 43; refine (HBT.out _ vp vb (HVP.out.below (below_drewN HB2.out 1) (Nat.le_refl _)) (HVB.out.below (below_drewN HB2.out 1) (Nat.le_refl _))).mono ?_; rintro e w' ⟨rfl, hb⟩))
        go_wp2
        go_meet
        exact ⟨rfl, (below_drewN (Below.refl _ w2) 1).trans hb⟩
    obtain ⟨rfl, BW⟩ := hcut
    obtain ⟨wd, rfl⟩ : ∃ wd, wd = wc := ⟨_, rfl⟩
    have hbk : Hid (betB l PL PL = false) := Lib.hid (betB_irr l PL)
    have hob : Hid (Onl P w2 wd) := Lib.hid (Onl.of_below BW.out)
    have hfc : Hid (FillAt wd P va m l B) := Lib.hid ((HF.out.below HB2.out).below BW.out)
    have e0' := (BW.out.cell (p := ⟨w.heap.size, 0, none⟩) hl0).trans e0
    have e1' := (BW.out.cell (p := ⟨w.heap.size + 1, 0, none⟩) hl1).trans e1
    have e2' := (BW.out.cell (p := ⟨w.heap.size + 1, 1, none⟩) hl1).trans e2
    have e3' := (BW.out.cell (p := ⟨w.heap.size + 1, 2, none⟩) hl1).trans e3
    have g2' := (BW.out.cell (p := ⟨P, 2, none⟩) hlP).trans g2
    have g3' := (BW.out.cell (p := ⟨P, 3, none⟩) hlP).trans g3
    have g4' := (BW.out.cell (p := ⟨P, 4, none⟩) hlP).trans g4
    have z2' : wd.frozen? ⟨P, 2, none⟩ = false := by obtain ⟨vb', h1, _⟩ := hfc.out; simp [World.frozen?, h1]
    have z3' : wd.frozen? ⟨P, 3, none⟩ = false := by obtain ⟨vb', h1, _⟩ := hfc.out; simp [World.frozen?, h1]
    have z4' : wd.frozen? ⟨P, 4, none⟩ = false := by obtain ⟨vb', h1, _⟩ := hfc.out; simp [World.frozen?, h1]
    have hc0 : w.heap.size < wd.heap.size := Nat.lt_of_lt_of_le hl0 BW.out.size
    have hc1 : w.heap.size + 1 < wd.heap.size := Nat.lt_of_lt_of_le hl1 BW.out.size
    have hcP : P < wd.heap.size := Nat.lt_of_lt_of_le hlP BW.out.size
    have HVPc := Lib.hid ((HVP.out.below HB2.out (Nat.le_refl _)).below BW.out (Nat.le_refl _))
    clear e0 e1 e2 e3 g0 g2 g3 g4
    have hlenP : Hid (PL.length * 8 ≤ 140737488355328) := Lib.hid (by have := HPL.out.cnt; have := ha.1; omega)
    obtain ⟨bb, hbb⟩ : ∃ bb, bb = betB l PL B := ⟨_, rfl⟩
    rw [← hbb]
    have HBB := Lib.hid hbb
    clear hbb
    go_upto_if 13 with (fail)
    go_cut [13] (fun _ w5 => Aside (Up1 w2 P va m l PL B w5))
    case first =>
      as_aux_lemma =>
        cases bb
        case false =>
          go_wp2
          go_meet
          exact ⟨hob.out, B, hfc.out, HB.out, upB.refl l B, HBB.out.symm⟩
        case true =>
          as_aux_lemma =>
          go_wp2_with fail
          go_region_held3 (fun w' => w'.cell? ⟨w.heap.size, 0, none⟩ = some (.pointer (some ⟨P, 0, none⟩)) ∧ w'.cell? ⟨w.heap.size + 1, 0, none⟩ = some (.int .i64 (selV l PL)) ∧ w'.cell? ⟨w.heap.size + 1, 1, none⟩ = some (.int .i64 (selL l PL)) ∧ w'.cell? ⟨w.heap.size + 1, 2, none⟩ = some vp)
            (first | go_keep | (refine ⟨?_, ?_, ?_, ?_⟩ <;> (refine (hb.cell ?_).trans ?_ <;> first | exact hc0 | exact hc1 | exact e0' | exact e1' | exact e2' | exact e3')) | ((refine ⟨?_, ?_, ?_, ?_⟩ <;> (refine (cell_set3 _ (by omega)).trans ((hb.cell ?_).trans ?_) <;> first | exact hc0 | exact hc1 | exact e0' | exact e1' | exact e2' | exact e3'))))
            (first | (go_at_call 44; refine (cloneI_any _ PL vp (HVPc.out.below (below_drewN (Below.refl _ wd) 1) (Nat.le_refl _)) hlenP.out).mono ?_; rintro e w' ⟨v', rfl, ho, hb⟩; obtain ⟨ao', L', cp', rfl⟩ := Own.slv encI_len ho; have s2 := (hb.cell (p := ⟨P, 2, none⟩) hcP).trans g2'; have s3 := (hb.cell (p := ⟨P, 3, none⟩) hcP).trans g3'; have s4 := (hb.cell (p := ⟨P, 4, none⟩) hcP).trans g4'; have y2 := (hb.frozen (p := ⟨P, 2, none⟩) hcP).trans z2'; have y3 := (hb.frozen (p := ⟨P, 3, none⟩) hcP).trans z3'; have y4 := (hb.frozen (p := ⟨P, 4, none⟩) hcP).trans z4'))
          go_wp2
          go_meet
          exact ⟨(hob.out.below (below_drewN (Below.refl _ wd) 1)).below hb |>.trans (((Onl.set P _ 2 _).trans (Onl.set P _ 3 _)).trans (Onl.set P _ 4 _)), PL, ((show FillAt (wd.drewN 1) P va m l B from hfc.out).below hb).store (ho.sl encI_len) (ho.offB hcP), HPL.out, .inr HBB.out.symm, hbk.out⟩
    obtain ⟨wx, rfl⟩ : ∃ wx, wx = wc := ⟨_, rfl⟩
    have HU : Hid (FR w2 P va m l PL B i i wx) := Lib.hid (by
      obtain ⟨h1, B1, h2, h3, h4, h5⟩ := hcut.out
      exact ⟨h1, B1, h2, h3, h4, .start h5⟩)
    clear hcut BW hbk hob hfc e0' e1' e2' e3' g2' g3' g4' z2' z3' z4' hc0 hc1 hcP HVPc HBT HBB HB HVB HPB HFB HF
    have HS4 := Lib.hid ((HVA.out.below HB2.out (Nat.le_refl _)))
    obtain ⟨ao, cap, rfl, hcap, hmax, hnil, hel⟩ := HVA.out
    unfold maxLen at hmax
    clear hel hnil
    obtain ⟨po, pn, pcap, rfl⟩ : ∃ po pn pcap, vp = .slice po pn pcap := by obtain ⟨ao, cap, rfl, _⟩ := HVP.out; exact ⟨_, _, _, rfl⟩
    go_wp2_with fail
    go_loopg [1, 6, 7] l.length (fun gg s1 _ _ wr => ∃ kk : Nat, kk ≤ l.length ∧ l.length - kk ≤ gg ∧ i ≤ kk ∧ s1 = .int .i64 kk ∧ Aside (FR w2 P (.slice ao l.length cap) m l PL B i kk wr))
    case atStart => exact ⟨i, hi, by omega, Nat.le_refl _, rfl, HU.out⟩
    case round =>
      obtain ⟨kk, hkk, hg, hik, rfl, HR⟩ := hrel
      obtain ⟨HO, B1, HF1, HB1, HUP, HCV⟩ := HR.out
      clear HR
      have HO := Lib.hid HO
      have HB1 := Lib.hid HB1
      have HUP := Lib.hid HUP
      have HCV := Lib.hid HCV
      have hf1 := Lib.hid HF1
      obtain ⟨vb1, hblk, hvb1, hpb1⟩ := HF1
      have k0 := HO.out.block H0.out (by omega)
      have k1 := HO.out.block H1.out (by omega)
      have e0 := (cell_of_block (i := 0) k0).trans rfl
      have f0 := (cell_of_block (i := 0) hblk).trans rfl
      have HK0 := Lib.hid k0
      have HK1 := Lib.hid k1
      have hw0 := lt_of_blk k0
      have hw1 := lt_of_blk k1
      have hwP := lt_of_blk hblk
      clear k0 k1 hvb1 hpb1
      by_cases hlt' : kk < l.length
      · have hltz : (kk : Int) < (l.length : Int) := by omega
        obtain ⟨x, hx⟩ : ∃ x, l[kk]? = some x := ⟨l[kk], by simp [hlt']⟩
        have hsl := HS4.out.onlE HPA.out HO.out
        have HSL := Lib.hid hsl
        obtain ⟨ao', cap', he, _, _, _, hel⟩ := hsl
        simp only [Value.slice.injEq, true_and] at he
        obtain ⟨rfl, rfl⟩ := he
        obtain ⟨b, off, hao, hc⟩ := hel kk x hx
        subst hao
        have hbw := World.block_lt_of_cell? wr ⟨b, off + kk * 4 + 0, none⟩ (hc 0 _ rfl)
        have hbw' : b < wr.heap.size := hbw
        have c0 : wr.cell? ⟨b, off + kk * 4, none⟩ = some (.string x.na) := hc 0 _ rfl
        have c1 : wr.cell? ⟨b, off + kk * 4 + 1, none⟩ = _ := hc 1 _ rfl
        have c2 : wr.cell? ⟨b, off + kk * 4 + 2, none⟩ = _ := hc 2 _ rfl
        have c3 : wr.cell? ⟨b, off + kk * 4 + 3, none⟩ = _ := hc 3 _ rfl
        have HX : Hid (adAt l kk = x) := Lib.hid (by unfold adAt; rw [Int.toNat_natCast, getD_of hx])
        have hxb := ha.2 x (List.mem_of_getElem? hx)
        obtain ⟨hxl, hxv⟩ := hxb
        have HWA := Lib.hid ((Below.refl wr.heap.size wr).alloc (Nat.le_refl _) (.cells #[.string x.na, .int .i64 x.ln, .int .i64 x.va, .string x.ri] 47))
        have HKA := Lib.hid (block_new wr (.cells #[.string x.na, .int .i64 x.ln, .int .i64 x.va, .string x.ri] 47))
        have HVPr := Lib.hid (((HVP.out.below HB2.out (Nat.le_refl _)).onl HPP.out HO.out))
        have HANY : Hid (Calls Try.prog 45 #[.slice po pn pcap, .func (.func 46) #[] #[.pointer (some ⟨w.heap.size, 0, none⟩), .pointer (some ⟨wr.heap.size, 0, none⟩)]] (wr.alloc (.cells #[.string x.na, .int .i64 x.ln, .int .i64 x.va, .string x.ri] 47)) fun e w' => e = .returned (.bool (PL.any fun k => (adAt l k).ri.toList == x.ri.toList)) ∧ Below (wr.alloc (.cells #[.string x.na, .int .i64 x.ln, .int .i64 x.va, .string x.ri] 47)).heap.size (wr.alloc (.cells #[.string x.na, .int .i64 x.ln, .int .i64 x.va, .string x.ri] 47)) w') :=
          Lib.hid (anyN 46 _ (fun k => (adAt l k).ri.toList == x.ri.toList) _ PL _ (HVPr.out.below HWA.out (Nat.le_refl _)) (enters_of Try.func46 (by kernel_rfl) rfl)
            (fun W k hk hb => rivC_any W P w.heap.size wr.heap.size _ m l B1 x k (HPL.out.rng k hk) ((HSL.out.below HWA.out (Nat.le_refl _)).below hb (Nat.le_refl _)) ((hf1.out.below HWA.out).below hb) ((hb.block _ (by simp; omega)).trans ((HWA.out.block _ hw0).trans HK0.out)) ((hb.block _ (by simp)).trans HKA.out)))
        have HRV : Hid ((PL.any fun j => riv l j kk) = (!x.ri.toList.isEmpty && PL.any fun k => (adAt l k).ri.toList == x.ri.toList)) := Lib.hid (by rw [riv_any, HX.out]; unfold rivE; rw [HX.out])
        obtain ⟨rv, hrv⟩ : ∃ rv, rv = PL.any fun j => riv l j kk := ⟨_, rfl⟩
        obtain ⟨ra, hra⟩ : ∃ ra, ra = PL.any fun k => (adAt l k).ri.toList == x.ri.toList := ⟨_, rfl⟩
        rw [← hrv, ← hra] at HRV
        rw [← hra] at HANY
        have HRR := Lib.hid hrv
        have p2 := (cell_of_block (i := 2) HK1.out).trans rfl
        clear hx hel hc hbw hblk hrv hra
        go_upto_region 6 with (fail)
        go_cut [7] (fun s7 w4 => s7 = .bool rv ∧ Aside (Below (wr.alloc (.cells #[.string x.na, .int .i64 x.ln, .int .i64 x.va, .string x.ri] 47)).heap.size (wr.alloc (.cells #[.string x.na, .int .i64 x.ln, .int .i64 x.va, .string x.ri] 47)) w4))
        case first =>
          as_aux_lemma =>
            cases e6 : x.ri.toList.isEmpty
            case true =>
              have hv : Hid (rv = false) := Lib.hid (by rw [HRV.out, e6]; rfl)
              have e6' : x.ri.toList = [] := by simpa using e6
              go_wp2
              go_meet
              exact ⟨by rw [hv.out], Below.refl _ _⟩
            case false =>
              have hv : Hid (rv = ra) := Lib.hid (by rw [HRV.out, e6]; rfl)
              have e6' : ¬ x.ri.toList = [] := by simpa using e6
              go_wp2_with (go_at_call 45; refine HANY.out.mono ?_; rintro e w' ⟨rfl, hb⟩)
              go_meet
              exact ⟨by rw [hv.out], hb⟩
        obtain ⟨rfl, BR⟩ := hcut
        obtain ⟨we, rfl⟩ : ∃ we, we = wc := ⟨_, rfl⟩
        have HBE := Lib.hid (HWA.out.thru BR.out)
        have hfe := Lib.hid ((hf1.out.below HWA.out).below BR.out)
        have hze : wr.heap.size + 1 ≤ we.heap.size := by have := BR.out.size; simpa using this
        have ka := (BR.out.block wr.heap.size (by simp)).trans HKA.out
        have kc := (HBE.out.block _ hw1).trans HK1.out
        have kf := (HBE.out.block _ hw0).trans HK0.out
        have a1 := (cell_of_block (i := 1) ka).trans rfl
        have a2 := (cell_of_block (i := 2) ka).trans rfl
        have q0 := (cell_of_block (i := 0) kc).trans rfl
        have q1 := (cell_of_block (i := 1) kc).trans rfl
        have q2 := (cell_of_block (i := 2) kc).trans rfl
        have q3 := (cell_of_block (i := 0) kf).trans rfl
        have q4 : we.cell? ⟨P, 1, none⟩ = some (.int .i64 m) := by obtain ⟨_, h, _, _⟩ := hfe.out; exact (cell_of_block (i := 1) h).trans rfl
        have HKA2 := Lib.hid ka
        have HKC := Lib.hid kc
        have HKF := Lib.hid kf
        have hsum : IntKind.i64.wrap (selL l PL + x.ln) = selL l PL + x.ln := IntWalk.i64_in _ (by omega)
        clear ka kc kf c0 c1 c2 c3 e0 f0 p2 BR HANY
        go_upto_region 7 with (fail)
        go_cut [62] (fun s62 w4 => s62 = .bool (rv || decide (m < selL l PL + x.ln)) ∧ ∃ n, w4 = we.drewN n)
        case first =>
          as_aux_lemma =>
            cases rv
            all_goals
              go_quiet (fail)
              go_wp2
              go_meet
              exact ⟨by simp, _, rfl⟩
        obtain ⟨rfl, nq, rfl⟩ := hcut
        have hok : Hid (rv = true ∨ m < selL l PL + x.ln → ¬ okL l m (PL ++ [(kk : Int)])) := Lib.hid (by
          rintro (h | h)
          · rw [HRR.out] at h
            exact not_okL_rival h
          · exact not_okL_long (by rw [HX.out]; exact h))
        have hok2 : Hid (rv = false → ¬ m < selL l PL + x.ln → okL l m (PL ++ [(kk : Int)])) := Lib.hid (fun h h2 => by
          rw [HRR.out] at h
          exact okL_snoc HPL.out (by omega) (by omega) (fun j hj => by have := HLT.out j hj; omega) h (by rw [HX.out]; omega))
        clear hsum
        by_cases hno : rv = true ∨ m < selL l PL + x.ln
        · have hd : (rv || decide (m < selL l PL + x.ln)) = true := by simpa using hno
          have hcv := Lib.hid (HCV.out.skip (hok.out hno) (fun a h => by have := (ha.2 a h).1; omega))
          rw [hd]
          clear hno hd
          go_wp2
          go_roundg (l.length - (kk + 1))
          case measure => omega
          case rel =>
            exact ⟨kk + 1, by omega, by omega, by omega, by go_num, (show FR _ _ _ _ _ _ _ _ _ _ from ⟨HO.out.below (below_drewN HBE.out nq), B1, hfe.out.below (below_drewN (Below.refl _ _) nq), HB1.out, HUP.out, hcv.out⟩)⟩
        · have hno1 : rv = false := by
            cases rv
            · rfl
            · exact absurd (.inl rfl) hno
          have hno2 : ¬ m < selL l PL + x.ln := fun h => hno (.inr h)
          have hd : (rv || decide (m < selL l PL + x.ln)) = false := by rw [hno1, decide_eq_false hno2]; rfl
          have HOK := Lib.hid (hok2.out hno1 hno2)
          rw [hd]
          clear hno hd hno1 hok hok2 HRV HRR
          obtain ⟨wn, hwn⟩ : ∃ wn, wn = we.drewN nq := ⟨_, rfl⟩
          rw [← hwn]
          have HBN : Hid (Below wr.heap.size wr wn) := Lib.hid (by rw [hwn]; exact below_drewN HBE.out nq)
          have hfn : Hid (FillAt wn P (.slice (some ⟨b, off, none⟩) l.length cap) m l B1) := Lib.hid (by rw [hwn]; exact hfe.out)
          have hzn : we.heap.size = wn.heap.size := by rw [hwn]; simp
          replace a1 : wn.cell? ⟨wr.heap.size, 1, none⟩ = some (.int .i64 x.ln) := by rw [hwn]; exact a1
          replace a2 : wn.cell? ⟨wr.heap.size, 2, none⟩ = some (.int .i64 x.va) := by rw [hwn]; exact a2
          replace q0 : wn.cell? ⟨w.heap.size + 1, 0, none⟩ = some (.int .i64 (selV l PL)) := by rw [hwn]; exact q0
          replace q1 : wn.cell? ⟨w.heap.size + 1, 1, none⟩ = some (.int .i64 (selL l PL)) := by rw [hwn]; exact q1
          replace q2 : wn.cell? ⟨w.heap.size + 1, 2, none⟩ = some (.slice po pn pcap) := by rw [hwn]; exact q2
          replace q3 : wn.cell? ⟨w.heap.size, 0, none⟩ = some (.pointer (some ⟨P, 0, none⟩)) := by rw [hwn]; exact q3
          have l0 : w.heap.size < wn.heap.size := by omega
          have l1 : w.heap.size + 1 < wn.heap.size := by omega
          have l2 : wr.heap.size < wn.heap.size := by omega
          have HVPn := Lib.hid (HVPr.out.below HBN.out (Nat.le_refl _))
          have s1 : IntKind.i64.wrap (selV l PL + x.va) = selV l PL + x.va := IntWalk.i64_in _ (by omega)
          have s2 : IntKind.i64.wrap (selL l PL + x.ln) = selL l PL + x.ln := IntWalk.i64_in _ (by omega)
          have s3 : IntKind.i64.wrap ((kk : Int) + 1) = (kk : Int) + 1 := IntWalk.i64_in _ (by have := ha.1; omega)
          clear q4 hwn hzn hze
          have hlen2 : Hid ((PL.length + 1) * 8 ≤ 140737488355328) := Lib.hid (by have := HPL.out.cnt; have := ha.1; omega)
          have HSLn := Lib.hid (HSL.out.below HBN.out (Nat.le_refl _))
          have hPn : Hid (P < wn.heap.size) := Lib.hid (by omega)
          have HIH : Hid (∀ W v, Sl W 4 encA (.slice (some ⟨b, off, none⟩) l.length cap) l → FillAt W P (.slice (some ⟨b, off, none⟩) l.length cap) m l B1 → Sl W 1 encI v (PL ++ [(kk : Int)]) → offB P v →
              Calls Try.prog 24 #[.pointer (some ⟨P, 0, none⟩), .int .i64 ((kk : Int) + 1), .agg #[.int .i64 (selV l PL + x.va), .int .i64 (selL l PL + x.ln), v]] W (FromP W P (.slice (some ⟨b, off, none⟩) l.length cap) m l (PL ++ [(kk : Int)]) ((kk : Int) + 1) B1)) := Lib.hid (fun W v h1 h2 h3 h4 => by
            have h := IH.out (kk + 1) W P _ v (PL ++ [(kk : Int)]) B1 (by omega) (by omega) h1 HPA.out h2 h3 h4 HOK.out (fun j hj => by
              rcases List.mem_append.1 hj with h | h
              · have := HLT.out j h; omega
              · simp at h; omega) HB1.out
            rw [selV_snoc, selL_snoc, HX.out] at h
            have e : ((kk + 1 : Nat) : Int) = (kk : Int) + 1 := by omega
            rw [e] at h
            exact h)
          have HI2 : Hid (∀ W v, Below wn.heap.size wn W → Sl W 1 encI v (PL ++ [(kk : Int)]) → offB P v →
              Calls Try.prog 24 #[.pointer (some ⟨P, 0, none⟩), .int .i64 ((kk : Int) + 1), .agg #[.int .i64 (selV l PL + x.va), .int .i64 (selL l PL + x.ln), v]] W (FromP W P (.slice (some ⟨b, off, none⟩) l.length cap) m l (PL ++ [(kk : Int)]) ((kk : Int) + 1) B1)) := Lib.hid (fun W v hb h3 h4 =>
            HIH.out W v (HSLn.out.below hb (Nat.le_refl _)) (hfn.out.below hb) h3 h4)
          have HCL := Lib.hid (fun (W : World) (hb : Below wn.heap.size wn W) => cloneI_any W PL _ (HVPn.out.below hb (Nat.le_refl _)) hlenP.out)
          have hbd : Below wn.heap.size wn wn.drew := (Below.refl _ wn).drew
          have hl0n : w.heap.size ≠ P := by omega
          have hl1n : w.heap.size + 1 ≠ P := by omega
          have hl2n : wr.heap.size ≠ P := by omega
          have HPW := Lib.hid hPn.out
          have HFIN : Hid (∀ B2 w6, FillAt w6 P (.slice (some ⟨b, off, none⟩) l.length cap) m l B2 → okL l m B2 → upB l B1 B2 → coverL l m (PL ++ [(kk : Int)]) ((kk : Int) + 1) B2 → Onl P wn w6 →
              ∃ kk' : Nat, kk' ≤ l.length ∧ l.length - kk' ≤ l.length - (kk + 1) ∧ i ≤ kk' ∧ Value.int .i64 ((kk : Int) + 1) = .int .i64 kk' ∧ Aside (FR w2 P (.slice (some ⟨b, off, none⟩) l.length cap) m l PL B i kk' w6)) := Lib.hid (fun B2 w6 h1 h2 h3 h4 h5 =>
            ⟨kk + 1, by omega, by omega, by omega, by go_num, (show FR _ _ _ _ _ _ _ _ _ _ from ⟨(HO.out.below HBN.out).trans h5, B2, h1, h2, HUP.out.trans h3, HCV.out.take h3 h4⟩)⟩)
          have HSS : Hid (∀ W : World, Below wn.heap.size wn W → (W.cell? ⟨w.heap.size, 0, none⟩ = some (.pointer (some ⟨P, 0, none⟩)) ∧ W.cell? ⟨w.heap.size + 1, 0, none⟩ = some (.int .i64 (selV l PL)) ∧ W.cell? ⟨w.heap.size + 1, 1, none⟩ = some (.int .i64 (selL l PL)) ∧ W.cell? ⟨w.heap.size + 1, 2, none⟩ = some (.slice po pn pcap) ∧ W.cell? ⟨wr.heap.size, 1, none⟩ = some (.int .i64 x.ln) ∧ W.cell? ⟨wr.heap.size, 2, none⟩ = some (.int .i64 x.va))) := Lib.hid (fun W hb => ⟨(hb.cell (p := ⟨w.heap.size, 0, none⟩) l0).trans q3, (hb.cell (p := ⟨w.heap.size + 1, 0, none⟩) l1).trans q0, (hb.cell (p := ⟨w.heap.size + 1, 1, none⟩) l1).trans q1, (hb.cell (p := ⟨w.heap.size + 1, 2, none⟩) l1).trans q2, (hb.cell (p := ⟨wr.heap.size, 1, none⟩) l2).trans a1, (hb.cell (p := ⟨wr.heap.size, 2, none⟩) l2).trans a2⟩)
          have HSO : Hid (∀ V W : World, Below wn.heap.size wn V → Onl P V W → (W.cell? ⟨w.heap.size, 0, none⟩ = some (.pointer (some ⟨P, 0, none⟩)) ∧ W.cell? ⟨w.heap.size + 1, 0, none⟩ = some (.int .i64 (selV l PL)) ∧ W.cell? ⟨w.heap.size + 1, 1, none⟩ = some (.int .i64 (selL l PL)) ∧ W.cell? ⟨w.heap.size + 1, 2, none⟩ = some (.slice po pn pcap) ∧ W.cell? ⟨wr.heap.size, 1, none⟩ = some (.int .i64 x.ln) ∧ W.cell? ⟨wr.heap.size, 2, none⟩ = some (.int .i64 x.va))) := Lib.hid (fun V W hb ho => by
            obtain ⟨h1, h2, h3, h4, h5, h6⟩ := HSS.out V hb
            exact ⟨World.grownBy.cell ho h1 (fun h => hl0n (by simpa using h)), World.grownBy.cell ho h2 (fun h => hl1n (by simpa using h)), World.grownBy.cell ho h3 (fun h => hl1n (by simpa using h)), World.grownBy.cell ho h4 (fun h => hl1n (by simpa using h)), World.grownBy.cell ho h5 (fun h => hl2n (by simpa using h)), World.grownBy.cell ho h6 (fun h => hl2n (by simpa using h))⟩)
          have HME : Hid (l.length - (kk + 1) < gk) := Lib.hid (by omega)
          clear l0 l1 l2 q0 q1 q2 q3 a1 a2 hl0n hl1n hl2n
          clear HIH HSLn hPn hfn HVPn HBN hno2 HOK HVPr HWA HKA HX hxl hxv hbw' HSL HBE hfe HKA2 HKC HKF hf1 HO HB1 HUP HCV HK0 HK1 hw0 hw1 hwP hlt' hmax hcap HS4 HU HLT HPL HPP HPA HVA HVP hP IH HB2 HW2 HS2 H0 H1 hl0 hl1 hlP hbv hbl hbl2 hn hi hm ha hik hkk hg
          as_aux_lemma =>
          go_wp2_with fail
          go_region_held3 (fun w' => w'.cell? ⟨w.heap.size, 0, none⟩ = some (.pointer (some ⟨P, 0, none⟩)) ∧ w'.cell? ⟨w.heap.size + 1, 0, none⟩ = some (.int .i64 (selV l PL)) ∧ w'.cell? ⟨w.heap.size + 1, 1, none⟩ = some (.int .i64 (selL l PL)) ∧ w'.cell? ⟨w.heap.size + 1, 2, none⟩ = some (.slice po pn pcap) ∧ w'.cell? ⟨wr.heap.size, 1, none⟩ = some (.int .i64 x.ln) ∧ w'.cell? ⟨wr.heap.size, 2, none⟩ = some (.int .i64 x.va))
            (first | exact HSS.out _ hbd | exact HSO.out _ _ hb5 hO2 | exact HSS.out _ hb5 | exact HSS.out _ (hbn.alloc hbn.size _) | exact HSS.out _ hbn | exact HSS.out _ (hbd.alloc hbd.size _) | fail "keep")
            (first | (go_at_call 44; refine (HCL.out _ hbd).mono ?_; rintro e w' ⟨v', rfl, ho, hb⟩; obtain ⟨ao', L', cp', rfl⟩ := Own.slv encI_len ho; have hway1 := trivial; have hbn := hbd.thru hb; clear hb)
                      | (go_at_call 44; refine (HCL.out _ (hbd.alloc hbd.size _)).mono ?_; rintro e w' ⟨v', rfl, ho, hb⟩; obtain ⟨ao', L', cp', rfl⟩ := Own.slv encI_len ho; have hway2 := trivial; have hbz := hb.size; have hbn := (hbd.alloc hbd.size _).thru hb; have hcc := (hb.cell (p := ⟨wn.heap.size, 0, none⟩) (lt_alloc _ _)).trans (cell_new1 wn.drew _ _ _); clear hb)
                      | (go_at_call 24; refine (HI2.out _ _ hb5 (ho5.sl encI_len) hof).mono ?_; rintro e w6 ⟨B2, rfl, hF2, hB2, hU2, hC2, hO2⟩)
                      | (have hwt := hway1; clear hwt; refine step_int rfl (.tmp 78) (.tmp 80) 36 rfl slI rfl (y := (kk : Int)) rfl (cell_new1 _ _ _ _) (ho.al _) hlen2.out (le_alloc _ hbn.size) ?_; intro v5 w5 ho5 hb5'; obtain ⟨ao5, L5, cp5, rfl⟩ := Own.slv encI_len ho5; have hof := ho5.offB (P := P) HPW.out; have hb5 := (hbn.alloc hbn.size _).trans hb5'; clear hb5')
                      | (have hwt := hway2; clear hwt; refine step_int rfl (.tmp 78) (.tmp 80) 36 rfl slI rfl (y := (kk : Int)) rfl hcc ho hlen2.out hbz ?_; intro v5 w5 ho5 hb5'; obtain ⟨ao5, L5, cp5, rfl⟩ := Own.slv encI_len ho5; have hof := ho5.offB (P := P) (Nat.lt_of_lt_of_le HPW.out (Nat.le_of_lt (lt_alloc _ _))); have hb5 := hbn.trans (hb5'.mono (Nat.le_of_lt (lt_alloc _ _))); clear hb5')
                      | fail "arms")
          all_goals
            have HE := Lib.hid (HFIN.out B2 w6 hF2 hB2 hU2 hC2 ((Onl.of_below hb5).trans hO2))
            clear hF2 hB2 hU2 hC2 hO2 ho ho5
            go_wp2
            go_roundg (l.length - (kk + 1))
            case measure => exact HME.out
            case rel => exact HE.out
      · have hltz : ¬ (kk : Int) < (l.length : Int) := by omega
        obtain rfl : kk = l.length := by omega
        have HD := Lib.hid (HCV.out.done (Int.le_refl _))
        clear hblk
        go_wp2
        go_end0
        exact ⟨B1, rfl, hf1.out, HB1.out, HUP.out, HD.out, (Onl.of_below HB2.out).trans HO.out⟩
end Go.Proofs.Ytpdeodoidlcdoaa

/- slices.IndexFunc and its like, at one type. -/
namespace Go.Proofs.Ytpdeodoidlcdoaa
open Go.RowKit

/-- The first place at which p holds, or -1. -/
def fidxA (p : Adv → Bool) (l : List Adv) : Int := if l.findIdx p = l.length then -1 else (l.findIdx p : Nat)
theorem fidxA_hit {p : Adv → Bool} {l : List Adv} {k : Nat} {x : Adv} (hx : l[k]? = some x) (h : p x = true) (hn : ∀ (j : Nat) y, l[j]? = some y → j < k → p y = false) : fidxA p l = k ∧ l.findIdx p = k := by
  obtain ⟨hk, rfl⟩ := List.getElem?_eq_some_iff.1 hx
  have e : l.findIdx p = k := by
    rw [List.findIdx_eq hk]
    exact ⟨h, fun j hj => hn j _ (List.getElem?_eq_getElem (by omega)) hj⟩
  exact ⟨by rw [fidxA, e, if_neg (by omega)], e⟩
theorem fidxA_none {p : Adv → Bool} {l : List Adv} (hn : ∀ (j : Nat) y, l[j]? = some y → p y = false) : fidxA p l = -1 ∧ l.findIdx p = l.length := by
  have e : l.findIdx p = l.length := by
    rw [List.findIdx_eq_length]
    intro x hx
    obtain ⟨j, hj, rfl⟩ := List.mem_iff_getElem.1 hx
    exact hn j _ (List.getElem?_eq_getElem hj)
  exact ⟨by rw [fidxA, if_pos e], e⟩
theorem fidxA_any (p : Adv → Bool) (l : List Adv) : decide (0 ≤ fidxA p l) = l.any p := by
  unfold fidxA
  by_cases h : l.findIdx p = l.length
  · rw [if_pos h]
    rw [List.findIdx_eq_length] at h
    have : l.any p = false := by rw [List.any_eq_false]; intro x hx; simp [h x hx]
    simp [this]
  · rw [if_neg h]
    have hlt : l.findIdx p < l.length := by have := List.findIdx_le_length (p := p) (xs := l); omega
    have : l.any p = true := List.any_eq_true.2 ⟨_, List.getElem_mem hlt, List.findIdx_getElem⟩
    simp [this]

/-- slices.IndexFunc, of whatever predicate that leaves what was there as it was. -/
theorem idxA (g : Nat) (lb : Array Value) (p : Adv → Bool) (w : World) (l : List Adv) (v : Value) (hl : Sl w 4 encA v l)
    (eg : ∀ args w, (callFunc g args).run Try.prog w = .ok (.enter g args) w)
    (hp : ∀ W x, x ∈ l → Below w.heap.size w W → Calls Try.prog g (#[.agg #[.string x.na, .int .i64 x.ln, .int .i64 x.va, .string x.ri]] ++ lb) W fun e w' => e = .returned (.bool (p x)) ∧ Below W.heap.size W w') :
    Calls Try.prog 53 #[v, .func (.func g) #[] lb] w fun e w' => e = .returned (.int .i64 (fidxA p l)) ∧ Below w.heap.size w w' := by
  obtain ⟨ao, cap, rfl, hcap, hmax, hnil, hel⟩ := hl
  unfold maxLen at hmax
  go_enter Try.func53, Try.ntmps53
  go_wp2
  go_loopg [5, 8] l.length (fun gg _ s8 wr => ∃ kk : Nat, kk ≤ l.length ∧ l.length - kk ≤ gg ∧ s8 = .int .i64 kk ∧ Aside (Below w.heap.size w wr) ∧ Aside (∀ j x, l[j]? = some x → j < kk → p x = false))
  case atStart => exact ⟨0, Nat.zero_le _, by omega, rfl, Below.refl _ w, fun j x _ hj => absurd hj (Nat.not_lt_zero _)⟩
  case round =>
    obtain ⟨kk, hkk, hg, rfl, BW, A⟩ := hrel
    by_cases hlt : kk < l.length
    · have hltz : (kk : Int) < (l.length : Int) := by omega
      obtain ⟨x, hx⟩ : ∃ x, l[kk]? = some x := ⟨l[kk], by simp [hlt]⟩
      obtain ⟨b, off, rfl, hc⟩ := hel kk x hx
      have hlt0 := World.block_lt_of_cell? w _ (hc 0 _ rfl)
      have c0 : wr.cell? ⟨b, off + kk * 4, none⟩ = some (.string x.na) := by have h := (BW.out.cell (p := ⟨b, off + kk * 4 + 0, none⟩) hlt0).trans (hc 0 _ rfl); simpa using h
      have c1 := (BW.out.cell (p := ⟨b, off + kk * 4 + 1, none⟩) hlt0).trans (hc 1 _ rfl)
      have c2 := (BW.out.cell (p := ⟨b, off + kk * 4 + 2, none⟩) hlt0).trans (hc 2 _ rfl)
      have c3 := (BW.out.cell (p := ⟨b, off + kk * 4 + 3, none⟩) hlt0).trans (hc 3 _ rfl)
      have hcall := hp wr x (List.mem_of_getElem? hx) BW.out
      have HX : Hid (l[kk]? = some x) := hx
      clear hx hc hel hp
      cases hq : p x with
      | true =>
        rw [hq] at hcall
        have hv := Lib.hid (fidxA_hit HX.out hq A.out).1
        go_wp2_with (go_at_fn g; refine hcall.mono ?_; rintro e w' ⟨rfl, hb'⟩)
        go_ret
        exact ⟨ret_int hv.out.symm, BW.out.thru hb'⟩
      | false =>
        rw [hq] at hcall
        go_wp2_with (go_at_fn g; refine hcall.mono ?_; rintro e w' ⟨rfl, hb'⟩)
        go_roundg (l.length - (kk + 1))
        case measure => omega
        case rel =>
          refine ⟨kk + 1, by omega, by omega, by go_num, BW.out.thru hb', (show Aside _ from fun j y hy hj => ?_)⟩
          by_cases e : j = kk
          · subst e
            have := HX.out.symm.trans hy
            simp at this; subst this; exact hq
          · exact A.out j y hy (by omega)
    · have hltz : ¬ (kk : Int) < (l.length : Int) := by omega
      have hv := Lib.hid (fidxA_none (p := p) (l := l) fun j y hy => A.out j y hy (by have := (List.getElem?_eq_some_iff.1 hy).1; omega)).1
      clear hel
      go_wp2
      go_ret
      exact ⟨ret_int hv.out.symm, BW.out⟩

theorem anyA (g : Nat) (lb : Array Value) (p : Adv → Bool) (w : World) (l : List Adv) (v : Value) (hl : Sl w 4 encA v l)
    (eg : ∀ args w, (callFunc g args).run Try.prog w = .ok (.enter g args) w)
    (hp : ∀ W x, x ∈ l → Below w.heap.size w W → Calls Try.prog g (#[.agg #[.string x.na, .int .i64 x.ln, .int .i64 x.va, .string x.ri]] ++ lb) W fun e w' => e = .returned (.bool (p x)) ∧ Below W.heap.size W w') :
    Calls Try.prog 41 #[v, .func (.func g) #[] lb] w fun e w' => e = .returned (.bool (l.any p)) ∧ Below w.heap.size w w' := by
  have hc := idxA g lb p w l v hl eg hp
  have ha := Lib.hid (fidxA_any p l)
  clear hp hl
  go_enter Try.func41, Try.ntmps41
  go_wp2_with (go_at_call 53; refine hc.mono ?_; rintro e w' ⟨rfl, hb'⟩)
  go_ret
  exact ⟨ret_bool ha.out, hb'⟩
end Go.Proofs.Ytpdeodoidlcdoaa

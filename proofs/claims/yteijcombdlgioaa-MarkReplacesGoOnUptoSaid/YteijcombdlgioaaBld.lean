/- The builder of a timeline: programme, ads, done. -/
import Derived.Test.YteijcombdlgioaaAdv
import Derived.OneCell
namespace Go.Proofs.Yteijcombdlgioaa
open Go.RowKit

theorem infoP : (Try.prog.info? 34).map (fun i => (i.zero, i.size, i.bytes)) = some (some (.agg #[.string ⟨#[]⟩, .int .i64 0, .int .i64 0]), 3, 32) := by kernel_rfl
theorem slP : SlT Try.prog 22 34 3 32 := by
  obtain ⟨i0, hi, hz0, hz1, hz2⟩ := info_parts infoP
  exact ⟨i0, _, Try.underlying22, hi, hz0, hz1, hz2, rfl, by decide, by decide⟩

theorem flatMap_set {α : Type} {enc : α → List Value} {k : Nat} (hk : ∀ x, (enc x).length = k) : ∀ (l : List α) (i j : Nat) (x y : α) (u : Value), l[i]? = some x → j < k → enc y = (enc x).set j u → (l.set i y).flatMap enc = (l.flatMap enc).set (i * k + j) u
  | [], i, j, x, y, u, h, _, _ => by simp at h
  | z :: r, 0, j, x, y, u, h, hj, hy => by
    simp at h; subst h
    simp only [List.set_cons_zero, List.flatMap_cons, Nat.zero_mul, Nat.zero_add]
    rw [List.set_append_left _ _ (by rw [hk]; exact hj), hy]
  | z :: r, i + 1, j, x, y, u, h, hj, hy => by
    simp only [List.set_cons_succ, List.flatMap_cons]
    have e : (i + 1) * k + j = k + (i * k + j) := by rw [Nat.succ_mul]; omega
    rw [e, List.set_append_right _ _ (by rw [hk]; omega), hk, Nat.add_sub_cancel_left, flatMap_set hk r i j x y u (by simpa using h) hj hy]

/-- One cell of an element written, in what the call owns. -/
theorem Own.store {α : Type} {w : World} {base : Nat} {E : TypeId} {k : Nat} {enc : α → List Value} {l : List α} {g cap n : Nat} (hk : ∀ x, (enc x).length = k) (h : Own w base E k enc (.slice (some ⟨g, 0, none⟩) n cap) l) (hn : n = l.length) {i j : Nat} {x y : α} {u : Value}
    (hx : l[i]? = some x) (hj : j < k) (hy : enc y = (enc x).set j u) : Own (w.setCell ⟨g, i * k + j, none⟩ u) base E k enc (.slice (some ⟨g, 0, none⟩) n cap) (l.set i y) := by
  subst hn
  have := (World.ownsRow.stored h (i * k + j) u).1
  unfold Own
  rw [List.length_set, flatMap_set hk l i j x y u hx hj hy]
  exact this

/-- The block of what the call owns, and its cells. -/
theorem Own.getk {α : Type} {w : World} {base : Nat} {E : TypeId} {k : Nat} {enc : α → List Value} {v : Value} {l : List α} (hk : ∀ x, (enc x).length = k) (h : Own w base E k enc v l) (hne : l ≠ []) :
    ∃ g cap, v = .slice (some ⟨g, 0, none⟩) l.length cap ∧ base ≤ g ∧ g < w.heap.size ∧ l.length ≤ cap ∧ cap ≤ maxLen ∧ (∀ i x j u, l[i]? = some x → (enc x)[j]? = some u → w.cell? ⟨g, i * k + j, none⟩ = some u) ∧ ∀ j, w.frozen? ⟨g, j, none⟩ = false := by
  have h0 := h
  obtain ⟨h1, h2⟩ := h
  rcases h2 with ⟨_, h2⟩ | ⟨g, cap, cur, rfl, hg, hh, hn, hm, hs, ht⟩
  · exact absurd (List.length_eq_zero_iff.1 h2) hne
  · refine ⟨g, cap, rfl, hg, (World.ownsRow.lt h0 g rfl).2, hn, hm, fun i x j u hx hu => ?_, fun j => World.ownsRow.frozenAt h0 j⟩
    have hi : i < l.length := (List.getElem?_eq_some_iff.1 hx).1
    have hj : j < k := by
      have := (List.getElem?_eq_some_iff.1 hu).1
      rwa [hk] at this
    have hle : i * k + k ≤ l.length * k := by
      have := Nat.mul_le_mul_right k (Nat.succ_le_of_lt hi)
      rwa [Nat.succ_mul] at this
    have h3 := World.ownsRow.cellAt h0 (i * k + j) (by omega)
    rw [h3, flatMap_get hk l i j x hx hj]
    exact hu

/-- Block B is a builder whose timeline reads as l. -/
def Bld (w : World) (B : Nat) (l : List Prt) : Prop := ∃ v, w.heap[B]? = some (.cells #[v] 82 (0, 0)) ∧ Own w (B + 1) 34 3 encP v l
/-- Blocks that are no builder's are kept. -/
def KeepB (B : Nat) (w w' : World) : Prop := ∀ (b : Nat) (c : Array Value) (T : TypeId) (fr : Nat × Nat), w.heap[b]? = some (Obj.cells c T fr) → T ≠ 34 → b ≠ B → w'.heap[b]? = some (Obj.cells c T fr)
theorem KeepB.refl (B : Nat) (w : World) : KeepB B w w := fun _ _ _ _ h _ _ => h
theorem KeepB.trans {B : Nat} {a b c : World} (h : KeepB B a b) (k : KeepB B b c) : KeepB B a c := fun i d T fr h1 h2 h3 => k i d T fr (h i d T fr h1 h2 h3) h2 h3
theorem KeepB.of_keepT {B : Nat} {w w' : World} (h : KeepT 34 w w') : KeepB B w w' := fun i d T fr h1 h2 _ => h i d T fr h1 h2
theorem KeepB.alloc {B : Nat} {a w : World} (h : KeepB B a w) (o : Obj) : KeepB B a (w.alloc o) := h.trans (KeepB.of_keepT ((KeepT.refl _ _).alloc o))
theorem KeepB.setB {B : Nat} {a w : World} (h : KeepB B a w) (j : Nat) (u : Value) : KeepB B a (w.setCell ⟨B, j, none⟩ u) := fun i d T fr h1 h2 h3 => (Below.heap_setCell w ⟨B, j, none⟩ u i h3).trans (h i d T fr h1 h2 h3)
theorem KeepB.setOwn {B : Nat} {a w : World} {g j : Nat} {c : Array Value} {fr : Nat × Nat} (h : KeepB B a w) (hg : w.heap[g]? = some (Obj.cells c 34 fr)) (u : Value) : KeepB B a (w.setCell ⟨g, j, none⟩ u) := fun i d T fr h1 h2 h3 => by
  have h4 := h i d T fr h1 h2 h3
  rw [Below.heap_setCell w ⟨g, j, none⟩ u i (fun e => by
    have e : i = g := e
    subst e
    rw [hg] at h4
    simp only [Option.some.injEq, Obj.cells.injEq] at h4
    exact h2 h4.2.1.symm)]
  exact h4
theorem Own.blk {α : Type} {w : World} {base : Nat} {E : TypeId} {k : Nat} {enc : α → List Value} {l : List α} {g n cap : Nat} (h : Own w base E k enc (.slice (some ⟨g, 0, none⟩) n cap) l) : ∃ cur, w.heap[g]? = some (Obj.cells cur E (0, 0)) := by
  obtain ⟨_, h2⟩ := h
  rcases h2 with ⟨h2, _⟩ | ⟨g', cap', cur, hv, hg, hh, _⟩
  · cases h2
  · simp only [Value.slice.injEq, Option.some.injEq, Addr.mk.injEq, and_true] at hv
    obtain ⟨rfl, _⟩ := hv
    exact ⟨cur, hh⟩
/-- What a call on a builder leaves. -/
def BldPost (w : World) (B : Nat) (l : List Prt) (r : Ending) : Ending → World → Prop := fun e w' => e = r ∧ Bld w' B l ∧ Below B w w' ∧ KeepB B w w'
theorem BldPost.mk {w w' : World} {B : Nat} {l : List Prt} {r e : Ending} (he : e = r) (h : Bld w' B l) (hb : Below B w w') (hk : KeepB B w w') : BldPost w B l r e w' := ⟨he, h, hb, hk⟩

theorem Bld.drewN {w : World} {B : Nat} {l : List Prt} (h : Bld w B l) (n : Nat) : Bld (w.drewN n) B l := h

set_option maxRecDepth 100000 in
set_option maxHeartbeats 4000000 in
theorem bprog_any (w : World) (B : Nat) (l : List Prt) (a b : Int) (h : Bld w B l) (hB : B < w.heap.size) (hp : ∀ p, p ∈ l → PB p) (hlen : l.length ≤ 1000000000000) (ha : 0 ≤ a) (ha1 : a ≤ 1000000000000000) (hb0 : 0 ≤ b) (hb : b ≤ 1000000000000000) :
    Calls Try.prog 49 #[.pointer (some ⟨B, 0, none⟩), .int .i64 a, .int .i64 b] w (BldPost w B (prg l a b) (.returned (.tuple #[]))) := by
  have HP : Hid (prg l a b = if b ≤ a then l else if mrg l a = true then l.set (l.length - 1) ⟨(l.getD (l.length - 1) default).ad, (l.getD (l.length - 1) default).fr, (l.getD (l.length - 1) default).ln + (b - a)⟩ else l ++ [⟨emp, a, b - a⟩]) := Lib.hid rfl
  have HBD := Lib.hid h
  obtain ⟨v, hblk, hown⟩ := h
  have hcB := cell_of_one hblk
  have hfB := free_of_one hblk
  have HOWN := Lib.hid hown
  have HBLK := Lib.hid hblk
  have HPB := Lib.hid hp
  clear hblk hown hp
  by_cases hab : b ≤ a
  · have hv : Hid (prg l a b = l) := Lib.hid (by rw [HP.out, if_pos hab])
    go_enter Try.func49, Try.ntmps49
    go_wp2
    go_end0
    exact BldPost.mk rfl (by rw [hv.out]; exact HBD.out) (Below.refl _ _) (KeepB.refl _ _)
  have hP2 : Hid (prg l a b = if mrg l a = true then l.set (l.length - 1) ⟨(l.getD (l.length - 1) default).ad, (l.getD (l.length - 1) default).fr, (l.getD (l.length - 1) default).ln + (b - a)⟩ else l ++ [⟨emp, a, b - a⟩]) := Lib.hid (by rw [HP.out, if_neg hab])
  have hab' : ¬ (a ≥ b) := by omega
  clear HP
  obtain ⟨ao, cap, rfl, hcap, hmax, hnil, hel⟩ := HOWN.out.sl encP_len
  unfold maxLen at hmax
  have HEL := Lib.hid hel
  clear hel
  go_enter Try.func49, Try.ntmps49
  go_upto_region 2 with (fail)
  go_cut [6, 49] (fun s6 s49 w2 => s6 = .int .i64 ((l.length : Int) - 1) ∧ s49 = .bool (mrg l a) ∧ ∃ n, w2 = w.drewN n)
  case first =>
    by_cases hne : l.length = 0
    · have hm : Hid (mrg l a = false) := Lib.hid (by
        obtain rfl : l = [] := List.length_eq_zero_iff.1 hne
        rfl)
      have hz : decide ((0 : Int) ≤ (l.length : Int) - 1) = false := by simp; omega
      have hz2 : decide (1 ≤ (l.length : Int)) = false := by simp; omega
      have hz3 : ¬ (0 : Int) ≤ (l.length : Int) - 1 := by omega
      clear hne
      go_quiet (fail)
      go_wp2
      go_meet
      exact ⟨rfl, by rw [hm.out], _, rfl⟩
    · obtain ⟨p, hx⟩ : ∃ x, l[l.length - 1]? = some x := ⟨l[l.length - 1]'(by omega), by simp⟩
      obtain ⟨g, off, hao, hc⟩ := HEL.out _ p hx
      subst hao
      have c0 : w.cell? ⟨g, off + (l.length - 1) * 3, none⟩ = some (.string p.ad) := hc 0 _ rfl
      have c1 := hc 1 _ rfl
      have c2 := hc 2 _ rfl
      obtain ⟨hp0, hp1, hp2, _⟩ := HPB.out p (List.mem_of_getElem? hx)
      have hm : Hid (mrg l a = (p.ad.toList.isEmpty && (p.fr + p.ln == a))) := Lib.hid (by unfold mrg; rw [hx]; rfl)
      have hz : decide ((0 : Int) ≤ (l.length : Int) - 1) = true := by simp; omega
      have hz2 : decide (1 ≤ (l.length : Int)) = true := by simp; omega
      have hz3 : (0 : Int) ≤ (l.length : Int) - 1 := by omega
      have hz4 : (l.length : Int) - 1 < (l.length : Int) := by omega
      have hz5 : (1 : Int) ≤ (l.length : Int) := by omega
      have hz6 : 0 < l.length := by omega
      have ez : ((l.length : Int) - 1).toNat = l.length - 1 := by omega
      have hwr : IntKind.i64.wrap (p.fr + p.ln) = p.fr + p.ln := IntWalk.i64_in _ (by omega)
      clear hx hc hne
      cases e5 : p.ad.toList.isEmpty
      · have e6 : ¬ p.ad.toList = [] := by simpa using e5
        go_quiet (fail)
        go_wp2
        go_meet
        exact ⟨rfl, by rw [hm.out, e5]; rfl, _, rfl⟩
      · have e6 : p.ad.toList = [] := by simpa using e5
        go_quiet (fail)
        go_wp2
        go_meet
        exact ⟨rfl, by rw [hm.out, e5]; rfl, _, rfl⟩
  obtain ⟨rfl, rfl, nq, rfl⟩ := hcut
  obtain ⟨w2, hw2⟩ : ∃ w2, w2 = w.drewN nq := ⟨_, rfl⟩
  have HB2 : Hid (Below B w w2) := Lib.hid (by rw [hw2]; exact below_drewN (Below.refl _ _) _)
  have HK2 : Hid (KeepB B w w2) := Lib.hid (by rw [hw2]; exact KeepB.refl _ _)
  have HO2 : Hid (Own w2 (B + 1) 34 3 encP (.slice ao l.length cap) l) := Lib.hid (by rw [hw2]; exact HOWN.out.drewN _)
  have hblk2 : w2.heap[B]? = some (.cells #[.slice ao l.length cap] 82 (0, 0)) := by rw [hw2]; exact HBLK.out
  have hcB2 := cell_of_one hblk2
  have hfB2 := free_of_one hblk2
  have hB2 : B < w2.heap.size := by rw [hw2]; exact hB
  have HBLK2 := Lib.hid hblk2
  rw [← hw2]
  clear hw2 hcB hfB HOWN HBLK HBD HEL hblk2 hB
  cases hM : mrg l a
  case true =>
    obtain ⟨p, hx, hp1, hp2⟩ := mrg_some hM
    have hne : l ≠ [] := fun e => by rw [e] at hx; simp at hx
    obtain ⟨g, cg, hv, hg1, hg2, hg3, hg4, hgc, hgf⟩ := Own.getk encP_len HO2.out hne
    simp only [Value.slice.injEq, true_and] at hv
    obtain ⟨rfl, rfl⟩ := hv
    have hgd : Hid (l.getD (l.length - 1) default = p) := Lib.hid (by rw [List.getD_eq_getElem?_getD, hx]; rfl)
    have hv : Hid (prg l a b = l.set (l.length - 1) ⟨p.ad, p.fr, p.ln + (b - a)⟩) := Lib.hid (by rw [hP2.out, hM, if_pos rfl, hgd.out])
    have hl0 : 0 < l.length := List.length_pos_iff.2 hne
    have c2 := hgc _ p 2 _ hx rfl
    have f2 := hgf ((l.length - 1) * 3 + 2)
    obtain ⟨hq0, hq1, hq2, _⟩ := HPB.out p (List.mem_of_getElem? hx)
    have hz3 : (0 : Int) ≤ (l.length : Int) - 1 := by omega
    have hz4 : (l.length : Int) - 1 < (l.length : Int) := by omega
    have hz5 : (1 : Int) ≤ (l.length : Int) := by omega
    have ez : ((l.length : Int) - 1).toNat = l.length - 1 := by omega
    have HST := Lib.hid (Own.store (i := l.length - 1) (j := 2) (x := p) (y := ⟨p.ad, p.fr, p.ln + (b - a)⟩) (u := .int .i64 (p.ln + (b - a))) encP_len HO2.out rfl hx (by decide) rfl)
    have HBg := Lib.hid ((Below.heap_setCell w2 ⟨g, (l.length - 1) * 3 + 2, none⟩ (.int .i64 (p.ln + (b - a))) B (by show B ≠ g; omega)).trans HBLK2.out)
    have HX := Lib.hid hx
    clear hx hne hgc hgf hM hp1 hp2
    go_wp2
    go_end0
    obtain ⟨cur, hcur⟩ := Own.blk HO2.out
    exact BldPost.mk rfl (by rw [hv.out]; exact ⟨_, HBg.out, HST.out⟩) (HB2.out.setCell (by show B ≤ g; omega) _) (HK2.out.setOwn hcur _)
  case false =>
    have hv : Hid (prg l a b = l ++ [⟨emp, a, b - a⟩]) := Lib.hid (by rw [hP2.out, hM]; rfl)
    have hln := Lib.hid hlen
    have hne := Lib.hid hnil
    clear hM hlen hnil hP2
    go_wp2_with (at_builtin; go_loud (refine wpList_pushK rfl _ _ 22 rfl slP rfl rfl ⟨emp, a, b - a⟩ rfl rfl rfl HO2.out rfl (by have := hln.out; omega) (by omega) ?_); intro v5 w5 ho5 hb5 hk5; rw [← hv.out] at ho5; obtain ⟨ao5, cap5, rfl, _, _, _, _⟩ := Own.sl ho5 encP_len; have HO5 := Lib.hid ho5; have HB5 := Lib.hid hb5; have HK5 := Lib.hid hk5; have hblk5 := hk5 _ _ _ _ HBLK2.out (by decide); have hc5 := cell_of_one hblk5; have hf5 := free_of_one hblk5; have HBLK5 := Lib.hid hblk5; clear ho5 hb5 hk5 hblk5)
    go_end0
    exact BldPost.mk rfl ⟨_, one_setCell HBLK5.out, ownsRow_setCell_below HO5.out (by show B < B + 1; omega) _⟩ ((HB2.out.trans (HB5.out.mono (by omega))).setCell (Nat.le_refl _) _) ((HK2.out.trans (KeepB.of_keepT HK5.out)).setB _ _)
end Go.Proofs.Yteijcombdlgioaa

/- TopPlaylistsNeverGoBack: the walk. -/
import Derived.Test.YtehbmnkbmgnkfaaGreatDoorB30
import Derived.Test.YtehbmnkbmgnkfaaGreatDoorB31
import Derived.Test.YtehbmnkbmgnkfaaGreatDoorB33
import Derived.Test.YtehbmnkbmgnkfaaGreatDoorB26
import Derived.Test.YtehbmnkbmgnkfaaGreatDoorB34
namespace Go.Proofs.YtehbmnkbmgnkfaaGreatDoor
open Go.RowKit Go.Lib Go.Shelf

abbrev aggR (x : Crl) : Value := .agg #[.string x.pr, .int .i64 x.li, .int .i64 x.st, .int .i64 x.go]
/-- The state while lists grow. -/
structure TopW (w W : World) (D cb rb : Nat) (de ro : Int) (r : Crl) (lv rv : Value) (q : List LsV) (RR : List Rel) : Prop where
  ls : LsQ W w.heap.size D lv rv q RR
  dk : W.heap[D]? = some (.cells #[.slice (some ⟨cb, 0, none⟩) 1 1, .slice (some ⟨rb, 0, none⟩) 1 1, rv, .slice none 0 0] 41 (0, 0))
  ck : W.heap[cb]? = some (.cells #[.string nEdge, .string ⟨#[]⟩, .int .i64 de, .int .i64 ro] 35 (0, 0))
  rk : W.heap[rb]? = some (.cells #[.string r.pr, .int .i64 r.li, .int .i64 r.st, .int .i64 r.go] 27 (0, 0))
  be : Below w.heap.size w W
  hD : w.heap.size ≤ D
section
variable {w W W2 : World} {D cb rb : Nat} {de ro : Int} {r : Crl} {lv rv lv2 rv2 : Value} {q : List LsV} {RR : List Rel}
theorem TopW.below (h : TopW w W D cb rb de ro r lv rv q RR) (hb : Below W.heap.size W W2) : TopW w W2 D cb rb de ro r lv rv q RR :=
  ⟨h.ls.below hb, (hb.block _ (lt_of_blk h.dk)).trans h.dk, (hb.block _ (lt_of_blk h.ck)).trans h.ck, (hb.block _ (lt_of_blk h.rk)).trans h.rk, h.be.thru hb, h.hD⟩
theorem TopW.pushR (h : TopW w W D cb rb de ro r lv rv q RR) (hb : Below w.heap.size W W2) (hk : KeepB W W2 rv rv2) {y : Rel} (ho : Own W2 w.heap.size 43 4 encL rv2 (RR ++ [y])) : TopW w (W2.setCell ⟨D, 2, none⟩ rv2) D cb rb de ro r lv rv2 q (RR ++ [y]) := by
  have hs : W.heap.size ≤ W2.heap.size := hb.size
  have hd := blk_kb h.dk h.ls.rr (by decide) hk
  have hc := blk_kb h.ck h.ls.rr (by decide) hk
  have hr := blk_kb h.rk h.ls.rr (by decide) hk
  have n1 : cb ≠ D := fun e => by rw [e, hd] at hc; cases hc
  have n2 : rb ≠ D := fun e => by rw [e, hd] at hr; cases hr
  exact ⟨(h.ls.pushR hk hs ho).setD hd 2 rv2, heap_setCell_same W2 D 2 _ _ rv2 hd, (Below.heap_setCell W2 ⟨D, 2, none⟩ rv2 cb n1).trans hc, (Below.heap_setCell W2 ⟨D, 2, none⟩ rv2 rb n2).trans hr, (h.be.trans hb).setCell (p := ⟨D, 2, none⟩) h.hD rv2, h.hD⟩
theorem TopW.pushL (h : TopW w W D cb rb de ro r lv rv q RR) (hb : Below w.heap.size W W2) (hk : KeepB W W2 lv lv2) {y : LsV} (ho : Own W2 w.heap.size 24 5 encLs lv2 (q ++ [y]))
    (hy : ∀ W' : World, (∀ b, b ≠ D → offB b lv → offB b rv → b < W.heap.size → W'.heap[b]? = W.heap[b]?) → EnS W' y.2 y.1.en) : TopW w W2 D cb rb de ro r lv2 rv (q ++ [y]) RR :=
  ⟨h.ls.pushL hk hb.size ho hy, blk_kb h.dk h.ls.ow (by decide) hk, blk_kb h.ck h.ls.ow (by decide) hk, blk_kb h.rk h.ls.ow (by decide) hk, h.be.trans hb, h.hD⟩
end
/-- What is known of the lists and the releases, i of which are told. -/
structure TopQ (n i : Nat) (pace : Int) (q : List LsV) (RR : List Rel) : Prop where
  ql : q.length = min (i + 1) (n + 1)
  rl : RR.length = i
  at_ : ∀ (j : Nat) (x : Rel), RR[j]? = some x → x.ke = kLive ∧ x.ti = j * pace ∧ x.go = false
  ck : ∀ (j : Nat) (p : LsV), q[j]? = some p → j < i → chkL p.1 = 0
  wf : ∀ p, p ∈ q → WfLs p.1
  fo : ∀ (a b : Nat) (x y : LsV), a ≤ b → q[a]? = some x → q[b]? = some y → Fol x.1 y.1
theorem TopQ.rel {n i : Nat} {pace : Int} {q : List LsV} {RR : List Rel} (h : TopQ n i pace q RR) (hi : i ≤ n) {p : LsV} (hp : q[i]? = some p) (hc : chkL p.1 = 0) (s : Int) {RR2 : List Rel} (hR : RR2 = RR ++ [⟨kLive, i * pace, s, false⟩]) :
    RR2.length = i + 1 ∧ (∀ (j : Nat) (x : Rel), RR2[j]? = some x → x.ke = kLive ∧ x.ti = j * pace ∧ x.go = false) ∧ ∀ (j : Nat) (x : LsV), q[j]? = some x → j < i + 1 → chkL x.1 = 0 := by
  subst hR
  refine ⟨by simp [h.rl], fun j x hx => ?_, fun j x hx hj => ?_⟩
  · by_cases e : j < RR.length
    · rw [List.getElem?_append_left e] at hx; exact h.at_ j x hx
    · rw [List.getElem?_append_right (by omega)] at hx
      have ej : j = i := by
        have := (List.getElem?_eq_some_iff.1 hx).1
        have hr := h.rl
        simp at this; omega
      subst ej
      rw [h.rl] at hx
      simp at hx
      subst hx
      exact ⟨rfl, rfl, rfl⟩
  · by_cases e : j = i
    · subst e; rw [hp] at hx; cases hx; exact hc
    · exact h.ck j x hx (by omega)
theorem fo_push {q : List LsV} {p y : LsV} {i : Nat} (h : ∀ (a b : Nat) (x y : LsV), a ≤ b → q[a]? = some x → q[b]? = some y → Fol x.1 y.1) (hl : q.length = i + 1) (hp : q[i]? = some p) (hy : Fol p.1 y.1) :
    ∀ (a b : Nat) (u v : LsV), a ≤ b → (q ++ [y])[a]? = some u → (q ++ [y])[b]? = some v → Fol u.1 v.1 := by
  intro a b u v hab hu hv
  by_cases eb : b < q.length
  · rw [List.getElem?_append_left (by omega)] at hu
    rw [List.getElem?_append_left eb] at hv
    exact h a b u v hab hu hv
  · have hvl := (List.getElem?_eq_some_iff.1 hv).1
    have eb2 : b = q.length := by simp at hvl; omega
    subst eb2
    rw [List.getElem?_append_right (Nat.le_refl _)] at hv
    simp at hv
    subst hv
    by_cases ea : a < q.length
    · rw [List.getElem?_append_left ea] at hu
      exact (h a i u p (by omega) hu hp).trans hy
    · have ea2 : a = q.length := by omega
      subst ea2
      rw [List.getElem?_append_right (Nat.le_refl _)] at hu
      simp at hu
      subst hu
      exact Fol.refl _
theorem str_ne {x y : ByteArray} (h : ¬ x = y) : (x.toList == y.data.toList) = false := by
  rw [beq_eq_false_iff_ne, ByteArray.toList_eq]
  exact fun e => h (bytes_ext e)
theorem str_neL {x : ByteArray} (h : ¬ x = pLive) : (x.toList == [47, 108, 105, 118, 101]) = false := str_ne (y := pLive) h
theorem TopQ.next {n i : Nat} {pace : Int} {q : List LsV} {RR RR2 : List Rel} (h : TopQ n i pace q RR) (hi : i ≤ n) {p : LsV} (hp : q[i]? = some p) (hc : chkL p.1 = 0) (s : Int) (hR : RR2 = RR ++ [⟨kLive, i * pace, s, false⟩]) (hn : i = n) : TopQ n (i + 1) pace q RR2 := by
  obtain ⟨h1, h2, h3⟩ := h.rel hi hp hc s hR
  exact ⟨by rw [h.ql]; omega, h1, h2, h3, h.wf, h.fo⟩
theorem TopQ.push {n i : Nat} {pace : Int} {q : List LsV} {RR RR2 : List Rel} (h : TopQ n i pace q RR) (hi : i < n) {p y : LsV} (hp : q[i]? = some p) (hc : chkL p.1 = 0) (s : Int) (hR : RR2 = RR ++ [⟨kLive, i * pace, s, false⟩]) (hy : Fol p.1 y.1) (hw : WfLs y.1) : TopQ n (i + 1) pace (q ++ [y]) RR2 := by
  obtain ⟨h1, h2, h3⟩ := h.rel (by omega) hp hc s hR
  have hl := h.ql
  refine ⟨by simp; omega, h1, h2, fun j x hx hj => ?_, fun x hx => ?_, fo_push h.fo (by omega) hp hy⟩
  · rw [List.getElem?_append_left (by omega)] at hx
    exact h3 j x hx hj
  · rcases List.mem_append.1 hx with hx | hx
    · exact h.wf x hx
    · rw [List.mem_singleton] at hx; rw [hx]; exact hw

set_option maxRecDepth 100000 in
set_option maxHeartbeats 16000000 in
theorem neverBack_any (w : World) (l : Lst) (v : Value) (S : List Stg) (vs : Value) (r : Crl) (de ro pace : Int) (L : List Int) (vw : Value) (hl : EnS w v l.en) (hwl : WfLs l) (hs : StS w vs S) (hws : ∀ s, s ∈ S → WfE s.x) (hr : r.pr.size ≤ 1048576) (hL : Sl w 1 encI vw L)
    (hSn : S.length ≤ 1048576) (hLn : L.length ≤ 1048576) (ht : TabW w) :
    Calls Tryz.prog 3 #[agLs l v, vs, aggR r, .int .i64 de, .int .i64 ro, .int .i64 pace, vw] w fun e w' => e = .returned (.bool true) ∧ Below w.heap.size w w' := by
  have HTB := Lib.hid ht
  have HLS := Lib.hid hL
  have HWS := Lib.hid hws
  have HWL := Lib.hid hwl
  have HEL := Lib.hid hl
  obtain ⟨w3, hw3⟩ : ∃ w3, w3 = ((w.alloc (litL l v)).alloc (.cells #[.string r.pr, .int .i64 r.li, .int .i64 r.st, .int .i64 r.go] 27)).alloc (litL l v) := ⟨_, rfl⟩
  have HB3 : Hid (Below w.heap.size w w3) := Lib.hid (by rw [hw3]; exact (((Below.refl _ w).alloc (Nat.le_refl _) _).alloc (by simp) _).alloc (by simp; omega) _)
  have hk0 : BkLs w3 w.heap.size l v := by
    have h1 := BkLs.new w l v
    have h2 := h1.below ((Below.refl _ _).alloc (Nat.le_refl _) (.cells #[.string r.pr, .int .i64 r.li, .int .i64 r.st, .int .i64 r.go] 27)) h1.lt
    rw [hw3]
    exact h2.below ((Below.refl _ _).alloc (Nat.le_refl _) _) h2.lt
  have hk1 : w3.heap[w.heap.size + 1]? = some (.cells #[.string r.pr, .int .i64 r.li, .int .i64 r.st, .int .i64 r.go] 27 (0, 0)) := by
    have e : w.heap.size + 1 = (w.alloc (litL l v)).heap.size := by simp
    have h1 := block_new (w.alloc (litL l v)) (.cells #[.string r.pr, .int .i64 r.li, .int .i64 r.st, .int .i64 r.go] 27)
    rw [← e] at h1
    rw [hw3]
    exact (((Below.refl _ _).alloc (Nat.le_refl _) _).block _ (lt_of_blk h1)).trans h1
  have HOW : Hid (Own w3 w.heap.size 24 5 encLs (.slice (some ⟨w.heap.size + 2, 0, none⟩) 1 1) [((l, v) : LsV)]) := Lib.hid (by
    have e : w.heap.size + 2 = ((w.alloc (litL l v)).alloc (.cells #[.string r.pr, .int .i64 r.li, .int .i64 r.st, .int .i64 r.go] 27)).heap.size := by simp
    rw [hw3, e]
    exact World.ownsRow_lit _ #[.int .i64 l.ta, .int .i64 l.fi, .int .i64 l.br, v, .bool l.ed] 1 (by simp; omega) (by simp [maxLen]) rfl)
  have HTX := Lib.hid (TextL_any w3 l v (hl.below HB3.out) hwl (tab_below ht HB3.out))
  have HCM := Lib.hid (fun W => comes_any W)
  obtain ⟨ao, cap, rfl, -, -, -, -⟩ := hl.op
  obtain ⟨so, sc, rfl, hsc, hsm, hse⟩ := hs.op
  have HSE := Lib.hid hse
  obtain ⟨wo, wc0, rfl, hwc, hwm, -, hwe⟩ := hL
  have HWE := Lib.hid hwe
  unfold maxLen at hsm hwm
  have HK0 := Lib.hid hk0
  have HK1 := Lib.hid hk1
  have HW3 := Lib.hid hw3
  obtain ⟨b0, b1, b2, b3, b4⟩ := hk0.cells
  clear hw3 hk0 hk1 hl hs hse hwe hwl hws ht
  go_enter Tryz.func3, Tryz.ntmps3
  go_upto_region 2 with (fail)
  rw [← HW3.out]
  clear HW3
  go_wp2_with fail
  refine HTX.out.mono ?_
  rintro e w4 ⟨⟨s0, f0, rfl, hf1, hf2⟩, hb4⟩
  have HB4 := Lib.hid hb4
  have HF1 := Lib.hid hf1
  have hk1 := (hb4.block _ (lt_of_blk HK1.out)).trans HK1.out
  have r0 : w4.cell? ⟨w.heap.size + 1, 0, none⟩ = some (.string r.pr) := (cell_of_block (i := 0) hk1).trans rfl
  have r1 : w4.cell? ⟨w.heap.size + 1, 1, none⟩ = some (.int .i64 r.li) := (cell_of_block (i := 1) hk1).trans rfl
  have r2 : w4.cell? ⟨w.heap.size + 1, 2, none⟩ = some (.int .i64 r.st) := (cell_of_block (i := 2) hk1).trans rfl
  have r3 : w4.cell? ⟨w.heap.size + 1, 3, none⟩ = some (.int .i64 r.go) := (cell_of_block (i := 3) hk1).trans rfl
  have HC4 := Lib.hid (HCM.out w4)
  have HB24 : Hid (Below w.heap.size w w4) := Lib.hid (HB3.out.thru hb4)
  clear hb4 hf1 hf2 hk1 b0 b1 b2 b3 b4 HTX
  by_cases hf : f0 = 0
  rotate_left
  next =>
    have he := HF1.out hf
    subst he
    go_wp2_with (go_at_call 5; (with_reducible refine HC4.out.mono ?_); rintro e w5 ⟨rfl, hb5⟩; have HB5 := Lib.hid hb5; clear hb5)
    go_ret
    exact ⟨rfl, HB24.out.thru HB5.out⟩
  subst hf
  by_cases hp1 : pace < 1
  · go_wp2_with (go_at_call 5; (with_reducible refine HC4.out.mono ?_); rintro e w5 ⟨rfl, hb5⟩; have HB5 := Lib.hid hb5; clear hb5)
    go_ret
    exact ⟨rfl, HB24.out.thru HB5.out⟩
  by_cases hp2 : 100000 < pace
  · go_wp2_with (go_at_call 5; (with_reducible refine HC4.out.mono ?_); rintro e w5 ⟨rfl, hb5⟩; have HB5 := Lib.hid hb5; clear hb5)
    go_ret
    exact ⟨rfl, HB24.out.thru HB5.out⟩
  by_cases hpr : r.pr = pLive
  rotate_left
  next =>
    have hne := str_neL hpr
    clear hpr
    go_wp2_with (go_at_call 5; (with_reducible refine HC4.out.mono ?_); rintro e w5 ⟨rfl, hb5⟩; have HB5 := Lib.hid hb5; clear hb5)
    go_ret
    exact ⟨rfl, HB24.out.thru HB5.out⟩
  obtain ⟨rpr, rli, rst, rgo⟩ := r
  simp only at hpr r0 r1 r2 r3 hr
  subst hpr
  unfold pLive at r0
  have HPI : Hid (1 ≤ pace ∧ pace ≤ 100000) := Lib.hid (by omega)
  obtain ⟨w5, hw5⟩ : ∃ w5, w5 = ((w4.alloc (.cells #[.string ⟨#[101, 100, 103, 101]⟩, .string ⟨#[]⟩, .int .i64 de, .int .i64 ro] 35)).alloc (.cells #[.string ⟨#[47, 108, 105, 118, 101]⟩, .int .i64 rli, .int .i64 rst, .int .i64 rgo] 27)).alloc (.cells #[.slice (some ⟨w4.heap.size, 0, none⟩) 1 1, .slice (some ⟨w4.heap.size + 1, 0, none⟩) 1 1, .slice none 0 0, .slice none 0 0] 41) := ⟨_, rfl⟩
  obtain ⟨D, hD⟩ : ∃ D, D = w4.heap.size + 2 := ⟨_, rfl⟩
  obtain ⟨cb, hcb⟩ : ∃ D, D = w4.heap.size := ⟨_, rfl⟩
  obtain ⟨rb, hrb⟩ : ∃ D, D = w4.heap.size + 1 := ⟨_, rfl⟩
  have HTW : Hid (TopW w w5 D cb rb de ro ⟨pLive, rli, rst, rgo⟩ (.slice (some ⟨w.heap.size + 2, 0, none⟩) 1 1) (.slice none 0 0) [((l, .slice ao l.en.length cap) : LsV)] []) := Lib.hid (by
    have hb45 : Below w4.heap.size w4 w5 := by rw [hw5]; exact (((Below.refl _ w4).alloc (Nat.le_refl _) _).alloc (by simp) _).alloc (by simp; omega) _
    have hsz := HB24.out.size
    have ho := (HOW.out.below HB4.out (Nat.le_refl _)).below hb45 (Nat.le_refl _)
    have hb5 := HB24.out.thru hb45
    have k1 := block_new w4 (.cells #[.string ⟨#[101, 100, 103, 101]⟩, .string ⟨#[]⟩, .int .i64 de, .int .i64 ro] 35)
    have e1 : w4.heap.size + 1 = (w4.alloc (.cells #[.string ⟨#[101, 100, 103, 101]⟩, .string ⟨#[]⟩, .int .i64 de, .int .i64 ro] 35)).heap.size := by simp
    have k2 := block_new (w4.alloc (.cells #[.string ⟨#[101, 100, 103, 101]⟩, .string ⟨#[]⟩, .int .i64 de, .int .i64 ro] 35)) (.cells #[.string ⟨#[47, 108, 105, 118, 101]⟩, .int .i64 rli, .int .i64 rst, .int .i64 rgo] 27)
    have e2 : w4.heap.size + 2 = ((w4.alloc (.cells #[.string ⟨#[101, 100, 103, 101]⟩, .string ⟨#[]⟩, .int .i64 de, .int .i64 ro] 35)).alloc (.cells #[.string ⟨#[47, 108, 105, 118, 101]⟩, .int .i64 rli, .int .i64 rst, .int .i64 rgo] 27)).heap.size := by simp
    have k1b := (((Below.refl _ _).alloc (Nat.le_refl _) (.cells #[.string ⟨#[47, 108, 105, 118, 101]⟩, .int .i64 rli, .int .i64 rst, .int .i64 rgo] 27)).block _ (lt_of_blk k1)).trans k1
    refine ⟨⟨ho, Own.nil, fun p hp W' hW => ?_⟩, ?_, ?_, ?_, hb5, by omega⟩
    · rw [List.mem_singleton] at hp
      subst hp
      exact HEL.out.heap fun b hb => (hW b (by omega) (own_offLo ho hb) (offB.nil b) (Nat.lt_of_lt_of_le hb hb5.size)).trans (hb5.block b hb)
    · rw [hD, hcb, hrb, hw5, e2]
      exact block_new _ _
    · rw [hcb, hw5]
      exact (((Below.refl _ _).alloc (Nat.le_refl _) _).block _ (lt_of_blk k1b)).trans k1b
    · rw [hrb, hw5, e1]
      exact (((Below.refl _ _).alloc (Nat.le_refl _) _).block _ (lt_of_blk k2)).trans k2)
  have HTQ : Hid (TopQ S.length 0 pace [((l, .slice ao l.en.length cap) : LsV)] []) := Lib.hid ⟨by simp, rfl, fun j x hx => by simp at hx, fun j p _ hj => absurd hj (Nat.not_lt_zero _), fun p hp => by rw [List.mem_singleton] at hp; rw [hp]; exact HWL.out, fun a b x y _ hx hy => by
    have ha := (List.getElem?_eq_some_iff.1 hx).1
    have hb := (List.getElem?_eq_some_iff.1 hy).1
    simp at ha hb
    subst ha
    subst hb
    simp at hx hy
    rw [← hx, ← hy]
    exact Fol.refl _⟩
  have hlt1 := World.block_lt_of_cell? w4 _ r0
  have ra0 : ∀ o : Obj, (w4.alloc o).cell? ⟨w.heap.size + 1, 0, none⟩ = some (.string ⟨#[47, 108, 105, 118, 101]⟩) := fun o => (((Below.refl _ w4).alloc (Nat.le_refl _) o).cell (p := ⟨w.heap.size + 1, 0, none⟩) hlt1).trans r0
  have ra1 : ∀ o : Obj, (w4.alloc o).cell? ⟨w.heap.size + 1, 1, none⟩ = some (.int .i64 rli) := fun o => (((Below.refl _ w4).alloc (Nat.le_refl _) o).cell (p := ⟨w.heap.size + 1, 1, none⟩) hlt1).trans r1
  have ra2 : ∀ o : Obj, (w4.alloc o).cell? ⟨w.heap.size + 1, 2, none⟩ = some (.int .i64 rst) := fun o => (((Below.refl _ w4).alloc (Nat.le_refl _) o).cell (p := ⟨w.heap.size + 1, 2, none⟩) hlt1).trans r2
  have ra3 : ∀ o : Obj, (w4.alloc o).cell? ⟨w.heap.size + 1, 3, none⟩ = some (.int .i64 rgo) := fun o => (((Below.refl _ w4).alloc (Nat.le_refl _) o).cell (p := ⟨w.heap.size + 1, 3, none⟩) hlt1).trans r3
  have HW5 := Lib.hid hw5
  have HDE := Lib.hid (And.intro hD (And.intro hcb hrb))
  have hsz4 := HB24.out.size
  have hDl : w.heap.size ≤ D := by omega
  have hslz : (S.length : Int) ≤ 1048576 := by omega
  clear hw5 hD hcb hrb HOW HF1 HEL HK0 HK1 HB3 HB4
  go_upto_region 6 with (fail)
  rw [← HW5.out, ← HDE.out.1]
  clear HW5 HDE r0 r1 r2 r3 ra0 ra1 ra2 ra3 hlt1 HB24 HC4 hsz4
  go_wp2_with fail
  go_loopg [15, 19] (S.length + 1) (fun gg s15 s19 wr => ∃ (i : Nat) (q : List LsV) (RR : List Rel) (rv : Value), i ≤ S.length + 1 ∧ S.length + 1 - i ≤ gg ∧ s19 = .int .i64 i ∧ Aside (TopW w wr D cb rb de ro ⟨pLive, rli, rst, rgo⟩ s15 rv q RR) ∧ Aside (TopQ S.length i pace q RR))
  case atStart => exact ⟨0, _, _, _, Nat.zero_le _, by omega, by go_num, HTW.out, HTQ.out⟩
  case round =>
    obtain ⟨i, q, RR, rv, hi, hg, rfl, AT, AQ⟩ := hrel
    have HT := Lib.hid AT.out
    have HQ := Lib.hid AQ.out
    have hqne : q ≠ [] := by
      intro h
      have := AQ.out.ql
      rw [h] at this
      simp at this
    obtain ⟨g, gc, hlv, -, hgl, hgn, hgm, hgcell, -⟩ := AT.out.ls.ow.getk encLs_len hqne
    subst hlv
    obtain ⟨ro2, rn2, rc2, hrv⟩ := AT.out.ls.rr.slv encL_len
    subst hrv
    have HGC := Lib.hid hgcell
    have hqlen := AQ.out.ql
    have HQL := Lib.hid hqlen
    unfold maxLen at hgm
    clear AT AQ HTW HTQ hgcell hqne
    by_cases hin : i ≤ S.length
    · have hinz : (i : Int) ≤ (S.length : Int) := by omega
      have hqi : q.length = i + 1 := by omega
      have hqz : (i : Int) < (q.length : Int) := by omega
      have hqz2 : (q.length : Int) ≤ (gc : Int) := by omega
      obtain ⟨p, hp⟩ : ∃ p, q[i]? = some p := ⟨q[i], by simp⟩
      have hpm := List.mem_of_getElem? hp
      have hen := HT.out.ls.ens hpm
      obtain ⟨pl, pv⟩ := p
      obtain ⟨pa, pc, hpv, -, -, -, -⟩ := id hen.op
      simp only at hpv hen
      subst hpv
      have c0 : wr.cell? ⟨g, i * 5, none⟩ = some (.int .i64 pl.ta) := HGC.out i _ 0 _ hp rfl
      have c1 : wr.cell? ⟨g, i * 5 + 1, none⟩ = some (.int .i64 pl.fi) := HGC.out i _ 1 _ hp rfl
      have c2 : wr.cell? ⟨g, i * 5 + 2, none⟩ = some (.int .i64 pl.br) := HGC.out i _ 2 _ hp rfl
      have c3 : wr.cell? ⟨g, i * 5 + 3, none⟩ = some (.slice pa pl.en.length pc) := HGC.out i _ 3 _ hp rfl
      have c4 : wr.cell? ⟨g, i * 5 + 4, none⟩ = some (.bool pl.ed) := HGC.out i _ 4 _ hp rfl
      have HTX := Lib.hid (TextL_any wr pl _ hen (HQ.out.wf _ hpm) (tab_below HTB.out HT.out.be))
      have HP := Lib.hid hp
      have HPM := Lib.hid hpm
      have HQI := Lib.hid hqi
      have HPW := Lib.hid (HQ.out.wf _ hpm)
      clear hp hpm hen hqlen hqi
      go_wp2_with fail
      refine HTX.out.mono ?_
      rintro e w6 ⟨⟨s6, f6, rfl, -, hf2⟩, hb6⟩
      have HT6 := Lib.hid (HT.out.below hb6)
      have HF2 := Lib.hid hf2
      clear hb6 hf2 HTX c0 c1 c2 c3 c4
      by_cases hf : f6 = 0
      rotate_left
      next =>
        have HC6 := Lib.hid (HCM.out w6)
        go_wp2_with (go_at_call 5; (with_reducible refine HC6.out.mono ?_); rintro e w7 ⟨rfl, hb7⟩; have HB7 := Lib.hid (HT6.out.be.thru hb7); clear hb7)
        go_ret
        exact ⟨rfl, HB7.out⟩
      obtain ⟨hck, hs6⟩ := HF2.out hf
      have HCK := Lib.hid hck
      subst hf
      clear hck HF2
      have dk := HT6.out.dk
      have d2 : w6.cell? ⟨D, 2, none⟩ = some (.slice ro2 rn2 rc2) := (cell_of_block (i := 2) dk).trans rfl
      have hs6z : (s6.size : Int) ≤ 500000 := by omega
      obtain ⟨I, hI⟩ : ∃ I, (i : Int) * pace = I := ⟨_, rfl⟩
      have hIb : 0 ≤ I ∧ I ≤ 104857700000 := by
        obtain ⟨p1, p2⟩ := HPI.out
        rw [← hI]
        have h1 : 0 ≤ (i : Int) * pace := Int.mul_nonneg (by omega) (by omega)
        have h2 : (i : Int) * pace ≤ 1048577 * 100000 := Int.mul_le_mul (by omega) p2 (by omega) (by omega)
        omega
      have HI := Lib.hid hI
      have hRl : RR.length * 40 ≤ 140737488355328 := by rw [HQ.out.rl]; omega
      have HDL := Lib.hid (lt_of_blk dk)
      have hbs6 : w.heap.size ≤ (w6.alloc (.cells #[.string kLive, .int .i64 I, .int .i64 s6.size, .bool false] 43)).heap.size := by
        have := HT6.out.be.size
        simp; omega
      have HOR := Lib.hid (HT6.out.ls.rr.al (.cells #[.string kLive, .int .i64 I, .int .i64 s6.size, .bool false] 43))
      have HT6a := Lib.hid (HT6.out.below ((Below.refl _ w6).alloc (Nat.le_refl _) (.cells #[.string kLive, .int .i64 I, .int .i64 s6.size, .bool false] 43)))
      clear dk
      go_upto_region 13 with (at_builtin; refine wpList_pushB (enc := encL) rfl _ _ 38 rfl slRl (by decide) rfl rfl (⟨kLive, I, s6.size, false⟩ : Rel) rfl rfl HOR.out (block_new w6 _) hRl hbs6 ?_; intro rv7 w7 ho7 hb7 hk7; have d2 : w7.cell? ⟨D, 2, none⟩ = some (.slice ro2 rn2 rc2) := (cell_of_block (i := 2) (blk_kb HT6a.out.dk HT6a.out.ls.rr (by decide) hk7)).trans rfl; have f2 : w7.frozen? ⟨D, 2, none⟩ = false := froz_of_blk (blk_kb HT6a.out.dk HT6a.out.ls.rr (by decide) hk7); have HT8 := Lib.hid (HT6a.out.pushR hb7 hk7 ho7); obtain ⟨ra7, rn7, rc7, hrv7⟩ := ho7.slv encL_len; subst hrv7; clear ho7 hb7 hk7 hRl hbs6)
      obtain ⟨w8, hw8⟩ : ∃ w8, w8 = w7.setCell ⟨D, 2, none⟩ (.slice ra7 rn7 rc7) := ⟨_, rfl⟩
      rw [← hw8] at HT8 ⊢
      clear hw8 d2 f2 HT6a HOR hI
      obtain ⟨RR2, hR2⟩ : ∃ RR2, RR2 = RR ++ [(⟨kLive, I, s6.size, false⟩ : Rel)] := ⟨_, rfl⟩
      rw [← hR2] at HT8
      have HR2 : Hid (RR2 = RR ++ [(⟨kLive, i * pace, s6.size, false⟩ : Rel)]) := Lib.hid (by rw [hR2, HI.out])
      clear hR2
      by_cases hlt : i < S.length
      · have hltz : (i : Int) < (S.length : Int) := by omega
        obtain ⟨st, hst⟩ : ∃ st, S[i]? = some st := ⟨S[i], by simp [hlt]⟩
        obtain ⟨sb, soff, xv, hso, hsc2, hxs⟩ := HSE.out i st hst
        subst hso
        obtain ⟨ya, yc, hyv, -, -, -, -⟩ := id hxs
        subst hyv
        have HWX := Lib.hid (HWS.out st (List.mem_of_getElem? hst))
        have HSC := Lib.hid hsc2
        have HXS := Lib.hid hxs
        have hsb : soff + i * 9 = soff + i * 9 := rfl
        clear hst hsc2 hxs hsb
        have HGK : Hid (∀ (a : Nat) (x : LsV) (j : Nat) (u : Value), q[a]? = some x → (encLs x)[j]? = some u → w8.cell? ⟨g, a * 5 + j, none⟩ = some u) := Lib.hid (by
          have hne : q ≠ [] := by
            intro h
            have := HQI.out
            rw [h] at this
            simp at this
          obtain ⟨g2, gc2, h1, -, -, -, -, h2, -⟩ := HT8.out.ls.ow.getk encLs_len hne
          cases h1
          exact h2)
        have HSS : Hid (∀ W : World, Below w.heap.size w W → (W.cell? ⟨sb, soff + i * 9, none⟩ = some (.int .i64 st.k) ∧ W.cell? ⟨sb, soff + i * 9 + 1, none⟩ = some (.string st.x.ur) ∧ W.cell? ⟨sb, soff + i * 9 + 2, none⟩ = some (.int .i64 st.x.mi) ∧ W.cell? ⟨sb, soff + i * 9 + 3, none⟩ = some (.bool st.x.br) ∧ W.cell? ⟨sb, soff + i * 9 + 4, none⟩ = some (.int .i64 st.x.da) ∧ W.cell? ⟨sb, soff + i * 9 + 5, none⟩ = some (.string st.x.ke) ∧ W.cell? ⟨sb, soff + i * 9 + 6, none⟩ = some (.bool st.x.ga) ∧ W.cell? ⟨sb, soff + i * 9 + 7, none⟩ = some (.slice ya st.x.ex.length yc) ∧ W.cell? ⟨sb, soff + i * 9 + 8, none⟩ = some (.int .i64 st.n))) := Lib.hid (fun W hW => HSC.out.below hW)
        have c0 : w8.drew.cell? ⟨g, i * 5, none⟩ = some (.int .i64 pl.ta) := HGK.out i _ 0 _ HP.out rfl
        have c1 : w8.drew.cell? ⟨g, i * 5 + 1, none⟩ = some (.int .i64 pl.fi) := HGK.out i _ 1 _ HP.out rfl
        have c2 : w8.drew.cell? ⟨g, i * 5 + 2, none⟩ = some (.int .i64 pl.br) := HGK.out i _ 2 _ HP.out rfl
        have c3 : w8.drew.cell? ⟨g, i * 5 + 3, none⟩ = some (.slice pa pl.en.length pc) := HGK.out i _ 3 _ HP.out rfl
        have c4 : w8.drew.cell? ⟨g, i * 5 + 4, none⟩ = some (.bool pl.ed) := HGK.out i _ 4 _ HP.out rfl
        have HSG : Hid (∀ W, Below w8.heap.size w8 W → Calls Tryz.prog 6 #[agLs pl (.slice pa pl.en.length pc), aggT st.k st.x (.slice ya st.x.ex.length yc) st.n] W (StgP W pl (.slice pa pl.en.length pc))) := Lib.hid (fun W hW =>
          staged_any W pl _ st.k st.x _ st.n ((HT8.out.below hW).ls.ens HPM.out) (HXS.out.below (HT8.out.be.thru hW) (Nat.le_refl _)) HPW.out HWX.out)
        unfold StgP at HSG
        have hbc : Below w8.heap.size w8 w8.drew := (Below.refl _ w8).drew
        have hql2 : q.length * 56 ≤ 140737488355328 := by rw [HQI.out]; omega
        go_upto_region 14 with (fail)
        refine wp_region_held_drew (S := fun W => (W.cell? ⟨sb, soff + i * 9, none⟩ = some (.int .i64 st.k) ∧ W.cell? ⟨sb, soff + i * 9 + 1, none⟩ = some (.string st.x.ur) ∧ W.cell? ⟨sb, soff + i * 9 + 2, none⟩ = some (.int .i64 st.x.mi) ∧ W.cell? ⟨sb, soff + i * 9 + 3, none⟩ = some (.bool st.x.br) ∧ W.cell? ⟨sb, soff + i * 9 + 4, none⟩ = some (.int .i64 st.x.da) ∧ W.cell? ⟨sb, soff + i * 9 + 5, none⟩ = some (.string st.x.ke) ∧ W.cell? ⟨sb, soff + i * 9 + 6, none⟩ = some (.bool st.x.ga) ∧ W.cell? ⟨sb, soff + i * 9 + 7, none⟩ = some (.slice ya st.x.ex.length yc) ∧ W.cell? ⟨sb, soff + i * 9 + 8, none⟩ = some (.int .i64 st.n))) (by kernel_rfl) (HSS.out _ HT8.out.be.drew) (fun hHeld => ?_)
        refine takeIn (v := ?_) 0 98 rfl rfl (by kernel_rfl) (by kernel_rfl) (by kernel_rfl) (fun _ _ _ h => h) hHeld (by rfl) ?_ ?_
        rotate_left
        · (intro w' hSw; (try dsimp only at hSw); go_simp) <;> with_reducible rfl
        try simp only [Act.put, List.setIfInBounds_toArray, List.set_cons_zero, List.set_cons_succ]
        refine takeIn (v := ?_) 1 99 rfl rfl (by kernel_rfl) (by kernel_rfl) (by kernel_rfl) (fun _ _ _ h => h) hHeld (by rfl) ?_ ?_
        rotate_left
        · (intro w' hSw; (try dsimp only at hSw); go_simp) <;> with_reducible rfl
        try simp only [Act.put, List.setIfInBounds_toArray, List.set_cons_zero, List.set_cons_succ]
        refine takeIn (v := ?_) 2 100 rfl rfl (by kernel_rfl) (by kernel_rfl) (by kernel_rfl) (fun _ _ _ h => h) hHeld (by rfl) ?_ ?_
        rotate_left
        · (intro w' hSw; (try dsimp only at hSw); go_simp) <;> with_reducible rfl
        try simp only [Act.put, List.setIfInBounds_toArray, List.set_cons_zero, List.set_cons_succ]
        refine takeIn (v := ?_) 3 101 rfl rfl (by kernel_rfl) (by kernel_rfl) (by kernel_rfl) (fun _ _ _ h => h) hHeld (by rfl) ?_ ?_
        rotate_left
        · (intro w' hSw; (try dsimp only at hSw); go_simp) <;> with_reducible rfl
        try simp only [Act.put, List.setIfInBounds_toArray, List.set_cons_zero, List.set_cons_succ]
        refine takeIn (v := ?_) 5 103 rfl rfl (by kernel_rfl) (by kernel_rfl) (by kernel_rfl) (fun _ _ _ h => h) hHeld (by rfl) ?_ ?_
        rotate_left
        · (intro w' hSw; (try dsimp only at hSw); go_simp) <;> with_reducible rfl
        try simp only [Act.put, List.setIfInBounds_toArray, List.set_cons_zero, List.set_cons_succ]
        refine takeIn (v := ?_) 6 104 rfl rfl (by kernel_rfl) (by kernel_rfl) (by kernel_rfl) (fun _ _ _ h => h) hHeld (by rfl) ?_ ?_
        rotate_left
        · (intro w' hSw; (try dsimp only at hSw); go_simp) <;> with_reducible rfl
        try simp only [Act.put, List.setIfInBounds_toArray, List.set_cons_zero, List.set_cons_succ]
        refine takeIn (v := ?_) 7 105 rfl rfl (by kernel_rfl) (by kernel_rfl) (by kernel_rfl) (fun _ _ _ h => h) hHeld (by rfl) ?_ ?_
        rotate_left
        · (intro w' hSw; (try dsimp only at hSw); go_simp) <;> with_reducible rfl
        try simp only [Act.put, List.setIfInBounds_toArray, List.set_cons_zero, List.set_cons_succ]
        refine takeIn (v := ?_) 8 106 rfl rfl (by kernel_rfl) (by kernel_rfl) (by kernel_rfl) (fun _ _ _ h => h) hHeld (by rfl) ?_ ?_
        rotate_left
        · (intro w' hSw; (try dsimp only at hSw); go_simp) <;> with_reducible rfl
        try simp only [Act.put, List.setIfInBounds_toArray, List.set_cons_zero, List.set_cons_succ]
        refine wpAnyH_ready (rs := [4]) (by kernel_rfl) (by simp) (AllReadyH.cons rfl (fun K hK => ?_) (AllReadyH.nil))
        go_simp
        refine hK.out _ _ (HSS.out _ HT8.out.be.drew) (fun hHeld => ?_)
        clear hK K
        try simp only [Act.put, List.setIfInBounds_toArray, List.set_cons_zero, List.set_cons_succ]
        refine wpAnyH_ready (rs := [9]) (by kernel_rfl) (by simp) (AllReadyH.cons rfl (fun K hK => ?_) (AllReadyH.nil))
        rw [if_pos (by rfl)]
        go_simp
        go_at_call 6
        refine (HSG.out _ hbc).mono ?_
        rintro e w9 ⟨l9, v9, rfl, hen9, hfo9, hwf9, hb9⟩
        have HEN9 := Lib.hid hen9
        have HFW9 := Lib.hid (And.intro hfo9 hwf9)
        have HT8d : Hid (TopW w w8.drew D cb rb de ro ⟨pLive, rli, rst, rgo⟩ (.slice (some ⟨g, 0, none⟩) q.length gc) (.slice ra7 rn7 rc7) q RR2) := Lib.hid (HT8.out.below ((Below.refl _ w8).drew))
        have HT9 := Lib.hid (HT8d.out.below hb9)
        have HNE : Hid (EnS w9 v9 l9.en) := Lib.hid (by
          rcases hen9 with h | ⟨h1, h2⟩
          · exact h.ens
          · rw [h1, h2]; exact HT9.out.ls.ens HPM.out)
        obtain ⟨za, zc, hzv, -, -, -, -⟩ := HNE.out.op
        subst hzv
        have HY : Hid (∀ W' : World, (∀ b, b ≠ D → offB b (.slice (some ⟨g, 0, none⟩) q.length gc) → offB b (.slice ra7 rn7 rc7) → b < w9.heap.size → W'.heap[b]? = w9.heap[b]?) → EnS W' (.slice za l9.en.length zc) l9.en) := Lib.hid (by
          rcases HEN9.out with h | ⟨h1, h2⟩
          · exact HT8d.out.ls.fresh (lt_of_blk HT8d.out.dk) h
          · rw [h2, h1]; exact HT9.out.ls.en _ HPM.out)
        have HO9 := Lib.hid (HT9.out.ls.ow.al (litL l9 (.slice za l9.en.length zc)))
        have hbs9 : w.heap.size ≤ (w9.alloc (litL l9 (.slice za l9.en.length zc))).heap.size := (HT9.out.below ((Below.refl _ w9).alloc (Nat.le_refl _) (litL l9 (.slice za l9.en.length zc)))).be.size
        clear hen9 hfo9 hwf9 hb9 hbc
        refine hK.out _ _ (HSS.out _ HT9.out.be) (fun hHeld => ?_)
        clear hK K
        try simp only [Act.put, List.setIfInBounds_toArray, List.set_cons_zero, List.set_cons_succ]
        refine wpAnyH_ready (rs := [10]) (by kernel_rfl) (by simp) (AllReadyH.cons rfl (fun K hK => ?_) (AllReadyH.nil))
        go_simp
        refine hK.out _ _ (HSS.out _ (HT9.out.be.alloc HT9.out.be.size _)) (fun hHeld => ?_)
        clear hK K
        try simp only [Act.put, List.setIfInBounds_toArray, List.set_cons_zero, List.set_cons_succ]
        refine wpAnyH_ready (rs := [11]) (by kernel_rfl) (by simp) (AllReadyH.cons rfl (fun K hK => ?_) (AllReadyH.nil))
        refine step_pushB (enc := encLs) (v := .slice (some ⟨g, 0, none⟩) q.length gc) (l := q) rfl (.tmp 98) (.tmp 108) 29 rfl slLs (by decide) rfl rfl ((l9, .slice za l9.en.length zc) : LsV) rfl rfl HO9.out (block_new w9 _) hql2 hbs9 ?_
        intro v10 w10 ho10 hb10 hk10
        have HO10 := Lib.hid ho10
        have HB10 := Lib.hid hb10
        have HK10 := Lib.hid hk10
        obtain ⟨la, ln, lc, hlv10⟩ := ho10.slv encLs_len
        subst hlv10
        clear ho10 hb10 hk10
        refine hK.out _ _ (HSS.out _ ((HT9.out.be.alloc HT9.out.be.size _).trans HB10.out)) (fun hHeld => ?_)
        clear hK K
        try simp only [Act.put, List.setIfInBounds_toArray]
        refine wpAnyH_ready (rs := [12]) (by kernel_rfl) (by simp) (AllReadyH.cons rfl (fun K hK => ?_) (AllReadyH.nil))
        go_simp
        refine hK.out _ _ (HSS.out _ ((HT9.out.be.alloc HT9.out.be.size _).trans HB10.out)) (fun hHeld => ?_)
        clear hK K
        try simp only [Act.put, List.setIfInBounds_toArray, List.set_cons_zero, List.set_cons_succ]
        refine wpAnyH_done (by kernel_rfl) ?_ _
        go_wp2_with fail
        go_roundg (S.length + 1 - (i + 1))
        case measure => omega
        case rel =>
          exact ⟨i + 1, q ++ [((l9, .slice za l9.en.length zc) : LsV)], RR2, _, by omega, by omega, by go_num, (HT9.out.below ((Below.refl _ w9).alloc (Nat.le_refl _) _)).pushL HB10.out HK10.out HO10.out (fun W' hW => HY.out W' fun b h1 h2 h3 h4 => (hW b h1 h2 h3 (by simp; omega)).trans (Below.heap_alloc w9 _ b h4)), HQ.out.push hlt HP.out HCK.out s6.size HR2.out HFW9.out.1 HFW9.out.2⟩
      · have hltz : ¬ (i : Int) < (S.length : Int) := by omega
        go_wp2_with fail
        go_roundg (S.length + 1 - (i + 1))
        case measure => omega
        case rel => exact ⟨i + 1, q, RR2, _, by omega, by omega, by go_num, HT8.out, HQ.out.next hin HP.out HCK.out s6.size HR2.out (by omega)⟩
    · have hinz : ¬ (i : Int) ≤ (S.length : Int) := by omega
      obtain ⟨wa, rfl⟩ : ∃ wa : World, wa = wr := ⟨_, rfl⟩
      have hi1 : i = S.length + 1 := by omega
      subst hi1
      have hqn : q.length = S.length + 1 := by omega
      have hrn : RR.length = S.length + 1 := HQ.out.rl
      have HQN := Lib.hid hqn
      have HRN := Lib.hid hrn
      have hLz : (L.length : Int) ≤ 1048576 := by omega
      clear hg hqlen HQL hqn hrn HSE
      go_wp2_with fail
      go_loopg [22, 23, 24] L.length (fun gg s22 s23 s24 wg => ∃ (k : Nat) (T : Int) (GL : List Gt), k ≤ L.length ∧ L.length - k ≤ gg ∧ s24 = .int .i64 k ∧ s23 = .int .i64 T ∧ 0 ≤ T ∧ T ≤ 1000000 * k ∧ Aside (Own wg wa.heap.size 52 3 encT s22 GL) ∧ Aside (GL.length = k ∧ ∀ x, x ∈ GL → x.ca = nEdge ∧ x.ke = kLive) ∧ Aside (Below wa.heap.size wa wg))
      case atStart => exact ⟨0, 0, [], Nat.zero_le _, by omega, by go_num, by go_num, by omega, by omega, Own.nil, ⟨rfl, fun x hx => by cases hx⟩, Below.refl _ _⟩
      case round =>
        obtain ⟨k, T, GL, hk, hg, rfl, rfl, hT1, hT2, AO, AG, AB⟩ := hrel
        obtain ⟨wg, rfl⟩ : ∃ wg : World, wg = wr := ⟨_, rfl⟩
        have HO := Lib.hid AO.out
        have HGL := Lib.hid AG.out
        have HBG := Lib.hid AB.out
        obtain ⟨ga, gn, gcp, hgv⟩ := AO.out.slv encT_len
        subst hgv
        clear AO AG AB
        by_cases hlt : k < L.length
        · have hltz : (k : Int) < (L.length : Int) := by omega
          obtain ⟨x, hx⟩ : ∃ x, L[k]? = some x := ⟨L[k], by simp [hlt]⟩
          obtain ⟨b, off, hwo, hc⟩ := HWE.out k x hx
          subst hwo
          have hlt0 := World.block_lt_of_cell? w ⟨b, off + k * 1 + 0, none⟩ (hc 0 _ rfl)
          have c0 : wg.cell? ⟨b, off + k, none⟩ = some (.int .i64 x) := by
            have := ((HT.out.be.thru HBG.out).cell (p := ⟨b, off + k * 1 + 0, none⟩) hlt0).trans (hc 0 _ rfl)
            rwa [Nat.mul_one, Nat.add_zero] at this
          obtain ⟨z, hz⟩ : ∃ z, max 0 (min x 1000000) = z := ⟨_, rfl⟩
          have hzb : 0 ≤ z ∧ z ≤ 1000000 := by rw [← hz]; omega
          have hpl : (GL.length + 1) * 40 ≤ 140737488355328 := by rw [HGL.out.1]; omega
          have hbs := HBG.out.size
          clear hx hc hlt0
          go_wp2_with (at_builtin; refine wpList_push rfl _ _ 50 rfl slGt rfl rfl (⟨T + z, nEdge, kLive⟩ : Gt) rfl rfl rfl HO.out rfl hpl hbs ?_; intro v7 w7 ho7 hb7; have HO7 := Lib.hid ho7; have HB7 := Lib.hid hb7; clear ho7 hb7 hpl hbs)
          go_roundg (L.length - (k + 1))
          case measure => omega
          case rel => exact ⟨k + 1, T + z, GL ++ [(⟨T + z, nEdge, kLive⟩ : Gt)], by omega, by omega, by go_num, rfl, by omega, by omega, HO7.out, ⟨by rw [List.length_append, HGL.out.1]; rfl, fun y hy => by
            rcases List.mem_append.1 hy with hy | hy
            · exact HGL.out.2 y hy
            · rw [List.mem_singleton] at hy; rw [hy]; exact ⟨rfl, rfl⟩⟩, HBG.out.trans HB7.out⟩
        · have hkl : k = L.length := by omega
          subst hkl
          have hltz : ¬ (L.length : Int) < (L.length : Int) := by omega
          have HTG := Lib.hid (HT.out.below HBG.out)
          obtain ⟨C, hC⟩ : ∃ C : List Cch, C = [⟨nEdge, ⟨#[]⟩, de, ro⟩] := ⟨_, rfl⟩
          obtain ⟨R, hR⟩ : ∃ R : List Crl, R = [⟨pLive, rli, rst, rgo⟩] := ⟨_, rfl⟩
          have hIN : InS wg C R RR [] GL (.slice (some ⟨cb, 0, none⟩) 1 1) (.slice (some ⟨rb, 0, none⟩) 1 1) (.slice ro2 rn2 rc2) (.slice none 0 0) (.slice ga gn gcp) := by
            refine ⟨?_, ?_, HTG.out.ls.rr.sl encL_len, Sl.nil, HO.out.sl encT_len⟩
            · rw [hC]
              refine ⟨_, _, rfl, Nat.le_refl _, by simp [maxLen], fun h => by simp at h, fun a x hx => ?_⟩
              have ha := (List.getElem?_eq_some_iff.1 hx).1
              simp at ha
              subst ha
              simp at hx
              subst hx
              refine ⟨cb, 0, rfl, fun j u hu => ?_⟩
              simp only [Nat.zero_mul, Nat.add_zero, Nat.zero_add]
              rw [cell_of_block HTG.out.ck, List.getElem?_toArray]
              exact hu
            · rw [hR]
              refine ⟨_, _, rfl, Nat.le_refl _, by simp [maxLen], fun h => by simp at h, fun a x hx => ?_⟩
              have ha := (List.getElem?_eq_some_iff.1 hx).1
              simp at ha
              subst ha
              simp at hx
              subst hx
              refine ⟨rb, 0, rfl, fun j u hu => ?_⟩
              simp only [Nat.zero_mul, Nat.add_zero, Nat.zero_add]
              rw [cell_of_block HTG.out.rk, List.getElem?_toArray]
              exact hu
          have hWF : WfS C R RR [] GL := by
            refine ⟨fun x hx => ?_, fun x hx => ?_, fun x hx => ?_, fun x hx => (by cases hx), fun x hx => ?_⟩
            · rw [hC, List.mem_singleton] at hx; rw [hx]; show nEdge.size ≤ 9223372036854775807 ∧ (ByteArray.mk #[]).size ≤ 9223372036854775807; decide
            · rw [hR, List.mem_singleton] at hx; rw [hx]; show pLive.size ≤ _; decide
            · obtain ⟨j, hj⟩ := List.mem_iff_getElem?.1 hx
              show x.ke.size ≤ _
              rw [(HQ.out.at_ j x hj).1]; decide
            · obtain ⟨h1, h2⟩ := HGL.out.2 x hx
              show x.ca.size ≤ _ ∧ x.ke.size ≤ _
              rw [h1, h2]; exact ⟨by decide, by decide⟩
          have HSV := Lib.hid (Serve_any wg C R RR [] GL _ _ _ _ _ hIN hWF)
          have HLV : Hid (Live RR pace) := Lib.hid ⟨by rw [HRN.out]; omega, HQ.out.at_⟩
          have HLW : Hid (checkS C R RR [] GL = 0 → ∀ X, EndX C R RR [] GL 1152921504606846976 X → X.go.length = GL.length ∧ ∃ m : Nat → Nat, (∀ (i : Nat) (g : Gt) (x : Gtn), GL[i]? = some g → X.go[i]? = some x → m i < RR.length ∧ x.ve = (m i : Int) * pace ∧ g.ti ≤ x.ti) ∧ ∀ i j : Nat, i ≤ j → j < GL.length → m i ≤ m j) := Lib.hid (fun h0 X hX => by
            rw [hC, hR] at h0 hX
            exact live_law HLV.out HPI.out.1 HGL.out.2 h0 hX)
          obtain ⟨F, hF⟩ : ∃ F, F = checkS C R RR [] GL := ⟨_, rfl⟩
          rw [← hF] at HSV HLW
          have hgn : gn = L.length := by
            obtain ⟨a1, c1, h1, -⟩ := HO.out.sl encT_len
            cases h1
            exact HGL.out.1
          have dk := HTG.out.dk
          have d0 : wg.cell? ⟨D, 0, none⟩ = some (.slice (some ⟨cb, 0, none⟩) 1 1) := (cell_of_block (i := 0) dk).trans rfl
          have d1 : wg.cell? ⟨D, 1, none⟩ = some (.slice (some ⟨rb, 0, none⟩) 1 1) := (cell_of_block (i := 1) dk).trans rfl
          have d2 : wg.cell? ⟨D, 2, none⟩ = some (.slice ro2 rn2 rc2) := (cell_of_block (i := 2) dk).trans rfl
          have d3 : wg.cell? ⟨D, 3, none⟩ = some (.slice none 0 0) := (cell_of_block (i := 3) dk).trans rfl
          subst hgn
          clear hIN hWF hC hR hF dk hT1 hT2 hg hi hk hinz hlt
          go_wp2_with fail
          refine HSV.out.mono ?_
          rintro e w10 ⟨⟨v10, rfl, lg, hs10, hn0, hz0⟩, hb10⟩
          have HB10 := Lib.hid hb10
          have HT10 := Lib.hid (HTG.out.below hb10)
          have HO10 := Lib.hid (HO.out.below hb10 (Nat.le_refl _))
          have HZ0 := Lib.hid hz0
          clear hz0 hb10 d0 d1 d2 d3 HSV
          by_cases hF0 : F = 0
          rotate_left
          next =>
            have hl0 := hn0 hF0
            subst hl0
            obtain ⟨go, gcap, hv10, -, -, -, -⟩ := hs10
            subst hv10
            have HC10 := Lib.hid (HCM.out w10)
            clear hn0 HZ0 HLW
            go_wp2_with (go_at_call 5; (with_reducible refine HC10.out.mono ?_); rintro e w11 ⟨rfl, hb11⟩; have HB11 := Lib.hid (HT10.out.be.thru hb11); clear hb11)
            go_ret
            exact ⟨rfl, HB11.out⟩
          obtain ⟨X, hX, hlX⟩ := HZ0.out hF0
          obtain ⟨hlen, m, hm1, hm2⟩ := HLW.out hF0 X hX
          rw [← hlX] at hlen hm1
          subst hF0
          obtain ⟨go, gcap, hv10, hgc1, hgc2, -, hgel⟩ := hs10
          subst hv10
          have hlgn : lg.length = L.length := by rw [hlen, HGL.out.1]
          rw [hlgn] at hgc1 ⊢
          have HGE := Lib.hid hgel
          have HM1 := Lib.hid hm1
          have HM2 := Lib.hid hm2
          have HLG := Lib.hid hlgn
          unfold maxLen at hgc2
          have hgcz : (L.length : Int) ≤ (gcap : Int) := by omega
          clear hX hlX hlen hm1 hm2 hn0 HZ0 HLW hgel hlgn
          go_wp2_with fail
          go_loopg [26, 27] L.length (fun gg s26 _ wx => ∃ j : Nat, j ≤ L.length ∧ L.length - j ≤ gg ∧ s26 = .int .i64 j ∧ Aside (Below w10.heap.size w10 wx))
          case atStart => exact ⟨0, Nat.zero_le _, by omega, by go_num, Below.refl _ _⟩
          case round =>
            obtain ⟨j, hj, hg, rfl, AB⟩ := hrel
            obtain ⟨wx, rfl⟩ : ∃ wx : World, wx = wr := ⟨_, rfl⟩
            have HBX := Lib.hid AB.out
            clear AB
            by_cases hlt : j < L.length
            · have hltz : (j : Int) < (L.length : Int) := by omega
              obtain ⟨x, hx⟩ : ∃ x, lg[j]? = some x := ⟨lg[j]'(by rw [HLG.out]; exact hlt), by simp⟩
              obtain ⟨gq, hgq⟩ : ∃ x, GL[j]? = some x := ⟨GL[j]'(by rw [HGL.out.1]; exact hlt), by simp⟩
              obtain ⟨hmj, hxv, hxt⟩ := HM1.out j gq x hgq hx
              obtain ⟨gob, goff, hgo, hgc⟩ := HGE.out j x hx
              subst hgo
              obtain ⟨N, hN⟩ : ∃ N, N = m j := ⟨_, rfl⟩
              rw [← hN] at hmj hxv
              rw [HRN.out] at hmj
              have hGne : GL ≠ [] := by
                intro h
                rw [h] at hgq
                cases hgq
              obtain ⟨gb, gbc, hgv, -, hgbl, hgbn, hgbm, hgcell, -⟩ := Own.getk encT_len HO10.out hGne
              simp only [Value.slice.injEq] at hgv
              obtain ⟨rfl, hgl2, rfl⟩ := hgv
              have c0 : wx.cell? ⟨gob, goff + j * 5, none⟩ = some (.int .i64 x.ti) := by
                have h := hgc 0 _ rfl
                exact (HBX.out.cell (p := ⟨gob, goff + j * 5 + 0, none⟩) (World.block_lt_of_cell? w10 _ h)).trans h
              have c1 : wx.cell? ⟨gob, goff + j * 5 + 1, none⟩ = some (.int .i64 x.ve) := by
                have h := hgc 1 _ rfl
                exact (HBX.out.cell (p := ⟨gob, goff + j * 5 + 1, none⟩) (World.block_lt_of_cell? w10 _ h)).trans h
              have c2 : wx.cell? ⟨gb, j * 3, none⟩ = some (.int .i64 gq.ti) := by
                have h := hgcell j gq 0 _ hgq rfl
                exact (HBX.out.cell (p := ⟨gb, j * 3 + 0, none⟩) hgbl).trans h
              unfold maxLen at hgbm
              obtain ⟨V, hV⟩ : ∃ V, V = x.ve := ⟨_, rfl⟩
              rw [← hV] at c1 hxv
              obtain ⟨p1, p2⟩ := HPI.out
              have hNz : (N : Int) ≤ 1048576 := by omega
              have hNq : (N : Int) < (q.length : Int) := by rw [HQN.out]; omega
              have hV0 : 0 ≤ V := by rw [hxv]; exact Int.mul_nonneg (by omega) (by omega)
              have hVb : V ≤ 104857600000 := by
                rw [hxv]
                have : (N : Int) * pace ≤ 1048576 * 100000 := Int.mul_le_mul hNz p2 (by omega) (by omega)
                omega
              have hVm : V % pace = 0 := by rw [hxv]; exact Int.mul_emod_left _ _
              have hVd : V / pace = (N : Int) := by rw [hxv]; exact Int.mul_ediv_cancel _ (by omega)
              have hVm2 : V.tmod pace = 0 := by rw [Int.tmod_eq_emod_of_nonneg hV0]; exact hVm
              have hVd2 : V.tdiv pace = (N : Int) := by rw [Int.tdiv_eq_ediv_of_nonneg hV0]; exact hVd
              have hwN : IntKind.i64.wrap (N : Int) = (N : Int) := IntWalk.i64_in _ (by omega)
              have hp0 : ¬ pace = 0 := by omega
              have hVn : ¬ V < 0 := by omega
              have hxn : ¬ x.ti < gq.ti := by omega
              have hNn : ¬ (q.length : Int) ≤ (N : Int) := by omega
              have hgbz : (L.length : Int) ≤ (gcp : Int) := by omega
              have HX := Lib.hid hx
              have HNV := Lib.hid hxv
              have HNM := Lib.hid hN
              have HNB := Lib.hid hmj
              clear hx hgq hgc hgcell hmj hxv hxt hN hGne hV hgl2
              go_upto_region 31 with (fail)
              have hund : undef = Value.tuple #[] := rfl
              go_quiet (fail)
              clear hund c0 c1 c2 hVm hVd hVm2 hVd2 hwN hVn hxn hNn hgbz hgbl hgbn hgbm
              obtain ⟨wy, hwy⟩ : ∃ u, u = wx.drewN nq := ⟨_, rfl⟩
              have HBY : Hid (Below w10.heap.size w10 wy) := Lib.hid (by rw [hwy]; exact below_drewN HBX.out _)
              rw [← hwy]
              clear hwy HBX
              by_cases hj0 : j = 0
              · subst hj0
                go_upto_region 33 with (fail)
                have hund : undef = Value.tuple #[] := rfl
                go_quiet (fail)
                clear hund
                have HBZ : Hid (Below w10.heap.size w10 (wy.drewN nq)) := Lib.hid (below_drewN HBY.out _)
                go_wp2_with fail
                go_roundg (L.length - (0 + 1))
                case measure => omega
                case rel => exact ⟨1, by omega, by omega, by go_num, HBZ.out⟩
              · obtain ⟨K, hK⟩ : ∃ K, j = K + 1 := ⟨j - 1, by omega⟩
                have HJK := Lib.hid hK
                obtain ⟨y, hy⟩ : ∃ x, lg[K]? = some x := ⟨lg[K]'(by rw [HLG.out]; omega), by simp⟩
                obtain ⟨gr, hgr⟩ : ∃ x, GL[K]? = some x := ⟨GL[K]'(by rw [HGL.out.1]; omega), by simp⟩
                obtain ⟨hmk, hyv, -⟩ := HM1.out K gr y hgr hy
                obtain ⟨gob2, goff2, hgo2, hgc2⟩ := HGE.out K y hy
                simp only [Option.some.injEq, Addr.mk.injEq, and_true] at hgo2
                obtain ⟨rfl, rfl⟩ := hgo2
                obtain ⟨M, hM⟩ : ∃ N, N = m K := ⟨_, rfl⟩
                have hMN : M ≤ N := by
                  have h1 := HNM.out
                  rw [hM, h1]
                  exact HM2.out K j (by omega) (by rw [HGL.out.1]; omega)
                rw [← hM] at hmk hyv
                rw [HRN.out] at hmk
                obtain ⟨U, hU⟩ : ∃ V, V = y.ve := ⟨_, rfl⟩
                have HUC : Hid (∀ W, Below wy.heap.size wy W → W.cell? ⟨gob, goff + K * 5 + 1, none⟩ = some (.int .i64 U)) := Lib.hid (fun W hW => by
                  have h := hgc2 1 _ rfl
                  rw [← hU] at h
                  exact ((HBY.out.thru hW).cell (p := ⟨gob, goff + K * 5 + 1, none⟩) (World.block_lt_of_cell? w10 _ h)).trans h)
                rw [← hU] at hyv
                have hUV : ¬ V < U := by
                  rw [hyv, HNV.out]
                  have : (M : Int) * pace ≤ (N : Int) * pace := Int.mul_le_mul_of_nonneg_right (by omega) (by omega)
                  omega
                have hU0 : 0 ≤ U := by rw [hyv]; exact Int.mul_nonneg (by omega) (by omega)
                have hUd : U / pace = (M : Int) := by rw [hyv]; exact Int.mul_ediv_cancel _ (by omega)
                have hUd2 : U.tdiv pace = (M : Int) := by rw [Int.tdiv_eq_ediv_of_nonneg hU0]; exact hUd
                have hVd : V / pace = (N : Int) := by rw [HNV.out]; exact Int.mul_ediv_cancel _ (by omega)
                have hVd2 : V.tdiv pace = (N : Int) := by rw [Int.tdiv_eq_ediv_of_nonneg hV0]; exact hVd
                have hwN : IntKind.i64.wrap (N : Int) = (N : Int) := IntWalk.i64_in _ (by omega)
                have hwM : IntKind.i64.wrap (M : Int) = (M : Int) := IntWalk.i64_in _ (by omega)
                have hwK : IntKind.i64.wrap ((j : Int) - 1) = (K : Int) := by rw [IntWalk.i64_in _ (by omega)]; omega
                have hMq : (M : Int) < (q.length : Int) := by rw [HQN.out]; omega
                have hM0 : (0 : Int) ≤ (M : Int) := by omega
                have hN0 : (0 : Int) ≤ (N : Int) := by omega
                have hK0 : (0 : Int) ≤ (K : Int) := by omega
                have hKL : (K : Int) < (L.length : Int) := by omega
                have hKp : (0 : Int) < (j : Int) := by omega
                have hKd : decide (0 < j) = true := by simp; omega
                have hKe : decide ((0 : Int) < (j : Int)) = true := by simp; omega
                obtain ⟨a, ha⟩ : ∃ x, q[M]? = some x := ⟨q[M]'(by rw [HQN.out]; exact hmk), by simp⟩
                obtain ⟨b, hb⟩ : ∃ x, q[N]? = some x := ⟨q[N]'(by rw [HQN.out]; exact HNB.out), by simp⟩
                have HTY := Lib.hid (HT10.out.below HBY.out)
                have hea := HTY.out.ls.ens (List.mem_of_getElem? ha)
                have heb := HTY.out.ls.ens (List.mem_of_getElem? hb)
                have hqne : q ≠ [] := by
                  intro h
                  rw [h] at ha
                  cases ha
                obtain ⟨g9, gc9, h91, -, h92, -, -, h93, -⟩ := HTY.out.ls.ow.getk encLs_len hqne
                simp only [Value.slice.injEq, Option.some.injEq, Addr.mk.injEq, and_true, true_and] at h91
                obtain ⟨rfl, rfl⟩ := h91
                obtain ⟨al, av⟩ := a
                obtain ⟨bl, bv⟩ := b
                simp only at hea heb
                obtain ⟨aa, ac, hav, -, -, -, -⟩ := id hea.op
                subst hav
                obtain ⟨ba, bc, hbv, -, -, -, -⟩ := id heb.op
                subst hbv
                have HFL : Hid (∀ W, Below wy.heap.size wy W → Calls Tryz.prog 8 #[agLs al (.slice aa al.en.length ac), agLs bl (.slice ba bl.en.length bc)] W fun e w' => e = .returned (.int .i64 0) ∧ Below W.heap.size W w') := Lib.hid (fun W hW =>
                  Follows_any W al bl _ _ (hea.below hW) (heb.below hW) (HQ.out.wf _ (List.mem_of_getElem? ha)) (HQ.out.wf _ (List.mem_of_getElem? hb)) (HQ.out.ck M _ ha hmk) (HQ.out.ck N _ hb HNB.out) (HQ.out.fo M N _ _ hMN ha hb))
                have hcl : ∀ (i : Nat) (p : LsV), q[i]? = some p → ∀ W, Below wy.heap.size wy W → ∀ (j : Nat) (u : Value), (encLs p)[j]? = some u → W.cell? ⟨g, i * 5 + j, none⟩ = some u := fun i p hp W hW j u hu => (hW.cell (p := ⟨g, i * 5 + j, none⟩) h92).trans (h93 i p j u hp hu)
                have HSS : Hid (∀ W, Below wy.heap.size wy W → (W.cell? ⟨gob, goff + K * 5 + 1, none⟩ = some (.int .i64 U) ∧ W.cell? ⟨g, M * 5, none⟩ = some (.int .i64 al.ta) ∧ W.cell? ⟨g, M * 5 + 1, none⟩ = some (.int .i64 al.fi) ∧ W.cell? ⟨g, M * 5 + 2, none⟩ = some (.int .i64 al.br) ∧ W.cell? ⟨g, M * 5 + 3, none⟩ = some (.slice aa al.en.length ac) ∧ W.cell? ⟨g, M * 5 + 4, none⟩ = some (.bool al.ed) ∧ W.cell? ⟨g, N * 5, none⟩ = some (.int .i64 bl.ta) ∧ W.cell? ⟨g, N * 5 + 1, none⟩ = some (.int .i64 bl.fi) ∧ W.cell? ⟨g, N * 5 + 2, none⟩ = some (.int .i64 bl.br) ∧ W.cell? ⟨g, N * 5 + 3, none⟩ = some (.slice ba bl.en.length bc) ∧ W.cell? ⟨g, N * 5 + 4, none⟩ = some (.bool bl.ed))) := Lib.hid (fun W hW =>
                  ⟨HUC.out W hW, hcl M _ ha W hW 0 _ rfl, hcl M _ ha W hW 1 _ rfl, hcl M _ ha W hW 2 _ rfl, hcl M _ ha W hW 3 _ rfl, hcl M _ ha W hW 4 _ rfl, hcl N _ hb W hW 0 _ rfl, hcl N _ hb W hW 1 _ rfl, hcl N _ hb W hW 2 _ rfl, hcl N _ hb W hW 3 _ rfl, hcl N _ hb W hW 4 _ rfl⟩)
                have hbc : Below wy.heap.size wy wy.drew := (Below.refl _ wy).drew
                clear hy hgr hmk hyv hgc2 hM hMN hU ha hb hea heb hqne h92 h93 hcl hj0 HUC hU0 hK
                go_upto_region 33 with (fail)
                go_region_held3 (fun W => W.cell? ⟨gob, goff + K * 5 + 1, none⟩ = some (.int .i64 U) ∧ W.cell? ⟨g, M * 5, none⟩ = some (.int .i64 al.ta) ∧ W.cell? ⟨g, M * 5 + 1, none⟩ = some (.int .i64 al.fi) ∧ W.cell? ⟨g, M * 5 + 2, none⟩ = some (.int .i64 al.br) ∧ W.cell? ⟨g, M * 5 + 3, none⟩ = some (.slice aa al.en.length ac) ∧ W.cell? ⟨g, M * 5 + 4, none⟩ = some (.bool al.ed) ∧ W.cell? ⟨g, N * 5, none⟩ = some (.int .i64 bl.ta) ∧ W.cell? ⟨g, N * 5 + 1, none⟩ = some (.int .i64 bl.fi) ∧ W.cell? ⟨g, N * 5 + 2, none⟩ = some (.int .i64 bl.br) ∧ W.cell? ⟨g, N * 5 + 3, none⟩ = some (.slice ba bl.en.length bc) ∧ W.cell? ⟨g, N * 5 + 4, none⟩ = some (.bool bl.ed))
                  (first | exact HSS.out _ hbc | fail "keep")
                  (first | (go_at_call 8; ((with_reducible refine (HFL.out _ hbc).mono ?_); rintro e w9 ⟨rfl, hb9⟩; replace hbc := hbc.thru hb9)) | fail "arms")
                all_goals
                  have HBZ := Lib.hid (HBY.out.thru hbc)
                  clear hbc
                  go_wp2_with fail
                  go_roundg (L.length - (j + 1))
                  case measure => omega
                  case rel => exact ⟨j + 1, by omega, by omega, by go_num, HBZ.out⟩
            · have hjl : j = L.length := by omega
              subst hjl
              have hltz : ¬ (L.length : Int) < (L.length : Int) := by omega
              have HCX := Lib.hid (HCM.out wx)
              go_wp2_with (go_at_call 5; (with_reducible refine HCX.out.mono ?_); rintro e w11 ⟨rfl, hb11⟩; have HB11 := Lib.hid ((HT10.out.be.thru HBX.out).thru hb11); clear hb11)
              go_ret
              exact ⟨rfl, HB11.out⟩
end Go.Proofs.YtehbmnkbmgnkfaaGreatDoor

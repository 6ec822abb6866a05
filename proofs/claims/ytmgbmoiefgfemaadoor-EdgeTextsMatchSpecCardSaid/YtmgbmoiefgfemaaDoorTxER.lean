/- Text of the reference, of gets. -/
import Derived.Test.YtmgbmoiefgfemaaDoorChkG
import Derived.Test.YtmgbmoiefgfemaaDoorShfI
import Derived.Shelf.SlSortCmp.QuietGrown
import Derived.Lib.ItoaLen
namespace Go.Proofs.YtmgbmoiefgfemaaDoor
open Go.RowKit Go.Lib Go.Sort Go.Shelf

theorem itoa_any (n : Int) (w : World) (h0 : -9223372036854775808 ≤ n) (h1 : n ≤ 9223372036854775807) (ht : TabIs Tryd.prog w "internal/strconv.uint64pow10" .u64 pow10Tab) :
    Calls Tryd.prog 75 #[.int .i64 n] w fun e w' => e = .returned (.string ⟨(itoa n).toArray⟩) ∧ ∃ k os, w' = Sort.grow (w.drewN k) os := Any.strconv_Itoa Tryd.lays171 n h0 h1 w ht
theorem tab_below {w w' : World} {zs : List Int} (h : TabIs Tryd.prog w "internal/strconv.uint64pow10" .u64 zs) (hb : Below w.heap.size w w') : TabIs Tryd.prog w' "internal/strconv.uint64pow10" .u64 zs := by
  unfold TabIs World.var? at *
  cases hg : Tryd.prog.globalNamed "internal/strconv.uint64pow10" with
  | none => simp [hg] at h
  | some g =>
    simp only [hg, Option.bind_some] at h ⊢
    have hlt : g < w.heap.size := by
      rcases Nat.lt_or_ge g w.heap.size with h' | h'
      · exact h'
      · rw [Array.getElem?_eq_none h'] at h; simp at h
    rw [hb.block g hlt]
    exact h
theorem below_grow {w w' : World} (h : Below w.heap.size w w') (n : Nat) (os : Array Obj) : Below w.heap.size w (grow (w'.drewN n) os) :=
  ⟨h.os, h.tape, h.output, by show w.heap.size ≤ _; simp only [grow, Array.size_append]; exact Nat.le_trans h.size (Nat.le_add_right _ _), fun k hk => by
    rw [heap_grow_old (w'.drewN n) os (by exact Nat.lt_of_lt_of_le hk h.size)]
    exact h.block k hk⟩


theorem ret_txt {a b : ByteArray} {f : Value} (h : a = b) : Ending.returned (.tuple #[.string a, f]) = .returned (.tuple #[.string b, f]) := by rw [h]
theorem lt_of_blk {w : World} {b : Nat} {o : Obj} (h : w.heap[b]? = some o) : b < w.heap.size := (Array.getElem?_eq_some_iff.1 h).1
def txtR (l : List Gt) : ByteArray := if checkT l = 0 then txtB l l.length else ⟨#[]⟩
abbrev litT (x : Gt) : Obj := .cells #[.int .i64 x.ti, .string x.ca, .string x.ke] 60

set_option maxRecDepth 100000 in
set_option maxHeartbeats 4000000 in
theorem textRE_any (w : World) (l : List Gt) (v : Value) (hl : Sl w 3 encT v l) (hw : ∀ x, x ∈ l → WfT x) (ht : TabIs Tryd.prog w "internal/strconv.uint64pow10" .u64 pow10Tab) :
    Calls Tryd.prog 34 #[v] w fun e w' => e = .returned (.tuple #[.string (txtR l), .int .i64 (checkT l)]) ∧ Below w.heap.size w w' := by
  have HL := Lib.hid hl
  have HW := Lib.hid hw
  have HTB := Lib.hid ht
  obtain ⟨ao, cap, rfl, hcap, hmax, hnil, hel⟩ := hl
  unfold maxLen at hmax
  by_cases hbig : 1000 < l.length
  · have hck : checkT l = 2 := by simp [checkT, hbig]
    have ht2 : txtR l = ⟨#[]⟩ := by simp [txtR, hck]
    rw [hck, ht2]
    have hbz : (1000 : Int) < (l.length : Int) := by omega
    clear hel hck ht2 hw ht
    go_enter Tryd.func34, Tryd.ntmps34
    go_wp2_with fail
    go_ret2
    exact ⟨rfl, Below.refl _ _⟩
  have hbz : ¬ (1000 : Int) < (l.length : Int) := by omega
  have HF : Hid (checkT l = FF (gcAt l) l.length) := Lib.hid (by simp [checkT, hbig])
  have HX : Hid (txtR l = if checkT l = 0 then txtB l l.length else ⟨#[]⟩) := Lib.hid rfl
  obtain ⟨F, hF⟩ : ∃ F, F = checkT l := ⟨_, rfl⟩
  obtain ⟨X, hX⟩ : ∃ F, F = txtR l := ⟨_, rfl⟩
  rw [← hF, ← hX] at HX
  rw [← hF] at HF
  rw [← hF, ← hX]
  clear hF hX hw ht
  have HEL := Lib.hid hel
  clear hel
  have hlz : (l.length : Int) ≤ 1000 := by omega
  go_enter Tryd.func34, Tryd.ntmps34
  go_wp2_with fail
  go_loopg [4, 13] l.length (fun gg s4 s13 wr => ∃ kk : Nat, kk ≤ l.length ∧ l.length - kk ≤ gg ∧ s13 = .int .i64 kk ∧ s4 = .string (txtB l kk) ∧ Aside (∀ j, j < kk → gcAt l j = 0) ∧ Aside (Below w.heap.size w wr))
  case atStart => exact ⟨0, Nat.zero_le _, by omega, by go_num, rfl, fun j hj => absurd hj (Nat.not_lt_zero _), Below.refl _ _⟩
  case round =>
    obtain ⟨kk, hkk, hg, rfl, rfl, AZ, BW⟩ := hrel
    have HAZ := Lib.hid AZ.out
    have HBW := Lib.hid BW.out
    have hszw := HBW.out.size
    clear AZ BW
    have hsz := (text_len (l.take kk) (gcAt_good HAZ.out hkk)).1
    have hszO : (txtB l kk).size ≤ 356000 := by
      have : (l.take kk).length ≤ 1000 := by simp; omega
      unfold txtB
      rw [mk_size]
      omega
    by_cases hlt : kk < l.length
    · have hltz : (kk : Int) < (l.length : Int) := by omega
      obtain ⟨x, hx⟩ : ∃ x, l[kk]? = some x := ⟨l[kk], by simp [hlt]⟩
      obtain ⟨p, hp⟩ : ∃ x, l[kk - 1]? = some x := ⟨l[kk - 1]'(by omega), by simp⟩
      obtain ⟨b, off, rfl, hc⟩ := HEL.out kk x hx
      have hlt0 := World.block_lt_of_cell? w ⟨b, off + kk * 3 + 0, none⟩ (hc 0 _ rfl)
      have c0 : wr.cell? ⟨b, off + kk * 3, none⟩ = some (.int .i64 x.ti) := (HBW.out.cell (p := ⟨b, off + kk * 3 + 0, none⟩) hlt0).trans (hc 0 _ rfl)
      have c1 : wr.cell? ⟨b, off + kk * 3 + 1, none⟩ = some (.string x.ca) := (HBW.out.cell (p := ⟨b, off + kk * 3 + 1, none⟩) hlt0).trans (hc 1 _ rfl)
      have c2 : wr.cell? ⟨b, off + kk * 3 + 2, none⟩ = some (.string x.ke) := (HBW.out.cell (p := ⟨b, off + kk * 3 + 2, none⟩) hlt0).trans (hc 2 _ rfl)
      have hb5 := HBW.out.alloc hszw (litT x)
      have HN := Lib.hid (txtB_next hx)
      have HNM := Lib.hid (fun W => isName5_any x.ca W (HW.out x (List.mem_of_getElem? hx)).1)
      have HCG := Lib.hid (checkGet_any (wr.alloc (litT x)) l _ kk (nameB x.ca) x p (HL.out.below hb5 (Nat.le_refl _)) HW.out hx hp)
      have hga : gcAt l kk = gcOf x p kk := by rw [gcAt, getD_of hx, getD_of hp]
      rw [gcOf_gn, ← hga] at HCG
      have HS : Hid (gcAt l kk ≠ 0 → F = gcAt l kk) := Lib.hid (fun h => by rw [HF.out, FF_hit hlt HAZ.out h])
      have HGD : Hid (gcAt l kk = 0 → goodT x) := Lib.hid (fun h => gcOf_zero (by rw [← hga]; exact h))
      have HA1 : Hid (gcAt l kk = 0 → ∀ j, j < kk + 1 → gcAt l j = 0) := Lib.hid (fun h j hj => by
        by_cases e : j = kk
        · rw [e]; exact h
        · exact HAZ.out j (by omega))
      obtain ⟨C, hC⟩ : ∃ C, C = gcAt l kk := ⟨_, rfl⟩
      rw [← hC] at HCG HS HGD HA1
      obtain ⟨nb, hnb⟩ : ∃ C, C = nameB x.ca := ⟨_, rfl⟩
      rw [← hnb] at HNM HCG
      have HB5 := Lib.hid hb5
      have hbk : (wr.alloc (litT x)).heap[wr.heap.size]? = some (.cells #[.int .i64 x.ti, .string x.ca, .string x.ke] 60 (0, 0)) := block_new wr _
      have HBK := Lib.hid hbk
      have hl5 : wr.heap.size < (wr.alloc (litT x)).heap.size := by simp
      clear hx hp hc hga hC hnb hb5 hbk hsz
      go_upto_region 7 with (fail)
      obtain ⟨w5, hw5⟩ : ∃ w5, w5 = wr.alloc (litT x) := ⟨_, rfl⟩
      rw [← hw5] at HCG HB5 HBK hl5 ⊢
      obtain ⟨g, hgq⟩ : ∃ g, g = wr.heap.size := ⟨_, rfl⟩
      rw [← hgq] at HBK hl5 ⊢
      have k1 : w5.cell? ⟨g, 1, none⟩ = some (.string x.ca) := (cell_of_block (i := 1) HBK.out).trans rfl
      clear hw5 c0 c1 c2 hgq
      go_wp2_with fail
      refine (HNM.out _).mono ?_
      rintro e w6 ⟨rfl, rfl⟩
      go_wp2_with fail
      refine HCG.out.mono ?_
      rintro e w6 ⟨rfl, hb6⟩
      have HB6 := Lib.hid (HB5.out.trans (hb6.mono HB5.out.size))
      have HBK6 := Lib.hid ((hb6.block g hl5).trans HBK.out)
      have hl6 := lt_of_blk HBK6.out
      clear hb6 k1 HBK
      by_cases hC0 : C = 0
      case neg =>
        have hFC : F = C := HS.out hC0
        subst hFC
        have HXN : Hid (⟨#[]⟩ = X) := Lib.hid (by rw [HX.out, if_neg hC0])
        go_wp2_with fail
        go_ret2
        exact ⟨ret_txt HXN.out, HB6.out⟩
      have hgx := HGD.out hC0
      have HA2 := Lib.hid (HA1.out hC0)
      subst hC0
      obtain ⟨⟨ht1, ht2⟩, hnx, hkx⟩ := hgx
      have hszN := (name_size hnx).2
      have hszK := (reqB_true hkx).2.1
      obtain ⟨O, hO⟩ : ∃ O, O = txtB l kk := ⟨_, rfl⟩
      rw [← hO] at HN hszO ⊢
      obtain ⟨ti, ca, ke⟩ := x
      simp only at HN hszN hszK ht1 ht2 HBK6
      have hA := itoa_length_le ti (by omega) (by omega)
      obtain ⟨A, hAe⟩ : ∃ A : ByteArray, A = ⟨(itoa ti).toArray⟩ := ⟨_, rfl⟩
      have hA2 : A.size ≤ 21 := by rw [hAe, mk_size]; exact hA
      rw [← hAe] at HN
      have HI1 : Hid (∀ n os, Calls Tryd.prog 75 #[.int .i64 ti] (grow (w6.drewN n) os) fun e w' => e = .returned (.string A) ∧ ∃ k os', w' = grow ((grow (w6.drewN n) os).drewN k) os') := Lib.hid (fun n os => by rw [hAe]; exact itoa_any ti _ (by omega) (by omega) (tab_below HTB.out (below_grow HB6.out n os)))
      have d0 : ∀ n os, (grow (w6.drewN n) os).cell? ⟨g, 0, none⟩ = some (.int .i64 ti) := fun n os => cell_grown (a := ⟨g, 0, none⟩) hl6 ((cell_of_block (i := 0) HBK6.out).trans rfl) n os
      have d1 : ∀ n os, (grow (w6.drewN n) os).cell? ⟨g, 1, none⟩ = some (.string ca) := fun n os => cell_grown (a := ⟨g, 1, none⟩) hl6 ((cell_of_block (i := 1) HBK6.out).trans rfl) n os
      have d2 : ∀ n os, (grow (w6.drewN n) os).cell? ⟨g, 2, none⟩ = some (.string ke) := fun n os => cell_grown (a := ⟨g, 2, none⟩) hl6 ((cell_of_block (i := 2) HBK6.out).trans rfl) n os
      have q0 : ¬ 9223372036854775807 < A.size + 1 := by omega
      have q1 : ¬ 9223372036854775807 < A.size + 1 + ca.size := by omega
      have q2 : ¬ 9223372036854775807 < A.size + 1 + ca.size + 1 := by omega
      have q3 : ¬ 9223372036854775807 < A.size + 1 + ca.size + 1 + ke.size := by omega
      have q4 : ¬ 9223372036854775807 < A.size + 1 + ca.size + 1 + ke.size + 1 := by omega
      have q5 : ¬ 9223372036854775807 < O.size + (A.size + 1 + ca.size + 1 + ke.size + 1) := by omega
      have mixed : Tryd.prog.follows .mixedOrders = true := by kernel_rfl
      clear hO hAe hA
      go_upto_region 10 with (fail)
      go_quiet_grown (first | (go_at_call 75; exact Calls.grown_of (HI1.out _ _)))
      have HBZ := Lib.hid (below_grow HB6.out nq osq)
      clear d0 d1 d2 q0 q1 q2 q3 q4 q5 HB6 HBK6 hl6
      generalize grow (w6.drewN nq) osq = w7 at HBZ ⊢
      rw [HN.out]
      go_wp2_with fail
      go_roundg (l.length - (kk + 1))
      case measure => omega
      case rel => exact ⟨kk + 1, by omega, by omega, by go_num, rfl, HA2.out, HBZ.out⟩
    · obtain rfl : kk = l.length := by omega
      have hF0 : F = 0 := by rw [HF.out, FF_zero HAZ.out]
      subst hF0
      have HXN : Hid (txtB l l.length = X) := Lib.hid (by rw [HX.out, if_pos rfl])
      obtain ⟨O, hO⟩ : ∃ O, O = txtB l l.length := ⟨_, rfl⟩
      rw [← hO] at HXN hszO ⊢
      have hOz : ¬ (400000 : Int) < (O.size : Int) := by omega
      clear hO hsz
      go_wp2_with fail
      go_ret2
      exact ⟨ret_txt HXN.out, HBW.out⟩
end Go.Proofs.YtmgbmoiefgfemaaDoor

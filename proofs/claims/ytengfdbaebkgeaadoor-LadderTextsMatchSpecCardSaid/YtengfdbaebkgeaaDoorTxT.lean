/- Text of the program and of the reference. -/
import Derived.Test.YtengfdbaebkgeaaDoorLibL
import Derived.Test.YtengfdbaebkgeaaDoorTxtL
import Derived.Test.YtengfdbaebkgeaaDoorRen
import Derived.Test.YtengfdbaebkgeaaDoorRren
import Derived.Shelf.SlSortCmp.QuietGrown
import Derived.Lib.ItoaLen
namespace Go.Proofs.YtengfdbaebkgeaaDoor
open Go.RowKit Go.Lib Go.Sort

theorem tab_below {w w' : World} {zs : List Int} (h : TabIs Tryd.prog w "internal/strconv.uint64pow10" .u64 zs) (hb : Below w.heap.size w w') : TabIs Tryd.prog w' "internal/strconv.uint64pow10" .u64 zs := by
  unfold TabIs World.var? at *
  cases hg : Tryd.prog.globalNamed "internal/strconv.uint64pow10" with
  | none => simp [hg] at h
  | some g =>
    simp only [hg, Option.bind_some] at h ⊢
    have hlt : g < w.heap.size := by
      rcases Nat.lt_or_ge g w.heap.size with h' | h'
      · exact h'
      · rw [Array.getElem?_eq_none h'] at h; simp at h
    rw [hb.block g hlt]
    exact h
theorem below_grow {w w' : World} (h : Below w.heap.size w w') (n : Nat) (os : Array Obj) : Below w.heap.size w (grow (w'.drewN n) os) :=
  ⟨h.os, h.tape, h.output, by show w.heap.size ≤ _; simp only [grow, Array.size_append]; exact Nat.le_trans h.size (Nat.le_add_right _ _), fun k hk => by
    rw [heap_grow_old (w'.drewN n) os (by exact Nat.lt_of_lt_of_le hk h.size)]
    exact h.block k hk⟩

/-- The text of the first n. -/
def txtB (l : List Rng) (n : Nat) : ByteArray := ⟨(textL (l.take n)).toArray⟩
theorem app_data (a b : ByteArray) : (a ++ b).data.toList = a.data.toList ++ b.data.toList := by simp
theorem txtB_next {l : List Rng} {n : Nat} {x : Rng} (hx : l[n]? = some x) :
    txtB l n ++ (((((((x.na ++ ⟨#[32]⟩) ++ ⟨(itoa x.ra).toArray⟩) ++ ⟨#[32]⟩) ++ ⟨(itoa x.he).toArray⟩) ++ ⟨#[32]⟩) ++ ⟨(itoa x.qu).toArray⟩) ++ ⟨#[10]⟩) = txtB l (n + 1) := by
  apply bytes_ext
  have e : textL (l.take (n + 1)) = textL (l.take n) ++ (lineL x ++ [10]) := by
    rw [List.take_add_one, hx]
    simp [textL]
  show _ = (textL (l.take (n + 1))).toArray.toList
  rw [List.toList_toArray, e]
  simp only [app_data, txtB, lineL]
  simp

set_option maxRecDepth 100000 in
set_option maxHeartbeats 4000000 in
theorem text_any (w : World) (l : List Rng) (v : Value) (hl : Sl w 4 encR v l) (hw : ∀ x, x ∈ l → WfR x) (ht : TabIs Tryd.prog w "internal/strconv.uint64pow10" .u64 pow10Tab) :
    Calls Tryd.prog 9 #[v] w fun e w' => e = .returned (.tuple #[.string (if checkR l = 0 then txtB l l.length else ⟨#[]⟩), .int .i64 (checkR l)]) ∧ Below w.heap.size w w' := by
  have HC := Lib.hid (checkRen_any w l v hl hw)
  by_cases hck : checkR l = 0
  case neg =>
    rw [if_neg hck]
    generalize checkR l = C at hck HC ⊢
    obtain ⟨ao, cap, rfl, _⟩ := hl
    go_enter Tryd.func9, Tryd.ntmps9
    go_wp2_with fail
    refine HC.out.mono ?_
    rintro e w1 ⟨rfl, hb1⟩
    have HB1 := Lib.hid hb1
    clear hb1
    go_wp2_with fail
    go_ret2
    exact ⟨rfl, HB1.out⟩
  rw [if_pos hck, hck]
  rw [hck] at HC
  obtain ⟨h100, hgood, _, _⟩ := (checkR_iff l).1 hck
  have HG := Lib.hid hgood
  have HTB := Lib.hid ht
  obtain ⟨R, hR⟩ : ∃ R, R = txtB l l.length := ⟨_, rfl⟩
  rw [← hR]
  have HR := Lib.hid hR
  clear hR hgood hck hw ht
  obtain ⟨ao, cap, rfl, hcap, hmax, hnil, hel⟩ := hl
  unfold maxLen at hmax
  have HEL := Lib.hid hel
  clear hel
  have hlz : (l.length : Int) ≤ 100 := by omega
  go_enter Tryd.func9, Tryd.ntmps9
  go_wp2_with fail
  refine HC.out.mono ?_
  rintro e w1 ⟨rfl, hb1⟩
  have HB1 := Lib.hid hb1
  clear hb1 HC
  go_wp2_with fail
  go_loopg [5, 15] l.length (fun gg s5 s15 wr => ∃ kk : Nat, kk ≤ l.length ∧ l.length - kk ≤ gg ∧ s15 = .int .i64 kk ∧ s5 = .string (txtB l kk) ∧ Aside (Below w.heap.size w wr))
  case atStart => exact ⟨0, Nat.zero_le _, by omega, by go_num, rfl, HB1.out⟩
  case round =>
    obtain ⟨kk, hkk, hg, rfl, rfl, BW⟩ := hrel
    have HBW := Lib.hid BW.out
    have hszw := HBW.out.size
    clear BW
    by_cases hlt : kk < l.length
    · have hltz : (kk : Int) < (l.length : Int) := by omega
      obtain ⟨x, hx⟩ : ∃ x, l[kk]? = some x := ⟨l[kk], by simp [hlt]⟩
      obtain ⟨b, off, rfl, hc⟩ := HEL.out kk x hx
      have hlt0 := World.block_lt_of_cell? w ⟨b, off + kk * 4 + 0, none⟩ (hc 0 _ rfl)
      have c0 : wr.cell? ⟨b, off + kk * 4, none⟩ = some (.string x.na) := (HBW.out.cell (p := ⟨b, off + kk * 4 + 0, none⟩) hlt0).trans (hc 0 _ rfl)
      have c1 : wr.cell? ⟨b, off + kk * 4 + 1, none⟩ = some (.int .i64 x.ra) := (HBW.out.cell (p := ⟨b, off + kk * 4 + 1, none⟩) hlt0).trans (hc 1 _ rfl)
      have c2 : wr.cell? ⟨b, off + kk * 4 + 2, none⟩ = some (.int .i64 x.he) := (HBW.out.cell (p := ⟨b, off + kk * 4 + 2, none⟩) hlt0).trans (hc 2 _ rfl)
      have c3 : wr.cell? ⟨b, off + kk * 4 + 3, none⟩ = some (.int .i64 x.qu) := (HBW.out.cell (p := ⟨b, off + kk * 4 + 3, none⟩) hlt0).trans (hc 3 _ rfl)
      have HN := Lib.hid (txtB_next hx)
      have hgx := HG.out x (List.mem_of_getElem? hx)
      have hsz := (text_len (l.take kk) (fun y hy => HG.out y (List.mem_of_mem_take hy))).1
      have hszO : (txtB l kk).size ≤ 6600 := by
        have : (l.take kk).length ≤ 100 := by simp; omega
        unfold txtB
        rw [mk_size]
        omega
      have hszN := (name_size hgx.1).2
      obtain ⟨_, ⟨hr1, hr2⟩, ⟨hh1, hh2⟩, ⟨hq1, hq2⟩⟩ := hgx
      have HI : Hid (∀ (n : Int) (W : World), Below w.heap.size w W → 0 ≤ n → n ≤ 1000000000 → Calls Tryd.prog 18 #[.int .i64 n] W fun e w' => e = .returned (.string ⟨(itoa n).toArray⟩) ∧ ∃ k os, w' = grow (W.drewN k) os) := Lib.hid (fun n W hb h0 h1 => itoa_any n W (by omega) (by omega) (tab_below HTB.out hb))
      obtain ⟨O, hO⟩ : ∃ O, O = txtB l kk := ⟨_, rfl⟩
      rw [← hO] at HN hszO ⊢
      obtain ⟨a, ra, he, qu⟩ := x
      simp only at c0 c1 c2 c3 HN hszN hr1 hr2 hh1 hh2 hq1 hq2
      have hA := itoa_length_le ra (by omega) (by omega)
      have hB := itoa_length_le he (by omega) (by omega)
      have hC := itoa_length_le qu (by omega) (by omega)
      obtain ⟨A, hAe⟩ : ∃ A : ByteArray, A = ⟨(itoa ra).toArray⟩ := ⟨_, rfl⟩
      obtain ⟨B, hBe⟩ : ∃ A : ByteArray, A = ⟨(itoa he).toArray⟩ := ⟨_, rfl⟩
      obtain ⟨C, hCe⟩ : ∃ A : ByteArray, A = ⟨(itoa qu).toArray⟩ := ⟨_, rfl⟩
      have hA2 : A.size ≤ 21 := by rw [hAe, mk_size]; exact hA
      have hB2 : B.size ≤ 21 := by rw [hBe, mk_size]; exact hB
      have hC2 : C.size ≤ 21 := by rw [hCe, mk_size]; exact hC
      rw [← hAe, ← hBe, ← hCe] at HN
      have hb5 := HBW.out.alloc hszw (.cells #[.string a, .int .i64 ra, .int .i64 he, .int .i64 qu] 28)
      have HI1 : Hid (∀ n os, Calls Tryd.prog 18 #[.int .i64 ra] (grow ((wr.alloc (.cells #[.string a, .int .i64 ra, .int .i64 he, .int .i64 qu] 28)).drewN n) os) fun e w' => e = .returned (.string A) ∧ ∃ k os', w' = grow ((grow ((wr.alloc (.cells #[.string a, .int .i64 ra, .int .i64 he, .int .i64 qu] 28)).drewN n) os).drewN k) os') := Lib.hid (fun n os => by rw [hAe]; exact HI.out ra _ (below_grow hb5 n os) (by omega) (by omega))
      have HI2 : Hid (∀ n os, Calls Tryd.prog 18 #[.int .i64 he] (grow ((wr.alloc (.cells #[.string a, .int .i64 ra, .int .i64 he, .int .i64 qu] 28)).drewN n) os) fun e w' => e = .returned (.string B) ∧ ∃ k os', w' = grow ((grow ((wr.alloc (.cells #[.string a, .int .i64 ra, .int .i64 he, .int .i64 qu] 28)).drewN n) os).drewN k) os') := Lib.hid (fun n os => by rw [hBe]; exact HI.out he _ (below_grow hb5 n os) (by omega) (by omega))
      have HI3 : Hid (∀ n os, Calls Tryd.prog 18 #[.int .i64 qu] (grow ((wr.alloc (.cells #[.string a, .int .i64 ra, .int .i64 he, .int .i64 qu] 28)).drewN n) os) fun e w' => e = .returned (.string C) ∧ ∃ k os', w' = grow ((grow ((wr.alloc (.cells #[.string a, .int .i64 ra, .int .i64 he, .int .i64 qu] 28)).drewN n) os).drewN k) os') := Lib.hid (fun n os => by rw [hCe]; exact HI.out qu _ (below_grow hb5 n os) (by omega) (by omega))
      have HBX := Lib.hid hb5
      have hbk : (wr.alloc (.cells #[.string a, .int .i64 ra, .int .i64 he, .int .i64 qu] 28)).heap[wr.heap.size]? = some (.cells #[.string a, .int .i64 ra, .int .i64 he, .int .i64 qu] 28 (0, 0)) := block_new wr _
      have HBK := Lib.hid hbk
      clear hx hc hO hAe hBe hCe hb5 hbk hA hB hC HI hsz
      go_upto_region 8 with (fail)
      obtain ⟨w5, hw5⟩ : ∃ w5, w5 = wr.alloc (.cells #[.string a, .int .i64 ra, .int .i64 he, .int .i64 qu] 28) := ⟨_, rfl⟩
      rw [← hw5] at HI1 HI2 HI3 HBX HBK ⊢
      have hl5 : wr.heap.size < w5.heap.size := by rw [hw5]; simp
      obtain ⟨g, hgq⟩ : ∃ g, g = wr.heap.size := ⟨_, rfl⟩
      rw [← hgq] at HBK hl5 ⊢
      clear hw5 c0 c1 c2 c3 hgq
      have d0 : ∀ n os, (grow (w5.drewN n) os).cell? ⟨g, 0, none⟩ = some (.string a) := fun n os => cell_grown (a := ⟨g, 0, none⟩) hl5 ((cell_of_block (i := 0) HBK.out).trans rfl) n os
      have d1 : ∀ n os, (grow (w5.drewN n) os).cell? ⟨g, 1, none⟩ = some (.int .i64 ra) := fun n os => cell_grown (a := ⟨g, 1, none⟩) hl5 ((cell_of_block (i := 1) HBK.out).trans rfl) n os
      have d2 : ∀ n os, (grow (w5.drewN n) os).cell? ⟨g, 2, none⟩ = some (.int .i64 he) := fun n os => cell_grown (a := ⟨g, 2, none⟩) hl5 ((cell_of_block (i := 2) HBK.out).trans rfl) n os
      have d3 : ∀ n os, (grow (w5.drewN n) os).cell? ⟨g, 3, none⟩ = some (.int .i64 qu) := fun n os => cell_grown (a := ⟨g, 3, none⟩) hl5 ((cell_of_block (i := 3) HBK.out).trans rfl) n os
      have q0 : ¬ 9223372036854775807 < a.size + 1 := by omega
      have q1 : ¬ 9223372036854775807 < a.size + 1 + A.size := by omega
      have q2 : ¬ 9223372036854775807 < a.size + 1 + A.size + 1 := by omega
      have q3 : ¬ 9223372036854775807 < a.size + 1 + A.size + 1 + B.size := by omega
      have q4 : ¬ 9223372036854775807 < a.size + 1 + A.size + 1 + B.size + 1 := by omega
      have q5 : ¬ 9223372036854775807 < a.size + 1 + A.size + 1 + B.size + 1 + C.size := by omega
      have q6 : ¬ 9223372036854775807 < a.size + 1 + A.size + 1 + B.size + 1 + C.size + 1 := by omega
      have q7 : ¬ 9223372036854775807 < O.size + (a.size + 1 + A.size + 1 + B.size + 1 + C.size + 1) := by omega
      have mixed : Tryd.prog.follows .mixedOrders = true := by kernel_rfl
      go_quiet_grown (first | (go_at_call 18; first | exact Calls.grown_of (HI1.out _ _) | exact Calls.grown_of (HI2.out _ _) | exact Calls.grown_of (HI3.out _ _)))
      have HBZ := Lib.hid (below_grow HBX.out nq osq)
      clear d0 d1 d2 d3 q0 q1 q2 q3 q4 q5 q6 q7 HBX
      generalize grow (w5.drewN nq) osq = w6 at HBZ ⊢
      rw [HN.out]
      go_wp2_with fail
      go_roundg (l.length - (kk + 1))
      case measure => omega
      case rel => exact ⟨kk + 1, by omega, by omega, by go_num, rfl, HBZ.out⟩
    · obtain rfl : kk = l.length := by omega
      rw [← HR.out]
      go_wp2_with fail
      go_ret2
      exact ⟨rfl, HBW.out⟩

set_option maxRecDepth 100000 in
set_option maxHeartbeats 4000000 in
theorem textR_any (w : World) (l : List Rng) (v : Value) (hl : Sl w 4 encR v l) (hw : ∀ x, x ∈ l → WfR x) (ht : TabIs Tryd.prog w "internal/strconv.uint64pow10" .u64 pow10Tab) :
    Calls Tryd.prog 10 #[v] w fun e w' => e = .returned (.tuple #[.string (if checkR l = 0 then txtB l l.length else ⟨#[]⟩), .int .i64 (checkR l)]) ∧ Below w.heap.size w w' := by
  have HC := Lib.hid (checkRenR_any w l v hl hw)
  by_cases hck : checkR l = 0
  case neg =>
    rw [if_neg hck]
    generalize checkR l = C at hck HC ⊢
    obtain ⟨ao, cap, rfl, _⟩ := hl
    go_enter Tryd.func10, Tryd.ntmps10
    go_wp2_with fail
    refine HC.out.mono ?_
    rintro e w1 ⟨rfl, hb1⟩
    have HB1 := Lib.hid hb1
    clear hb1
    go_wp2_with fail
    go_ret2
    exact ⟨rfl, HB1.out⟩
  rw [if_pos hck, hck]
  rw [hck] at HC
  obtain ⟨h100, hgood, _, _⟩ := (checkR_iff l).1 hck
  have HG := Lib.hid hgood
  have HTB := Lib.hid ht
  obtain ⟨R, hR⟩ : ∃ R, R = txtB l l.length := ⟨_, rfl⟩
  rw [← hR]
  have HR := Lib.hid hR
  clear hR hgood hck hw ht
  obtain ⟨ao, cap, rfl, hcap, hmax, hnil, hel⟩ := hl
  unfold maxLen at hmax
  have HEL := Lib.hid hel
  clear hel
  have hlz : (l.length : Int) ≤ 100 := by omega
  go_enter Tryd.func10, Tryd.ntmps10
  go_wp2_with fail
  refine HC.out.mono ?_
  rintro e w1 ⟨rfl, hb1⟩
  have HB1 := Lib.hid hb1
  clear hb1 HC
  go_wp2_with fail
  go_loopg [5, 15] l.length (fun gg s5 s15 wr => ∃ kk : Nat, kk ≤ l.length ∧ l.length - kk ≤ gg ∧ s15 = .int .i64 kk ∧ s5 = .string (txtB l kk) ∧ Aside (Below w.heap.size w wr))
  case atStart => exact ⟨0, Nat.zero_le _, by omega, by go_num, rfl, HB1.out⟩
  case round =>
    obtain ⟨kk, hkk, hg, rfl, rfl, BW⟩ := hrel
    have HBW := Lib.hid BW.out
    have hszw := HBW.out.size
    clear BW
    by_cases hlt : kk < l.length
    · have hltz : (kk : Int) < (l.length : Int) := by omega
      obtain ⟨x, hx⟩ : ∃ x, l[kk]? = some x := ⟨l[kk], by simp [hlt]⟩
      obtain ⟨b, off, rfl, hc⟩ := HEL.out kk x hx
      have hlt0 := World.block_lt_of_cell? w ⟨b, off + kk * 4 + 0, none⟩ (hc 0 _ rfl)
      have c0 : wr.cell? ⟨b, off + kk * 4, none⟩ = some (.string x.na) := (HBW.out.cell (p := ⟨b, off + kk * 4 + 0, none⟩) hlt0).trans (hc 0 _ rfl)
      have c1 : wr.cell? ⟨b, off + kk * 4 + 1, none⟩ = some (.int .i64 x.ra) := (HBW.out.cell (p := ⟨b, off + kk * 4 + 1, none⟩) hlt0).trans (hc 1 _ rfl)
      have c2 : wr.cell? ⟨b, off + kk * 4 + 2, none⟩ = some (.int .i64 x.he) := (HBW.out.cell (p := ⟨b, off + kk * 4 + 2, none⟩) hlt0).trans (hc 2 _ rfl)
      have c3 : wr.cell? ⟨b, off + kk * 4 + 3, none⟩ = some (.int .i64 x.qu) := (HBW.out.cell (p := ⟨b, off + kk * 4 + 3, none⟩) hlt0).trans (hc 3 _ rfl)
      have HN := Lib.hid (txtB_next hx)
      have hgx := HG.out x (List.mem_of_getElem? hx)
      have hsz := (text_len (l.take kk) (fun y hy => HG.out y (List.mem_of_mem_take hy))).1
      have hszO : (txtB l kk).size ≤ 6600 := by
        have : (l.take kk).length ≤ 100 := by simp; omega
        unfold txtB
        rw [mk_size]
        omega
      have hszN := (name_size hgx.1).2
      obtain ⟨_, ⟨hr1, hr2⟩, ⟨hh1, hh2⟩, ⟨hq1, hq2⟩⟩ := hgx
      have HI : Hid (∀ (n : Int) (W : World), Below w.heap.size w W → 0 ≤ n → n ≤ 1000000000 → Calls Tryd.prog 18 #[.int .i64 n] W fun e w' => e = .returned (.string ⟨(itoa n).toArray⟩) ∧ ∃ k os, w' = grow (W.drewN k) os) := Lib.hid (fun n W hb h0 h1 => itoa_any n W (by omega) (by omega) (tab_below HTB.out hb))
      obtain ⟨O, hO⟩ : ∃ O, O = txtB l kk := ⟨_, rfl⟩
      rw [← hO] at HN hszO ⊢
      obtain ⟨a, ra, he, qu⟩ := x
      simp only at c0 c1 c2 c3 HN hszN hr1 hr2 hh1 hh2 hq1 hq2
      have hA := itoa_length_le ra (by omega) (by omega)
      have hB := itoa_length_le he (by omega) (by omega)
      have hC := itoa_length_le qu (by omega) (by omega)
      obtain ⟨A, hAe⟩ : ∃ A : ByteArray, A = ⟨(itoa ra).toArray⟩ := ⟨_, rfl⟩
      obtain ⟨B, hBe⟩ : ∃ A : ByteArray, A = ⟨(itoa he).toArray⟩ := ⟨_, rfl⟩
      obtain ⟨C, hCe⟩ : ∃ A : ByteArray, A = ⟨(itoa qu).toArray⟩ := ⟨_, rfl⟩
      have hA2 : A.size ≤ 21 := by rw [hAe, mk_size]; exact hA
      have hB2 : B.size ≤ 21 := by rw [hBe, mk_size]; exact hB
      have hC2 : C.size ≤ 21 := by rw [hCe, mk_size]; exact hC
      rw [← hAe, ← hBe, ← hCe] at HN
      have hb5 := HBW.out.alloc hszw (.cells #[.string a, .int .i64 ra, .int .i64 he, .int .i64 qu] 28)
      have HI1 : Hid (∀ n os, Calls Tryd.prog 18 #[.int .i64 ra] (grow ((wr.alloc (.cells #[.string a, .int .i64 ra, .int .i64 he, .int .i64 qu] 28)).drewN n) os) fun e w' => e = .returned (.string A) ∧ ∃ k os', w' = grow ((grow ((wr.alloc (.cells #[.string a, .int .i64 ra, .int .i64 he, .int .i64 qu] 28)).drewN n) os).drewN k) os') := Lib.hid (fun n os => by rw [hAe]; exact HI.out ra _ (below_grow hb5 n os) (by omega) (by omega))
      have HI2 : Hid (∀ n os, Calls Tryd.prog 18 #[.int .i64 he] (grow ((wr.alloc (.cells #[.string a, .int .i64 ra, .int .i64 he, .int .i64 qu] 28)).drewN n) os) fun e w' => e = .returned (.string B) ∧ ∃ k os', w' = grow ((grow ((wr.alloc (.cells #[.string a, .int .i64 ra, .int .i64 he, .int .i64 qu] 28)).drewN n) os).drewN k) os') := Lib.hid (fun n os => by rw [hBe]; exact HI.out he _ (below_grow hb5 n os) (by omega) (by omega))
      have HI3 : Hid (∀ n os, Calls Tryd.prog 18 #[.int .i64 qu] (grow ((wr.alloc (.cells #[.string a, .int .i64 ra, .int .i64 he, .int .i64 qu] 28)).drewN n) os) fun e w' => e = .returned (.string C) ∧ ∃ k os', w' = grow ((grow ((wr.alloc (.cells #[.string a, .int .i64 ra, .int .i64 he, .int .i64 qu] 28)).drewN n) os).drewN k) os') := Lib.hid (fun n os => by rw [hCe]; exact HI.out qu _ (below_grow hb5 n os) (by omega) (by omega))
      have HBX := Lib.hid hb5
      have hbk : (wr.alloc (.cells #[.string a, .int .i64 ra, .int .i64 he, .int .i64 qu] 28)).heap[wr.heap.size]? = some (.cells #[.string a, .int .i64 ra, .int .i64 he, .int .i64 qu] 28 (0, 0)) := block_new wr _
      have HBK := Lib.hid hbk
      clear hx hc hO hAe hBe hCe hb5 hbk hA hB hC HI hsz
      go_upto_region 8 with (fail)
      obtain ⟨w5, hw5⟩ : ∃ w5, w5 = wr.alloc (.cells #[.string a, .int .i64 ra, .int .i64 he, .int .i64 qu] 28) := ⟨_, rfl⟩
      rw [← hw5] at HI1 HI2 HI3 HBX HBK ⊢
      have hl5 : wr.heap.size < w5.heap.size := by rw [hw5]; simp
      obtain ⟨g, hgq⟩ : ∃ g, g = wr.heap.size := ⟨_, rfl⟩
      rw [← hgq] at HBK hl5 ⊢
      clear hw5 c0 c1 c2 c3 hgq
      have d0 : ∀ n os, (grow (w5.drewN n) os).cell? ⟨g, 0, none⟩ = some (.string a) := fun n os => cell_grown (a := ⟨g, 0, none⟩) hl5 ((cell_of_block (i := 0) HBK.out).trans rfl) n os
      have d1 : ∀ n os, (grow (w5.drewN n) os).cell? ⟨g, 1, none⟩ = some (.int .i64 ra) := fun n os => cell_grown (a := ⟨g, 1, none⟩) hl5 ((cell_of_block (i := 1) HBK.out).trans rfl) n os
      have d2 : ∀ n os, (grow (w5.drewN n) os).cell? ⟨g, 2, none⟩ = some (.int .i64 he) := fun n os => cell_grown (a := ⟨g, 2, none⟩) hl5 ((cell_of_block (i := 2) HBK.out).trans rfl) n os
      have d3 : ∀ n os, (grow (w5.drewN n) os).cell? ⟨g, 3, none⟩ = some (.int .i64 qu) := fun n os => cell_grown (a := ⟨g, 3, none⟩) hl5 ((cell_of_block (i := 3) HBK.out).trans rfl) n os
      have q0 : ¬ 9223372036854775807 < a.size + 1 := by omega
      have q1 : ¬ 9223372036854775807 < a.size + 1 + A.size := by omega
      have q2 : ¬ 9223372036854775807 < a.size + 1 + A.size + 1 := by omega
      have q3 : ¬ 9223372036854775807 < a.size + 1 + A.size + 1 + B.size := by omega
      have q4 : ¬ 9223372036854775807 < a.size + 1 + A.size + 1 + B.size + 1 := by omega
      have q5 : ¬ 9223372036854775807 < a.size + 1 + A.size + 1 + B.size + 1 + C.size := by omega
      have q6 : ¬ 9223372036854775807 < a.size + 1 + A.size + 1 + B.size + 1 + C.size + 1 := by omega
      have q7 : ¬ 9223372036854775807 < O.size + (a.size + 1 + A.size + 1 + B.size + 1 + C.size + 1) := by omega
      have mixed : Tryd.prog.follows .mixedOrders = true := by kernel_rfl
      go_quiet_grown (first | (go_at_call 18; first | exact Calls.grown_of (HI1.out _ _) | exact Calls.grown_of (HI2.out _ _) | exact Calls.grown_of (HI3.out _ _)))
      have HBZ := Lib.hid (below_grow HBX.out nq osq)
      clear d0 d1 d2 d3 q0 q1 q2 q3 q4 q5 q6 q7 HBX
      generalize grow (w5.drewN nq) osq = w6 at HBZ ⊢
      rw [HN.out]
      go_wp2_with fail
      go_roundg (l.length - (kk + 1))
      case measure => omega
      case rel => exact ⟨kk + 1, by omega, by omega, by go_num, rfl, HBZ.out⟩
    · obtain rfl : kk = l.length := by omega
      rw [← HR.out]
      go_wp2_with fail
      go_ret2
      exact ⟨rfl, HBW.out⟩
end Go.Proofs.YtengfdbaebkgeaaDoor

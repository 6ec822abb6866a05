/- Text of the program, of gets. -/
import Derived.Test.YtmgbmoiefgfemaaDoorBuiE
import Derived.Test.YtmgbmoiefgfemaaDoorLstF
namespace Go.Proofs.YtmgbmoiefgfemaaDoor
open Go.RowKit Go.Lib Go.Sort Go.Shelf

set_option maxRecDepth 100000 in
set_option maxHeartbeats 8000000 in
theorem textE_any (w : World) (l : List Gt) (v : Value) (hl : Sl w 3 encT v l) (hw : ∀ x, x ∈ l → WfT x) (ht : TabIs Tryd.prog w "internal/strconv.uint64pow10" .u64 pow10Tab) :
    Calls Tryd.prog 33 #[v] w fun e w' => e = .returned (.tuple #[.string (txtR l), .int .i64 (checkT l)]) ∧ Below w.heap.size w w' := by
  have HC := Lib.hid (listFault_any w l v hl hw)
  have HTB := Lib.hid ht
  by_cases hck : checkT l = 0
  case neg =>
    have ht2 : txtR l = ⟨#[]⟩ := by simp [txtR, hck]
    rw [ht2]
    generalize checkT l = C at hck HC ⊢
    obtain ⟨ao, cap, rfl, _⟩ := hl
    clear ht2 ht hw
    go_enter Tryd.func33, Tryd.ntmps33
    go_wp2_with fail
    refine HC.out.mono ?_
    rintro e w1 ⟨rfl, hb1⟩
    have HB1 := Lib.hid hb1
    clear hb1
    go_wp2_with fail
    go_ret2
    exact ⟨rfl, HB1.out⟩
  have HX : Hid (txtR l = txtB l l.length) := Lib.hid (by simp [txtR, hck])
  rw [hck] at HC ⊢
  obtain ⟨h1000, hgood⟩ := checkT_zero hck
  have HG := Lib.hid hgood
  obtain ⟨X, hX⟩ : ∃ R, R = txtR l := ⟨_, rfl⟩
  rw [← hX] at HX ⊢
  clear hX hgood hck hw ht
  obtain ⟨ao, cap, rfl, hcap, hmax, hnil, hel⟩ := hl
  unfold maxLen at hmax
  have HEL := Lib.hid hel
  clear hel
  have hlz : (l.length : Int) ≤ 1000 := by omega
  go_enter Tryd.func33, Tryd.ntmps33
  go_wp2_with fail
  refine HC.out.mono ?_
  rintro e w1 ⟨rfl, hb1⟩
  have HB1 := Lib.hid hb1
  have HB2 := Lib.hid (hb1.alloc hb1.size (.cells #[.pointer none, .slice none 0 0] 105))
  have HU := Lib.hid (Bui.start w1)
  clear hb1 HC
  go_wp2_with fail
  obtain ⟨w2, hw2⟩ : ∃ w2, w2 = w1.alloc (.cells #[.pointer none, .slice none 0 0] 105) := ⟨_, rfl⟩
  rw [← hw2] at HB2 HU ⊢
  obtain ⟨b, hb⟩ : ∃ b, b = w1.heap.size := ⟨_, rfl⟩
  rw [← hb] at HU ⊢
  have hwb : w.heap.size ≤ b := by rw [hb]; exact HB1.out.size
  clear hw2 hb HB1
  go_loopg [15] l.length (fun gg s15 wr => ∃ kk : Nat, kk ≤ l.length ∧ l.length - kk ≤ gg ∧ s15 = .int .i64 kk ∧ Aside (Bui b (txtB l kk) wr) ∧ Aside (Below w.heap.size w wr))
  case atStart => exact ⟨0, Nat.zero_le _, by omega, by go_num, HU.out, HB2.out⟩
  case round =>
    obtain ⟨kk, hkk, hg, rfl, BU, BW⟩ := hrel
    have HBU := Lib.hid BU.out
    have HBW := Lib.hid BW.out
    have hszw := HBW.out.size
    clear BU BW HU HB2
    have hsz := (text_len (l.take kk) (fun y hy => HG.out y (List.mem_of_mem_take hy))).1
    have hszO : (txtB l kk).size ≤ 356000 := by
      have : (l.take kk).length ≤ 1000 := by simp; omega
      unfold txtB
      rw [mk_size]
      omega
    by_cases hlt : kk < l.length
    · have hltz : (kk : Int) < (l.length : Int) := by omega
      obtain ⟨x, hx⟩ : ∃ x, l[kk]? = some x := ⟨l[kk], by simp [hlt]⟩
      obtain ⟨bl, off, rfl, hc⟩ := HEL.out kk x hx
      have hlt0 := World.block_lt_of_cell? w ⟨bl, off + kk * 3 + 0, none⟩ (hc 0 _ rfl)
      have c0 : wr.cell? ⟨bl, off + kk * 3, none⟩ = some (.int .i64 x.ti) := (HBW.out.cell (p := ⟨bl, off + kk * 3 + 0, none⟩) hlt0).trans (hc 0 _ rfl)
      have c1 : wr.cell? ⟨bl, off + kk * 3 + 1, none⟩ = some (.string x.ca) := (HBW.out.cell (p := ⟨bl, off + kk * 3 + 1, none⟩) hlt0).trans (hc 1 _ rfl)
      have c2 : wr.cell? ⟨bl, off + kk * 3 + 2, none⟩ = some (.string x.ke) := (HBW.out.cell (p := ⟨bl, off + kk * 3 + 2, none⟩) hlt0).trans (hc 2 _ rfl)
      have HN := Lib.hid (txtB_next hx)
      have HN2 := Lib.hid (text_len (l.take (kk + 1)) (fun y hy => HG.out y (List.mem_of_mem_take hy))).1
      have hgx := HG.out x (List.mem_of_getElem? hx)
      obtain ⟨⟨ht1, ht2⟩, hnx, hkx⟩ := hgx
      have hszN := (name_size hnx).2
      have hszK := (reqB_true hkx).2.1
      obtain ⟨O, hO⟩ : ∃ O, O = txtB l kk := ⟨_, rfl⟩
      rw [← hO] at HN hszO HBU
      obtain ⟨ti, ca, ke⟩ := x
      simp only at HN hszN hszK ht1 ht2 c0 c1 c2
      have hA := itoa_length_le ti (by omega) (by omega)
      obtain ⟨A, hAe⟩ : ∃ A : ByteArray, A = ⟨(itoa ti).toArray⟩ := ⟨_, rfl⟩
      have hA2 : A.size ≤ 21 := by rw [hAe, mk_size]; exact hA
      rw [← hAe] at HN
      have hb5 := HBW.out.alloc hszw (.cells #[.int .i64 ti, .string ca, .string ke] 60)
      have HBU5 := Lib.hid (HBU.out.below ((Below.refl wr.heap.size wr).alloc (Nat.le_refl _) (.cells #[.int .i64 ti, .string ca, .string ke] 60)))
      have hbk : (wr.alloc (.cells #[.int .i64 ti, .string ca, .string ke] 60)).heap[wr.heap.size]? = some (.cells #[.int .i64 ti, .string ca, .string ke] 60 (0, 0)) := block_new wr _
      have HB5 := Lib.hid hb5
      have HBK := Lib.hid hbk
      have HIT0 : Hid (∀ W : World, Below w.heap.size w W → Calls Tryd.prog 75 #[.int .i64 ti] W fun e w' => e = .returned (.string A) ∧ Below W.heap.size W w') := Lib.hid (fun W hW => (itoa_any ti W (by omega) (by omega) (tab_below HTB.out hW)).mono fun e w' ⟨h1, k, os, h2⟩ => ⟨by rw [h1, hAe], by rw [h2]; exact below_grow (Below.refl _ W) k os⟩)
      clear hx hc hO hAe hb5 hbk hA hsz hnx hkx
      go_upto_region 8 with (fail)
      obtain ⟨w5, hw5⟩ : ∃ w5, w5 = wr.alloc (.cells #[.int .i64 ti, .string ca, .string ke] 60) := ⟨_, rfl⟩
      rw [← hw5] at HB5 HBK HBU5 ⊢
      have hl5 : wr.heap.size < w5.heap.size := by rw [hw5]; simp
      obtain ⟨g, hgq⟩ : ∃ g, g = wr.heap.size := ⟨_, rfl⟩
      rw [← hgq] at HBK hl5 ⊢
      clear hw5 c0 c1 c2 hgq HBU HBW
      have d0 : w5.cell? ⟨g, 0, none⟩ = some (.int .i64 ti) := (cell_of_block (i := 0) HBK.out).trans rfl
      have d1 : w5.cell? ⟨g, 1, none⟩ = some (.string ca) := (cell_of_block (i := 1) HBK.out).trans rfl
      have d2 : w5.cell? ⟨g, 2, none⟩ = some (.string ke) := (cell_of_block (i := 2) HBK.out).trans rfl
      have HIT : Hid (∀ W : World, Below w5.heap.size w5 W → Calls Tryd.prog 75 #[.int .i64 ti] W fun e w' => e = .returned (.string A) ∧ Below W.heap.size W w') := Lib.hid (fun W hW => HIT0.out W (HB5.out.trans (hW.mono HB5.out.size)))
      have q0 : ¬ 9223372036854775807 < A.size + 1 := by omega
      have q1 : ¬ 9223372036854775807 < A.size + 1 + ca.size := by omega
      have q2 : ¬ 9223372036854775807 < A.size + 1 + ca.size + 1 := by omega
      have q3 : ¬ 9223372036854775807 < A.size + 1 + ca.size + 1 + ke.size := by omega
      have q4 : ¬ 9223372036854775807 < A.size + 1 + ca.size + 1 + ke.size + 1 := by omega
      have hLs : ((((((A ++ (⟨#[32]⟩ : ByteArray)) ++ ca) ++ (⟨#[32]⟩ : ByteArray)) ++ ke) ++ (⟨#[10]⟩ : ByteArray))).size ≤ 1000 := by
        simp only [ByteArray.size_append, show (⟨#[32]⟩ : ByteArray).size = 1 from rfl, show (⟨#[10]⟩ : ByteArray).size = 1 from rfl]
        omega
      have HWS : Hid (∀ W : World, Below w5.heap.size w5 W → Calls Tryd.prog 74 #[.pointer (some ⟨b, 0, none⟩), .string ((((((A ++ (⟨#[32]⟩ : ByteArray)) ++ ca) ++ (⟨#[32]⟩ : ByteArray)) ++ ke) ++ (⟨#[10]⟩ : ByteArray)))] W fun e w' => e = .returned (.tuple #[.int .i64 ((((((A ++ (⟨#[32]⟩ : ByteArray)) ++ ca) ++ (⟨#[32]⟩ : ByteArray)) ++ ke) ++ (⟨#[10]⟩ : ByteArray))).size, .nilIface]) ∧ Bui b (txtB l (kk + 1)) w' ∧ Below b W w') := Lib.hid (fun W hW => by
        have h := writeB_any b O ((((((A ++ (⟨#[32]⟩ : ByteArray)) ++ ca) ++ (⟨#[32]⟩ : ByteArray)) ++ ke) ++ (⟨#[10]⟩ : ByteArray))) W (HBU5.out.below hW) (by omega)
        rw [HN.out] at h
        exact h)
      clear hLs HIT0 HN HN2 HBK
      go_region_with (first | (go_at_call 75; refine (HIT.out _ (below_drewN (Below.refl _ w5) 1)).mono ?_; rintro e w' ⟨rfl, hb⟩; have e1 := (hb.cell (p := ⟨g, 1, none⟩) hl5).trans d1; have e2 := (hb.cell (p := ⟨g, 2, none⟩) hl5).trans d2) | (go_at_call 74; refine (HWS.out _ ((below_drewN (Below.refl _ w5) 1).trans hb)).mono ?_; rintro e w' ⟨rfl, hbt, hb9⟩))
      all_goals
        have HBT := Lib.hid hbt
        have HBZ := Lib.hid ((HB5.out.trans (((below_drewN (Below.refl _ w5) 1).trans hb).mono HB5.out.size)).trans (hb9.mono hwb))
        clear hbt hb hb9 d0 d1 d2 q0 q1 q2 q3 q4
        go_wp2_with fail
        go_roundg (l.length - (kk + 1))
        case measure => omega
        case rel => exact ⟨kk + 1, by omega, by omega, by go_num, HBT.out, HBZ.out⟩
    · obtain rfl : kk = l.length := by omega
      obtain ⟨O, hO⟩ : ∃ O, O = txtB l l.length := ⟨_, rfl⟩
      rw [← hO] at HX hszO HBU
      obtain rfl : X = O := HX.out
      have hOz : ¬ (400000 : Int) < (X.size : Int) := by omega
      have HLE := Lib.hid (lenB_any b X wr HBU.out)
      have HST := Lib.hid (stringB_any b X wr HBU.out)
      clear hO hsz
      go_wp2_with fail
      refine HLE.out.mono ?_
      rintro e w6 ⟨rfl, rfl⟩
      go_wp2_with fail
      refine HST.out.mono ?_
      rintro e w7 ⟨rfl, hb7⟩
      have HB7 := Lib.hid (HBW.out.trans (hb7.mono hwb))
      clear hb7
      go_wp2_with fail
      go_ret2
      exact ⟨rfl, HB7.out⟩
end Go.Proofs.YtmgbmoiefgfemaaDoor

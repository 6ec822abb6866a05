/- Moved of the program. -/
import Derived.Test.YteepbfpcdhdgfaaDoorPikO
import Derived.Test.YteepbfpcdhdgfaaDoorKeyF
import Derived.Test.YteepbfpcdhdgfaaDoorFst
namespace Go.Proofs.YteepbfpcdhdgfaaDoor
open Go.RowKit

def mvF (A B K : List ByteArray) : Int := firstF [naF A, naF B, kyF K]
def mvB (A B : List ByteArray) (k : ByteArray) : Bool := !((fstL k A).toList == (fstL k B).toList)
/-- How many keys have another first cache. -/
def mvN (A B K : List ByteArray) : Int := if mvF A B K = 0 then (K.countP (mvB A B) : Nat) else 0
theorem mvF_zero {A B K : List ByteArray} (h : mvF A B K = 0) : naF A = 0 ∧ naF B = 0 ∧ kyF K = 0 := by
  unfold mvF firstF firstF firstF firstF at h
  by_cases h1 : naF A = 0
  · by_cases h2 : naF B = 0
    · by_cases h3 : kyF K = 0
      · exact ⟨h1, h2, h3⟩
      · rw [if_neg (by simp [h1]), if_neg (by simp [h2]), if_pos h3] at h; exact absurd h h3
    · rw [if_neg (by simp [h1]), if_pos h2] at h; exact absurd h h2
  · rw [if_pos h1] at h; exact absurd h h1
theorem countP_next {α : Type} (p : α → Bool) {l : List α} {i : Nat} {x : α} (hx : l[i]? = some x) : (l.take (i + 1)).countP p = (l.take i).countP p + if p x = true then 1 else 0 := by
  rw [List.take_add_one, hx, List.countP_append]
  simp [List.countP_cons]
set_option maxRecDepth 100000 in
set_option maxHeartbeats 2000000 in
theorem moved_any (w : World) (A B K : List ByteArray) (va vb vk : Value) (hA : Sl w 1 encN va A) (hB : Sl w 1 encN vb B) (hK : Sl w 1 encN vk K) (wA : ∀ x, x ∈ A → x.size ≤ 9223372036854775807) (wB : ∀ x, x ∈ B → x.size ≤ 9223372036854775807) (wK : ∀ x, x ∈ K → x.size ≤ 9223372036854775807) :
    Calls Tryd.prog 5 #[va, vb, vk] w fun e w' => e = .returned (.tuple #[.int .i64 (mvN A B K), .int .i64 (mvF A B K)]) ∧ Below w.heap.size w w' := by
  have HA := Lib.hid hA
  have HB := Lib.hid hB
  have HKS := Lib.hid hK
  have WK := Lib.hid wK
  have H1 := Lib.hid (fun (W : World) (h : Below w.heap.size w W) => (namesFault_any W A va (hA.below h (Nat.le_refl _)) wA))
  have H2 := Lib.hid (fun (W : World) (h : Below w.heap.size w W) => (namesFault_any W B vb (hB.below h (Nat.le_refl _)) wB))
  have H3 := Lib.hid (fun (W : World) (h : Below w.heap.size w W) => (keysFault_any W K vk (hK.below h (Nat.le_refl _)) wK))
  have HFI : Hid (∀ W : World, Calls Tryd.prog 15 #[.slice (some ⟨W.heap.size, 0, none⟩) 3 3] (W.alloc (.cells #[.int .i64 (naF A), .int .i64 (naF B), .int .i64 (kyF K)] 23)) fun e w' => e = .returned (.int .i64 (mvF A B K)) ∧ (W.alloc (.cells #[.int .i64 (naF A), .int .i64 (naF B), .int .i64 (kyF K)] 23)) = w') := Lib.hid (fun W => first_any _ [naF A, naF B, kyF K] _ (Sl.fresh encI_len W 23 (0, 0) [naF A, naF B, kyF K] (by simp [maxLen])))
  have HQ : Below w.heap.size w w := Below.refl _ w
  clear hA hB wA wB wK
  obtain ⟨aa, ca, rfl, -, -, -, -⟩ := HA.out
  obtain ⟨ab, cb, rfl, -, -, -, -⟩ := HB.out
  obtain ⟨ak, ck, rfl, hck, hmk, -, hel⟩ := hK
  unfold maxLen at hmk
  have HEL := Lib.hid hel
  clear hel
  go_enter Tryd.func5, Tryd.ntmps5
  go_upto_region 1 with (fail)
  go_cut [8] (fun s3 w6 => s3 = .int .i64 (mvF A B K) ∧ Aside (Below w.heap.size w w6))
  case first =>
    go_wp2_with fail
    refine (H1.out _ HQ).mono ?_
    rintro e w1 ⟨rfl, hb1⟩
    have HQ1 := Lib.hid (HQ.thru hb1)
    clear hb1
    go_wp2_with fail
    refine (H2.out _ HQ1.out).mono ?_
    rintro e w2 ⟨rfl, hb2⟩
    have HQ2 := Lib.hid (HQ1.out.thru hb2)
    clear hb2
    go_wp2_with fail
    refine (H3.out _ HQ2.out).mono ?_
    rintro e w3 ⟨rfl, hb3⟩
    have HQ3 := Lib.hid (HQ2.out.thru hb3)
    clear hb3
    go_wp2_with fail
    refine (HFI.out _).mono ?_
    rintro e w4 ⟨rfl, rfl⟩
    go_wp2_with fail
    go_meet
    exact ⟨rfl, HQ3.out.alloc HQ3.out.size _⟩
  obtain ⟨rfl, B6⟩ := hcut
  obtain ⟨w6, rfl⟩ : ∃ w6, w6 = wc := ⟨_, rfl⟩
  clear HQ H1 H2 H3 HFI
  by_cases h0 : mvF A B K = 0
  · obtain ⟨zA, zB, zK⟩ := mvF_zero h0
    have hv : Hid (((K.countP (mvB A B) : Nat) : Int) = mvN A B K) := Lib.hid (by unfold mvN; rw [if_pos h0])
    have hK1 : K.length ≤ 1000 := (kyF_zero zK).1
    have F1 := Lib.hid (fun (W : World) (h : Below w.heap.size w W) (k : ByteArray) (hk : k.size ≤ 300) => firstE_any W A _ k (HA.out.below h (Nat.le_refl _)) (naF_zero zA).1 (fun a ha => nameB_40 ((naF_zero zA).2.1 a ha)) hk (pickL_len zA k))
    have F2 := Lib.hid (fun (W : World) (h : Below w.heap.size w W) (k : ByteArray) (hk : k.size ≤ 300) => firstE_any W B _ k (HB.out.below h (Nat.le_refl _)) (naF_zero zB).1 (fun a ha => nameB_40 ((naF_zero zB).2.1 a ha)) hk (pickL_len zB k))
    have HREQ := Lib.hid (kyF_zero zK).2
    have HZ := Lib.hid h0
    clear zA zB zK
    rw [h0]
    go_wp2_with fail
    go_loopg [9, 11, 25] K.length (fun gg s9 s11 s25 wr => ∃ i : Nat, i ≤ K.length ∧ K.length - i ≤ gg ∧ s9 = .int .i64 (((K.take i).countP (mvB A B) : Nat) : Int) ∧ s25 = .int .i64 i ∧ Aside (Below w.heap.size w wr))
    case atStart => exact ⟨0, by omega, by omega, rfl, rfl, B6.out⟩
    case round =>
      obtain ⟨i, hi, hgi, rfl, rfl, BW⟩ := hrel
      by_cases hil : i < K.length
      · have hiz : (i : Int) < (K.length : Int) := by omega
        obtain ⟨x, hx⟩ : ∃ x, K[i]? = some x := ⟨K[i], by simp [hil]⟩
        obtain ⟨b, off, rfl, hc⟩ := HEL.out i x hx
        have hlt0 := World.block_lt_of_cell? w ⟨b, off + i * 1 + 0, none⟩ (hc 0 _ rfl)
        have c0 : wr.cell? ⟨b, off + i, none⟩ = some (.string x) := by
          have h := (BW.out.cell (p := ⟨b, off + i * 1 + 0, none⟩) hlt0).trans (hc 0 _ rfl)
          simpa using h
        have hx3 : x.size ≤ 300 := (reqB_true (HREQ.out x (List.mem_of_getElem? hx))).2.1
        have hcn := countP_next (mvB A B) hx
        have hcl : (K.take i).countP (mvB A B) ≤ i := by
          have h1 := List.countP_le_length (p := mvB A B) (l := K.take i)
          rw [List.length_take] at h1
          omega
        obtain ⟨n, hn⟩ : ∃ n, n = (K.take i).countP (mvB A B) := ⟨_, rfl⟩
        rw [← hn] at hcn hcl ⊢
        have HCN := Lib.hid hcn
        clear hc hx hn hcn hlt0
        go_wp2_with fail
        refine (F1.out _ BW.out x hx3).mono ?_
        rintro e w7 ⟨rfl, hb7⟩
        have HB7 := Lib.hid (BW.out.thru hb7)
        clear hb7
        go_wp2_with fail
        refine (F2.out _ HB7.out x hx3).mono ?_
        rintro e w8 ⟨rfl, hb8⟩
        have HB8 := Lib.hid (HB7.out.thru hb8)
        clear hb8
        have hmv : mvB A B x = !((fstL x A).toList == (fstL x B).toList) := rfl
        cases e1 : (fstL x A).toList == (fstL x B).toList
        · rw [hmv, e1] at HCN
          have HC2 : Hid ((K.take (i + 1)).countP (mvB A B) = n + 1) := Lib.hid (by rw [HCN.out]; rfl)
          clear hmv
          go_wp2_with fail
          go_roundg (K.length - (i + 1))
          case measure => omega
          case rel => exact ⟨i + 1, by omega, by omega, by rw [HC2.out]; go_num, by go_num, HB8.out⟩
        · rw [hmv, e1] at HCN
          have HC2 : Hid ((K.take (i + 1)).countP (mvB A B) = n) := Lib.hid (by rw [HCN.out]; rfl)
          clear hmv
          go_wp2_with fail
          go_roundg (K.length - (i + 1))
          case measure => omega
          case rel => exact ⟨i + 1, by omega, by omega, by rw [HC2.out], by go_num, HB8.out⟩
      · obtain rfl : i = K.length := by omega
        have hv2 : Hid ((((K.take K.length).countP (mvB A B) : Nat) : Int) = mvN A B K) := Lib.hid (by rw [List.take_length]; exact hv.out)
        go_wp2_with fail
        go_ret2
        exact ⟨by rw [← hv2.out, HZ.out]; rfl, BW.out⟩
  · have hv : Hid (0 = mvN A B K) := Lib.hid (by unfold mvN; rw [if_neg h0])
    have e0 : (mvF A B K == 0) = false := by simp [h0]
    go_wp2_with fail
    go_ret2
    exact ⟨by rw [← hv.out]; rfl, B6.out⟩
end Go.Proofs.YteepbfpcdhdgfaaDoor

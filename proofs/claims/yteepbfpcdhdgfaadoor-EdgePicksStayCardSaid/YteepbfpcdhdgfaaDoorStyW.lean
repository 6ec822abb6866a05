/- The law EdgePicksStay: it answers true. -/
import Derived.Test.YteepbfpcdhdgfaaDoorMov
import Derived.Test.YteepbfpcdhdgfaaDoorBelE
import Derived.Test.YteepbfpcdhdgfaaDoorDelS
import Derived.Test.YteepbfpcdhdgfaaDoorNor1
namespace Go.Proofs.YteepbfpcdhdgfaaDoor
open Go.RowKit

theorem checkKeysE_any (w : World) (K : List ByteArray) (v : Value) (hl : Sl w 1 encN v K) (hw : ∀ x, x ∈ K → x.size ≤ 9223372036854775807) :
    Calls Tryd.prog 6 #[v] w fun e w' => e = .returned (.int .i64 (kyF K)) ∧ Below w.heap.size w w' := by
  have H := Lib.hid (checkKeysR_any w K v hl hw)
  obtain ⟨ao, cap, rfl, -, -, -, -⟩ := hl
  go_enter Tryd.func6, Tryd.ntmps6
  go_wp2_with fail
  refine H.out.mono ?_
  rintro e w1 ⟨rfl, hb⟩
  have HB := Lib.hid hb
  clear hb
  go_wp2_with fail
  go_ret
  exact ⟨rfl, HB.out⟩
theorem mvB_self (L : List ByteArray) (k : ByteArray) : mvB L L k = false := by simp [mvB]
theorem mvN_self (L K : List ByteArray) : mvN L L K = 0 := by
  unfold mvN
  split
  · rw [show mvB L L = fun _ => false from funext (mvB_self L)]; simp
  · rfl
theorem mvB_del {L : List ByteArray} (h : naF L = 0) {i : Nat} (hi : i < L.length) (h' : naF (L.eraseIdx i) = 0) (k : ByteArray) : mvB L (L.eraseIdx i) k = ((fstL k L).toList == L[i].toList) := by
  have h1 := fstL_del h hi h' k
  have hinj : ∀ {a b : ByteArray}, a.toList = b.toList → a = b := fun {a b} e => by
    rw [ByteArray.toList_eq, ByteArray.toList_eq] at e
    exact ByteArray.ext (Array.ext' e)
  unfold mvB
  by_cases e : fstL k L = L[i]
  · have h2 := h1.2 e
    rw [e] at h2 ⊢
    have : (L[i].toList == (fstL k (L.eraseIdx i)).toList) = false := by
      rw [beq_eq_false_iff_ne]; exact fun q => h2 (hinj q)
    simp [this]
  · have h2 : fstL k L = fstL k (L.eraseIdx i) := Decidable.byContradiction fun q => e (h1.1 q)
    rw [← h2]
    have : ((fstL k L).toList == L[i].toList) = false := by
      rw [beq_eq_false_iff_ne]; exact fun q => e (hinj q)
    simp [this]
set_option maxRecDepth 100000 in
set_option maxHeartbeats 2000000 in
theorem stayNil_any (w : World) (m i : Int) (K : List ByteArray) (vl vk : Value) (hm : w.cell? ⟨0, 0, none⟩ = some (.int .i64 m)) (hL : Sl w 1 encN vl ([] : List ByteArray)) (hK : Sl w 1 encN vk K) (wK : ∀ x, x ∈ K → x.size ≤ 9223372036854775807) :
    Calls Tryd.prog 3 #[vl, .int .i64 i, vk] w fun e w' => e = .returned (.bool true) ∧ Below w.heap.size w w' := by
  have H1 := Lib.hid (moved_any w [] [] K vl vl vk hL hL hK (fun x h => nomatch h) (fun x h => nomatch h) wK)
  have H2 := Lib.hid (fun (W : World) (h : Below w.heap.size w W) => checkKeysE_any W K vk (hK.below h (Nat.le_refl _)) wK)
  have hg0 := World.block_lt_of_cell? w ⟨0, 0, none⟩ hm
  have H3 := Lib.hid (fun (W : World) (h : Below w.heap.size w W) => awakeE_any W m ((h.cell hg0).trans hm))
  have hF : mvF [] [] K = kyF K := by unfold mvF; rw [show naF [] = 0 by decide]; simp only [firstF]; by_cases h : kyF K = 0 <;> simp [h]
  rw [mvN_self, hF] at H1
  obtain ⟨al, cl, rfl, -, -, -, -⟩ := hL
  obtain ⟨ak, ck, rfl, -, -, -, -⟩ := hK
  clear wK hm hF hg0
  go_enter Tryd.func3, Tryd.ntmps3
  go_wp2_with fail
  refine H1.out.mono ?_
  rintro e w1 ⟨rfl, hb1⟩
  have HB1 := Lib.hid hb1
  clear hb1
  cases e0 : (kyF K == 0)
  case false =>
    go_wp2_with fail
    refine (H2.out _ HB1.out).mono ?_
    rintro e w2 ⟨rfl, hb2⟩
    have HB2 := Lib.hid (HB1.out.thru hb2)
    clear hb2
    have e1 : (kyF K == kyF K) = true := beq_self_eq_true _
    go_wp2_with fail
    refine (H3.out _ HB2.out).mono ?_
    rintro e w3 ⟨rfl, hb3⟩
    have HB3 := Lib.hid (HB2.out.thru hb3)
    clear hb3
    go_wp2_with fail
    go_ret
    exact ⟨rfl, HB3.out⟩
  case true =>
    go_wp2_with fail
    refine (H3.out _ HB1.out).mono ?_
    rintro e w3 ⟨rfl, hb3⟩
    have HB3 := Lib.hid (HB1.out.thru hb3)
    clear hb3
    go_wp2_with fail
    go_ret
    exact ⟨rfl, HB3.out⟩
theorem pick_one {L : List ByteArray} {x : ByteArray} (h : naF L = 0) (hr : reqB x = true) (hne : 0 < L.length) : pkF L x 1 = 0 ∧ pkL L x 1 = [fstL x L] := by
  have h1 : pkF L x 1 = 0 := by unfold pkF; simp [h, hr, outB]
  refine ⟨h1, ?_⟩
  unfold pkL
  rw [if_pos h1]
  have h2 := pickL_len h x
  unfold fstL
  cases hq : pickL x L with
  | nil => rw [hq] at h2; simp at h2; omega
  | cons a r => rfl
theorem countP_drop {α : Type} (p : α → Bool) {l : List α} {i : Nat} {x : α} (hx : l[i]? = some x) : (l.drop i).countP p = (l.drop (i + 1)).countP p + if p x = true then 1 else 0 := by
  obtain ⟨hi, rfl⟩ := List.getElem?_eq_some_iff.1 hx
  rw [List.drop_eq_getElem_cons hi, List.countP_cons]
set_option maxRecDepth 100000 in
set_option maxHeartbeats 2000000 in
theorem stay_any (w : World) (m i : Int) (L K : List ByteArray) (vl vk : Value) (hm : w.cell? ⟨0, 0, none⟩ = some (.int .i64 m)) (hL : Sl w 1 encN vl L) (hK : Sl w 1 encN vk K) (hn : L.length * 16 ≤ 140737488355328) (hi : -9223372036854775808 ≤ i ∧ i ≤ 9223372036854775807) (hne : 0 < L.length) (wL : ∀ x, x ∈ L → x.size ≤ 9223372036854775807) (wK : ∀ x, x ∈ K → x.size ≤ 9223372036854775807) :
    Calls Tryd.prog 3 #[vl, .int .i64 i, vk] w fun e w' => e = .returned (.bool true) ∧ Below w.heap.size w w' := by
  have HL := Lib.hid hL
  have HK := Lib.hid hK
  have HC := Lib.hid (cloneS_any w L vl hL hn)
  have HBE := Lib.hid (fun W => below_any i L.length W (by omega) (by omega) hi)
  have hg0 := World.block_lt_of_cell? w ⟨0, 0, none⟩ hm
  have H3 := Lib.hid (fun (W : World) (h : Below w.heap.size w W) => awakeE_any W m ((h.cell hg0).trans hm))
  have HWL := Lib.hid wL
  have HWK := Lib.hid wK
  have hlz : ((L.length : Int) == 0) = false := by rw [beq_eq_false_iff_ne]; omega
  obtain ⟨al, cl, rfl, -, -, -, -⟩ := hL
  obtain ⟨ak, ck, rfl, -, -, -, -⟩ := hK
  clear wK wL hm hg0 hi
  go_enter Tryd.func3, Tryd.ntmps3
  go_wp2_with fail
  refine (HBE.out _).mono ?_
  rintro e w0 ⟨⟨z, rfl, hz0, hz1⟩, rfl⟩
  obtain ⟨q, rfl⟩ : ∃ q : Nat, z = (q : Int) := ⟨z.toNat, by omega⟩
  have hq : q < L.length := by omega
  go_wp2_with fail
  unfold ClnP at HC
  refine HC.out.mono ?_
  rintro e w1 ⟨v1, rfl, ho1, hb1⟩
  have HB1 := Lib.hid hb1
  have HDE := Lib.hid (delS_any w1 w.heap.size q L v1 ho1 hq)
  unfold InsPS at HDE
  clear ho1 hb1
  go_wp2_with fail
  refine HDE.out.mono ?_
  rintro e w2 ⟨v2, rfl, ho2, hb2⟩
  have HB2 := Lib.hid (HB1.out.trans hb2)
  have HMV := Lib.hid (moved_any w2 L (L.eraseIdx q) K _ v2 _ (HL.out.below HB2.out (Nat.le_refl _)) (ho2.sl encN_len) (HK.out.below HB2.out (Nat.le_refl _)) HWL.out (fun x hx => HWL.out x (List.mem_of_mem_eraseIdx hx)) HWK.out)
  clear ho2 hb2 HDE HC HBE
  go_wp2_with fail
  refine HMV.out.mono ?_
  rintro e w3 ⟨rfl, hb3⟩
  have HB3 := Lib.hid (HB2.out.thru hb3)
  clear hb3 HMV
  by_cases h0 : mvF L (L.eraseIdx q) K = 0
  · obtain ⟨zA, zB, zK⟩ := mvF_zero h0
    have hvN : mvN L (L.eraseIdx q) K = (K.countP (mvB L (L.eraseIdx q)) : Nat) := by unfold mvN; rw [if_pos h0]
    have e0 : (mvF L (L.eraseIdx q) K == 0) = true := by simp [h0]
    have HP := Lib.hid (fun (W : World) (h : Below w.heap.size w W) (k : ByteArray) (hk : k.size ≤ 300) => pickE_any W L _ k 1 (HL.out.below h (Nat.le_refl _)) HWL.out (by omega) (pickL_len zA k))
    have HREQ := Lib.hid (kyF_zero zK)
    have HMB := Lib.hid (fun k => mvB_del zA hq zB k)
    have HZA := Lib.hid zA
    rw [h0, hvN]
    clear zA zB zK h0 hvN
    go_wp2_with fail
    obtain ⟨P, hP⟩ : ∃ P, P = mvB L (L.eraseIdx q) := ⟨_, rfl⟩
    rw [← hP] at HMB ⊢
    clear hP
    go_loopg [9, 12, 13, 14, 65, 69] K.length (fun gg s9 s12 s13 s14 s65 s69 wr => ∃ j : Nat, j ≤ K.length ∧ K.length - j ≤ gg ∧ s9 = .int .i64 (((K.drop j).countP P : Nat) : Int) ∧ s65 = .int .i64 j ∧ Aside (Below w.heap.size w wr))
    case atStart => exact ⟨0, by omega, by omega, rfl, rfl, HB3.out⟩
    case round =>
      obtain ⟨j, hj, hgj, rfl, rfl, BW⟩ := hrel
      by_cases hjl : j < K.length
      · have hjz : (j : Int) < (K.length : Int) := by omega
        obtain ⟨x, hx⟩ : ∃ x, K[j]? = some x := ⟨K[j], by simp [hjl]⟩
        obtain ⟨ak', ck', hvk, hck, hmk, -, helK⟩ := HK.out
        simp only [Value.slice.injEq, true_and] at hvk
        obtain ⟨rfl, rfl⟩ := hvk
        obtain ⟨al', cl', hvl, hcl, hml, -, helL⟩ := HL.out
        simp only [Value.slice.injEq, true_and] at hvl
        obtain ⟨rfl, rfl⟩ := hvl
        obtain ⟨b, off, rfl, hc⟩ := helK j x hx
        obtain ⟨b2, off2, rfl, hc2⟩ := helL q L[q] (by simp [hq])
        have hlt0 := World.block_lt_of_cell? w ⟨b, off + j * 1 + 0, none⟩ (hc 0 _ rfl)
        have hlt2 := World.block_lt_of_cell? w ⟨b2, off2 + q * 1 + 0, none⟩ (hc2 0 _ rfl)
        have c0 : wr.cell? ⟨b, off + j, none⟩ = some (.string x) := by
          have h := (BW.out.cell (p := ⟨b, off + j * 1 + 0, none⟩) hlt0).trans (hc 0 _ rfl)
          simpa using h
        have d0 : w.cell? ⟨b2, off2 + q, none⟩ = some (.string L[q]) := by simpa using hc2 0 _ rfl
        have hrx := HREQ.out.2 x (List.mem_of_getElem? hx)
        obtain ⟨p1, p2⟩ := pick_one HZA.out hrx hne
        have HPX := Lib.hid (HP.out wr BW.out x (reqB_true hrx).2.1)
        unfold PkP at HPX
        rw [p1, p2] at HPX
        have HCN := Lib.hid (countP_drop P hx)
        have HMX := Lib.hid (HMB.out x)
        have hqz : (q : Int) < (L.length : Int) := by omega
        unfold maxLen at hmk hml
        clear hc hc2 hx helK helL hlt0 p1 p2 hrx
        go_wp2_with fail
        refine HPX.out.mono ?_
        rintro e w5 ⟨v5, rfl, hs5, hb5⟩
        have HB5 := Lib.hid (BW.out.thru hb5)
        obtain ⟨a5, c5, rfl, hc5, hm5, -, hel5⟩ := hs5
        obtain ⟨b5, off5, rfl, hcc5⟩ := hel5 0 _ rfl
        have f0 : w5.cell? ⟨b5, off5, none⟩ = some (.string (fstL x L)) := by simpa using hcc5 0 _ rfl
        have d5 : w5.cell? ⟨b2, off2 + q, none⟩ = some (.string L[q]) := (HB5.out.cell (p := ⟨b2, off2 + q, none⟩) (by simpa using hlt2)).trans d0
        clear hb5 hel5 hcc5
        rw [show [fstL x L].length = 1 from rfl] at hc5 ⊢
        have hcl1 : (K.drop (j + 1)).countP P ≤ K.length := by
          have h1 := List.countP_le_length (p := P) (l := K.drop (j + 1))
          rw [List.length_drop] at h1
          omega
        obtain ⟨n, hn⟩ : ∃ n, n = (K.drop (j + 1)).countP P := ⟨_, rfl⟩
        have HNE := Lib.hid hn
        rw [← hn] at hcl1 HCN
        clear hn
        cases e1 : (fstL x L).toList == L[q].toList
        · rw [HMX.out, e1] at HCN
          rw [HCN.out]
          go_wp2_with fail
          go_region_held3 (fun W => W.cell? ⟨b5, off5, none⟩ = some (.string (fstL x L)) ∧ W.cell? ⟨b2, off2 + q, none⟩ = some (.string L[q]))
            (exact ⟨f0, d5⟩)
            (fail)
          go_wp2_with fail
          go_roundg (K.length - (j + 1))
          case measure => omega
          case rel => exact ⟨j + 1, by omega, by omega, by rw [← HNE.out], by go_num, below_drewN HB5.out _⟩
        · rw [HMX.out, e1] at HCN
          rw [HCN.out]
          go_wp2_with fail
          go_region_held3 (fun W => W.cell? ⟨b5, off5, none⟩ = some (.string (fstL x L)) ∧ W.cell? ⟨b2, off2 + q, none⟩ = some (.string L[q]))
            (exact ⟨f0, d5⟩)
            (fail)
          go_wp2_with fail
          go_roundg (K.length - (j + 1))
          case measure => omega
          case rel => exact ⟨j + 1, by omega, by omega, by rw [← HNE.out], by go_num, below_drewN HB5.out _⟩
      · obtain rfl : j = K.length := by omega
        have hv : (K.drop K.length).countP P = 0 := by simp
        rw [hv]
        go_wp2_with fail
        refine (H3.out _ BW.out).mono ?_
        rintro e w4 ⟨rfl, hb4⟩
        have HB4 := Lib.hid (BW.out.thru hb4)
        clear hb4
        go_wp2_with fail
        go_ret
        exact ⟨rfl, HB4.out⟩
  · have hv : Hid (mvN L (L.eraseIdx q) K = 0) := Lib.hid (by unfold mvN; rw [if_neg h0])
    have e0 : (mvF L (L.eraseIdx q) K == 0) = false := by simp [h0]
    rw [hv.out]
    go_wp2_with fail
    refine (H3.out _ HB3.out).mono ?_
    rintro e w4 ⟨rfl, hb4⟩
    have HB4 := Lib.hid (HB3.out.thru hb4)
    clear hb4
    go_wp2_with fail
    go_ret
    exact ⟨rfl, HB4.out⟩
theorem stays_any (w : World) (L K : List ByteArray) (vl vk : Value) (i : Int) (hL : Sl w 1 encS vl L) (hn : L.length * 16 ≤ 140737488355328) (wL : ∀ x, x ∈ L → x.size ≤ 9223372036854775807) (hi : -9223372036854775808 ≤ i ∧ i ≤ 9223372036854775807) (hK : Sl w 1 encS vk K) (wK : ∀ x, x ∈ K → x.size ≤ 9223372036854775807) (m : Int) (hm : w.cell? ⟨0, 0, none⟩ = some (.int .i64 m)) :
    Calls Tryd.prog 3 #[vl, .int .i64 i, vk] w fun e w' => e = .returned (.bool true) ∧ Below w.heap.size w w' := by
  by_cases h : L.length = 0
  · have h0 : L = [] := List.length_eq_zero_iff.1 h
    subst h0
    exact stayNil_any w m i K vl vk hm hL hK wK
  · exact stay_any w m i L K vl vk hm hL hK hn hi (by omega) wL wK
end Go.Proofs.YteepbfpcdhdgfaaDoor

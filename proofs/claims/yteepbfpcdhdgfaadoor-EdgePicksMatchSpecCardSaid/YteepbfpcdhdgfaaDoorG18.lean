/- keysFault of edge and checkKeys of the reference. -/
import Derived.Test.YteepbfpcdhdgfaaDoorG03
import Derived.Test.YteepbfpcdhdgfaaDoorG05
import Derived.Test.YteepbfpcdhdgfaaDoorG12
namespace Go.Proofs.YteepbfpcdhdgfaaDoor
open Go.RowKit

def kyA (K : List ByteArray) (i : Nat) : Int := if reqB (K.getD i ⟨#[]⟩) = true then 0 else 3
/-- The fault of keys. -/
def kyF (K : List ByteArray) : Int := if 1000 < K.length then 2 else FF (kyA K) K.length
theorem kyF_zero {K : List ByteArray} (h : kyF K = 0) : K.length ≤ 1000 ∧ ∀ x, x ∈ K → reqB x = true := by
  unfold kyF at h
  split at h
  · simp at h
  rename_i h1
  refine ⟨by omega, fun x hx => ?_⟩
  obtain ⟨i, hi, rfl⟩ := List.mem_iff_getElem.1 hx
  have h2 := FF_eq_zero h i hi
  unfold kyA at h2
  rw [List.getD_eq_getElem?_getD, List.getElem?_eq_getElem hi] at h2
  split at h2
  · rename_i h3; exact h3
  · simp at h2
set_option maxHeartbeats 1000000 in
theorem keysFault_any (w : World) (K : List ByteArray) (v : Value) (hl : Sl w 1 encS v K) (hw : ∀ x, x ∈ K → x.size ≤ 9223372036854775807) :
    Calls Tryd.prog 17 #[v] w fun e w' => e = .returned (.int .i64 (kyF K)) ∧ Below w.heap.size w w' := by
  obtain ⟨ao, cap, rfl, hcap, hmax, _, hel⟩ := hl
  unfold maxLen at hmax
  have HEL := Lib.hid hel
  have HW := Lib.hid hw
  clear hel hw
  by_cases hbig : 1000 < K.length
  · have hv : Hid (2 = kyF K) := Lib.hid (by unfold kyF; rw [if_pos hbig])
    have hz : (1000 : Int) < (K.length : Int) := by omega
    go_enter Tryd.func17, Tryd.ntmps17
    go_wp2
    go_ret
    exact ⟨ret_int hv.out, Below.refl _ _⟩
  · have HV : Hid (kyF K = FF (kyA K) K.length) := Lib.hid (by unfold kyF; rw [if_neg hbig])
    have hz : ¬ (1000 : Int) < (K.length : Int) := by omega
    go_enter Tryd.func17, Tryd.ntmps17
    go_wp2
    go_loopg [10] K.length (fun gg s10 wr => ∃ i : Nat, i ≤ K.length ∧ K.length - i ≤ gg ∧ s10 = .int .i64 i ∧ Aside (∀ j, j < i → kyA K j = 0) ∧ ∃ nn, wr = w.drewN nn)
    case atStart => exact ⟨0, by omega, by omega, rfl, (show Aside _ from fun j hj => absurd hj (Nat.not_lt_zero _)), 0, rfl⟩
    case round =>
      obtain ⟨i, hi, hgi, rfl, A, nn, rfl⟩ := hrel
      by_cases hil : i < K.length
      · have hiz : (i : Int) < (K.length : Int) := by omega
        obtain ⟨x, hx⟩ : ∃ x, K[i]? = some x := ⟨K[i], by simp [hil]⟩
        obtain ⟨b, off, rfl, hc⟩ := HEL.out i x hx
        have c0 : w.cell? ⟨b, off + i, none⟩ = some (.string x) := by have h := hc 0 _ rfl; simpa using h
        have hxs := HW.out x (List.mem_of_getElem? hx)
        have HAT : Hid (kyA K i = if reqB x = true then 0 else 3) := Lib.hid (by unfold kyA; rw [List.getD_eq_getElem?_getD, hx]; rfl)
        clear hx hc
        cases e1 : reqB x
        case true =>
          have HZ : Hid (kyA K i = 0) := Lib.hid (by rw [HAT.out, e1]; rfl)
          go_wp2_with (go_at_call 21; refine (isReq_any x _ hxs).mono ?_; rintro e w' ⟨rfl, rfl⟩; rw [e1])
          go_roundg (K.length - (i + 1))
          case measure => omega
          case rel =>
            refine ⟨i + 1, by omega, by omega, by go_num, (show Aside _ from fun j hj => ?_), _, rfl⟩
            by_cases e : j = i
            · rw [e]; exact HZ.out
            · exact A.out j (by omega)
        case false =>
          have hv : Hid (3 = kyF K) := Lib.hid (by
            rw [HV.out, FF_hit hil A.out (by rw [HAT.out, e1]; simp), HAT.out, e1]
            rfl)
          go_wp2_with (go_at_call 21; refine (isReq_any x _ hxs).mono ?_; rintro e w' ⟨rfl, rfl⟩; rw [e1])
          go_ret
          exact ⟨ret_int hv.out, below_drewN (Below.refl _ _) _⟩
      · obtain rfl : i = K.length := by omega
        have hv : Hid (0 = kyF K) := Lib.hid (by rw [HV.out, FF_zero A.out])
        go_wp2
        go_ret
        exact ⟨ret_int hv.out, below_drewN (Below.refl _ _) _⟩
set_option maxHeartbeats 1000000 in
theorem checkKeysR_any (w : World) (K : List ByteArray) (v : Value) (hl : Sl w 1 encS v K) (hw : ∀ x, x ∈ K → x.size ≤ 9223372036854775807) :
    Calls Tryd.prog 19 #[v] w fun e w' => e = .returned (.int .i64 (kyF K)) ∧ Below w.heap.size w w' := by
  obtain ⟨ao, cap, rfl, hcap, hmax, _, hel⟩ := hl
  unfold maxLen at hmax
  have HEL := Lib.hid hel
  have HW := Lib.hid hw
  clear hel hw
  by_cases hbig : 1000 < K.length
  · have hv : Hid (2 = kyF K) := Lib.hid (by unfold kyF; rw [if_pos hbig])
    have hz : (1000 : Int) < (K.length : Int) := by omega
    go_enter Tryd.func19, Tryd.ntmps19
    go_wp2
    go_ret
    exact ⟨ret_int hv.out, Below.refl _ _⟩
  · have HV : Hid (kyF K = FF (kyA K) K.length) := Lib.hid (by unfold kyF; rw [if_neg hbig])
    have hz : ¬ (1000 : Int) < (K.length : Int) := by omega
    go_enter Tryd.func19, Tryd.ntmps19
    go_wp2
    go_loopg [10] K.length (fun gg s10 wr => ∃ i : Nat, i ≤ K.length ∧ K.length - i ≤ gg ∧ s10 = .int .i64 i ∧ Aside (∀ j, j < i → kyA K j = 0) ∧ ∃ nn, wr = w.drewN nn)
    case atStart => exact ⟨0, by omega, by omega, rfl, (show Aside _ from fun j hj => absurd hj (Nat.not_lt_zero _)), 0, rfl⟩
    case round =>
      obtain ⟨i, hi, hgi, rfl, A, nn, rfl⟩ := hrel
      by_cases hil : i < K.length
      · have hiz : (i : Int) < (K.length : Int) := by omega
        obtain ⟨x, hx⟩ : ∃ x, K[i]? = some x := ⟨K[i], by simp [hil]⟩
        obtain ⟨b, off, rfl, hc⟩ := HEL.out i x hx
        have c0 : w.cell? ⟨b, off + i, none⟩ = some (.string x) := by have h := hc 0 _ rfl; simpa using h
        have hxs := HW.out x (List.mem_of_getElem? hx)
        have HAT : Hid (kyA K i = if reqB x = true then 0 else 3) := Lib.hid (by unfold kyA; rw [List.getD_eq_getElem?_getD, hx]; rfl)
        clear hx hc
        cases e1 : reqB x
        case true =>
          have HZ : Hid (kyA K i = 0) := Lib.hid (by rw [HAT.out, e1]; rfl)
          go_wp2_with (go_at_call 25; refine (isReqR_any x _ hxs).mono ?_; rintro e w' ⟨rfl, rfl⟩; rw [e1])
          go_roundg (K.length - (i + 1))
          case measure => omega
          case rel =>
            refine ⟨i + 1, by omega, by omega, by go_num, (show Aside _ from fun j hj => ?_), _, rfl⟩
            by_cases e : j = i
            · rw [e]; exact HZ.out
            · exact A.out j (by omega)
        case false =>
          have hv : Hid (3 = kyF K) := Lib.hid (by
            rw [HV.out, FF_hit hil A.out (by rw [HAT.out, e1]; simp), HAT.out, e1]
            rfl)
          go_wp2_with (go_at_call 25; refine (isReqR_any x _ hxs).mono ?_; rintro e w' ⟨rfl, rfl⟩; rw [e1])
          go_ret
          exact ⟨ret_int hv.out, below_drewN (Below.refl _ _) _⟩
      · obtain rfl : i = K.length := by omega
        have hv : Hid (0 = kyF K) := Lib.hid (by rw [HV.out, FF_zero A.out])
        go_wp2
        go_ret
        exact ⟨ret_int hv.out, below_drewN (Below.refl _ _) _⟩
end Go.Proofs.YteepbfpcdhdgfaaDoor

/- kit.First. -/
namespace Go.Proofs.YteepbfpcdhdgfaaDoor
open Go.RowKit

def firstF : List Int → Int
  | [] => 0
  | a :: r => if a ≠ 0 then a else firstF r
theorem firstF_at {l : List Int} : ∀ {k : Nat} {a : Int}, l[k]? = some a → a ≠ 0 → (∀ j x, l[j]? = some x → j < k → x = 0) → firstF l = a := by
  induction l with
  | nil => intro k a h; simp at h
  | cons b r ih =>
    intro k a h ha hz
    cases k with
    | zero => simp at h; subst h; rw [firstF, if_pos ha]
    | succ k =>
      have h0 := hz 0 b rfl (by omega)
      rw [firstF, if_neg (by simp [h0])]
      exact ih (by simpa using h) ha fun j x hx hj => hz (j + 1) x (by simpa using hx) (by omega)
theorem firstF_none {l : List Int} (hz : ∀ (j : Nat) x, l[j]? = some x → x = 0) : firstF l = 0 := by
  induction l with
  | nil => rfl
  | cons b r ih =>
    have h0 := hz 0 b rfl
    rw [firstF, if_neg (by simp [h0])]
    exact ih fun j x hx => hz (j + 1) x (by simpa using hx)

set_option maxHeartbeats 1000000 in
theorem first_any (w : World) (l : List Int) (v : Value) (hl : Sl w 1 encI v l) :
    Calls Tryd.prog 15 #[v] w fun e w' => e = .returned (.int .i64 (firstF l)) ∧ w = w' := by
  obtain ⟨ao, cap, rfl, hcap, hmax, hnil, hel⟩ := hl
  unfold maxLen at hmax
  go_enter Tryd.func15, Tryd.ntmps15
  go_wp2
  go_loop [4, 7] (fun _ s7 => ∃ kk : Nat, kk ≤ l.length ∧ s7 = .int .i64 kk ∧ Aside (∀ j x, l[j]? = some x → j < kk → x = 0)) (fun _ i => l.length - (intOf i).toNat)
  case atStart => exact ⟨0, Nat.zero_le _, rfl, fun j x _ hj => absurd hj (Nat.not_lt_zero _)⟩
  case round =>
    obtain ⟨kk, hkk, rfl, A⟩ := hrel
    by_cases hlt : kk < l.length
    · have hltz : (kk : Int) < (l.length : Int) := by omega
      obtain ⟨x, hx⟩ : ∃ x, l[kk]? = some x := ⟨l[kk], by simp [hlt]⟩
      obtain ⟨b, off, rfl, hc⟩ := hel kk x hx
      have c0 : w.cell? ⟨b, off + kk, none⟩ = some (.int .i64 x) := by simpa using hc 0 _ rfl
      have HX := Lib.hid hx
      clear hx hc hel
      cases e1 : (x != 0)
      case true =>
        have hv : Hid (x = firstF l) := Lib.hid (firstF_at HX.out (by simpa using e1) A.out).symm
        go_wp2
        go_ret
        exact ⟨ret_int hv.out, rfl⟩
      case false =>
        have hz : Hid (x = 0) := Lib.hid (by simpa using e1)
        go_wp2
        go_round
        case rel =>
          refine ⟨kk + 1, by omega, by go_num, (show Aside (∀ j x, l[j]? = some x → j < kk + 1 → x = 0) from fun j y hy hj => ?_)⟩
          by_cases e : j = kk
          · subst e
            have := HX.out.symm.trans hy
            simp only [Option.some.injEq] at this
            rw [← this]; exact hz.out
          · exact A.out j y hy (by omega)
        case measure => simp [intOf]; omega
    · obtain rfl : kk = l.length := by omega
      have hv : Hid (0 = firstF l) := Lib.hid (firstF_none fun j x hx => A.out j x hx (List.getElem?_eq_some_iff.1 hx).1).symm
      clear hel
      go_wp2
      go_ret
      exact ⟨ret_int hv.out, rfl⟩
end Go.Proofs.YteepbfpcdhdgfaaDoor

/- Moved of the program. -/
namespace Go.Proofs.YteepbfpcdhdgfaaDoor
open Go.RowKit

def mvF (A B K : List ByteArray) : Int := firstF [naF A, naF B, kyF K]
def mvB (A B : List ByteArray) (k : ByteArray) : Bool := !((fstL k A).toList == (fstL k B).toList)
/-- How many keys have another first cache. -/
def mvN (A B K : List ByteArray) : Int := if mvF A B K = 0 then (K.countP (mvB A B) : Nat) else 0
theorem mvF_zero {A B K : List ByteArray} (h : mvF A B K = 0) : naF A = 0 ∧ naF B = 0 ∧ kyF K = 0 := by
  unfold mvF firstF firstF firstF firstF at h
  by_cases h1 : naF A = 0
  · by_cases h2 : naF B = 0
    · by_cases h3 : kyF K = 0
      · exact ⟨h1, h2, h3⟩
      · rw [if_neg (by simp [h1]), if_neg (by simp [h2]), if_pos h3] at h; exact absurd h h3
    · rw [if_neg (by simp [h1]), if_pos h2] at h; exact absurd h h2
  · rw [if_pos h1] at h; exact absurd h h1
theorem countP_next {α : Type} (p : α → Bool) {l : List α} {i : Nat} {x : α} (hx : l[i]? = some x) : (l.take (i + 1)).countP p = (l.take i).countP p + if p x = true then 1 else 0 := by
  rw [List.take_add_one, hx, List.countP_append]
  simp [List.countP_cons]
set_option maxRecDepth 100000 in
set_option maxHeartbeats 2000000 in
theorem moved_any (w : World) (A B K : List ByteArray) (va vb vk : Value) (hA : Sl w 1 encN va A) (hB : Sl w 1 encN vb B) (hK : Sl w 1 encN vk K) (wA : ∀ x, x ∈ A → x.size ≤ 9223372036854775807) (wB : ∀ x, x ∈ B → x.size ≤ 9223372036854775807) (wK : ∀ x, x ∈ K → x.size ≤ 9223372036854775807) :
    Calls Tryd.prog 5 #[va, vb, vk] w fun e w' => e = .returned (.tuple #[.int .i64 (mvN A B K), .int .i64 (mvF A B K)]) ∧ Below w.heap.size w w' := by
  have HA := Lib.hid hA
  have HB := Lib.hid hB
  have HKS := Lib.hid hK
  have WK := Lib.hid wK
  have H1 := Lib.hid (fun (W : World) (h : Below w.heap.size w W) => (namesFault_any W A va (hA.below h (Nat.le_refl _)) wA))
  have H2 := Lib.hid (fun (W : World) (h : Below w.heap.size w W) => (namesFault_any W B vb (hB.below h (Nat.le_refl _)) wB))
  have H3 := Lib.hid (fun (W : World) (h : Below w.heap.size w W) => (keysFault_any W K vk (hK.below h (Nat.le_refl _)) wK))
  have HFI : Hid (∀ W : World, Calls Tryd.prog 15 #[.slice (some ⟨W.heap.size, 0, none⟩) 3 3] (W.alloc (.cells #[.int .i64 (naF A), .int .i64 (naF B), .int .i64 (kyF K)] 23)) fun e w' => e = .returned (.int .i64 (mvF A B K)) ∧ (W.alloc (.cells #[.int .i64 (naF A), .int .i64 (naF B), .int .i64 (kyF K)] 23)) = w') := Lib.hid (fun W => first_any _ [naF A, naF B, kyF K] _ (Sl.fresh encI_len W 23 (0, 0) [naF A, naF B, kyF K] (by simp [maxLen])))
  have HQ : Below w.heap.size w w := Below.refl _ w
  clear hA hB wA wB wK
  obtain ⟨aa, ca, rfl, -, -, -, -⟩ := HA.out
  obtain ⟨ab, cb, rfl, -, -, -, -⟩ := HB.out
  obtain ⟨ak, ck, rfl, hck, hmk, -, hel⟩ := hK
  unfold maxLen at hmk
  have HEL := Lib.hid hel
  clear hel
  go_enter Tryd.func5, Tryd.ntmps5
  go_upto_region 1 with (fail)
  go_cut [8] (fun s3 w6 => s3 = .int .i64 (mvF A B K) ∧ Aside (Below w.heap.size w w6))
  case first =>
    go_wp2_with fail
    refine (H1.out _ HQ).mono ?_
    rintro e w1 ⟨rfl, hb1⟩
    have HQ1 := Lib.hid (HQ.thru hb1)
    clear hb1
    go_wp2_with fail
    refine (H2.out _ HQ1.out).mono ?_
    rintro e w2 ⟨rfl, hb2⟩
    have HQ2 := Lib.hid (HQ1.out.thru hb2)
    clear hb2
    go_wp2_with fail
    refine (H3.out _ HQ2.out).mono ?_
    rintro e w3 ⟨rfl, hb3⟩
    have HQ3 := Lib.hid (HQ2.out.thru hb3)
    clear hb3
    go_wp2_with fail
    refine (HFI.out _).mono ?_
    rintro e w4 ⟨rfl, rfl⟩
    go_wp2_with fail
    go_meet
    exact ⟨rfl, HQ3.out.alloc HQ3.out.size _⟩
  obtain ⟨rfl, B6⟩ := hcut
  obtain ⟨w6, rfl⟩ : ∃ w6, w6 = wc := ⟨_, rfl⟩
  clear HQ H1 H2 H3 HFI
  by_cases h0 : mvF A B K = 0
  · obtain ⟨zA, zB, zK⟩ := mvF_zero h0
    have hv : Hid (((K.countP (mvB A B) : Nat) : Int) = mvN A B K) := Lib.hid (by unfold mvN; rw [if_pos h0])
    have hK1 : K.length ≤ 1000 := (kyF_zero zK).1
    have F1 := Lib.hid (fun (W : World) (h : Below w.heap.size w W) (k : ByteArray) (hk : k.size ≤ 300) => firstE_any W A _ k (HA.out.below h (Nat.le_refl _)) (naF_zero zA).1 (fun a ha => nameB_40 ((naF_zero zA).2.1 a ha)) hk (pickL_len zA k))
    have F2 := Lib.hid (fun (W : World) (h : Below w.heap.size w W) (k : ByteArray) (hk : k.size ≤ 300) => firstE_any W B _ k (HB.out.below h (Nat.le_refl _)) (naF_zero zB).1 (fun a ha => nameB_40 ((naF_zero zB).2.1 a ha)) hk (pickL_len zB k))
    have HREQ := Lib.hid (kyF_zero zK).2
    have HZ := Lib.hid h0
    clear zA zB zK
    rw [h0]
    go_wp2_with fail
    go_loopg [9, 11, 25] K.length (fun gg s9 s11 s25 wr => ∃ i : Nat, i ≤ K.length ∧ K.length - i ≤ gg ∧ s9 = .int .i64 (((K.take i).countP (mvB A B) : Nat) : Int) ∧ s25 = .int .i64 i ∧ Aside (Below w.heap.size w wr))
    case atStart => exact ⟨0, by omega, by omega, rfl, rfl, B6.out⟩
    case round =>
      obtain ⟨i, hi, hgi, rfl, rfl, BW⟩ := hrel
      by_cases hil : i < K.length
      · have hiz : (i : Int) < (K.length : Int) := by omega
        obtain ⟨x, hx⟩ : ∃ x, K[i]? = some x := ⟨K[i], by simp [hil]⟩
        obtain ⟨b, off, rfl, hc⟩ := HEL.out i x hx
        have hlt0 := World.block_lt_of_cell? w ⟨b, off + i * 1 + 0, none⟩ (hc 0 _ rfl)
        have c0 : wr.cell? ⟨b, off + i, none⟩ = some (.string x) := by
          have h := (BW.out.cell (p := ⟨b, off + i * 1 + 0, none⟩) hlt0).trans (hc 0 _ rfl)
          simpa using h
        have hx3 : x.size ≤ 300 := (reqB_true (HREQ.out x (List.mem_of_getElem? hx))).2.1
        have hcn := countP_next (mvB A B) hx
        have hcl : (K.take i).countP (mvB A B) ≤ i := by
          have h1 := List.countP_le_length (p := mvB A B) (l := K.take i)
          rw [List.length_take] at h1
          omega
        obtain ⟨n, hn⟩ : ∃ n, n = (K.take i).countP (mvB A B) := ⟨_, rfl⟩
        rw [← hn] at hcn hcl ⊢
        have HCN := Lib.hid hcn
        clear hc hx hn hcn hlt0
        go_wp2_with fail
        refine (F1.out _ BW.out x hx3).mono ?_
        rintro e w7 ⟨rfl, hb7⟩
        have HB7 := Lib.hid (BW.out.thru hb7)
        clear hb7
        go_wp2_with fail
        refine (F2.out _ HB7.out x hx3).mono ?_
        rintro e w8 ⟨rfl, hb8⟩
        have HB8 := Lib.hid (HB7.out.thru hb8)
        clear hb8
        have hmv : mvB A B x = !((fstL x A).toList == (fstL x B).toList) := rfl
        cases e1 : (fstL x A).toList == (fstL x B).toList
        · rw [hmv, e1] at HCN
          have HC2 : Hid ((K.take (i + 1)).countP (mvB A B) = n + 1) := Lib.hid (by rw [HCN.out]; rfl)
          clear hmv
          go_wp2_with fail
          go_roundg (K.length - (i + 1))
          case measure => omega
          case rel => exact ⟨i + 1, by omega, by omega, by rw [HC2.out]; go_num, by go_num, HB8.out⟩
        · rw [hmv, e1] at HCN
          have HC2 : Hid ((K.take (i + 1)).countP (mvB A B) = n) := Lib.hid (by rw [HCN.out]; rfl)
          clear hmv
          go_wp2_with fail
          go_roundg (K.length - (i + 1))
          case measure => omega
          case rel => exact ⟨i + 1, by omega, by omega, by rw [HC2.out], by go_num, HB8.out⟩
      · obtain rfl : i = K.length := by omega
        have hv2 : Hid ((((K.take K.length).countP (mvB A B) : Nat) : Int) = mvN A B K) := Lib.hid (by rw [List.take_length]; exact hv.out)
        go_wp2_with fail
        go_ret2
        exact ⟨by rw [← hv2.out, HZ.out]; rfl, BW.out⟩
  · have hv : Hid (0 = mvN A B K) := Lib.hid (by unfold mvN; rw [if_neg h0])
    have e0 : (mvF A B K == 0) = false := by simp [h0]
    go_wp2_with fail
    go_ret2
    exact ⟨by rw [← hv.out]; rfl, B6.out⟩
end Go.Proofs.YteepbfpcdhdgfaaDoor

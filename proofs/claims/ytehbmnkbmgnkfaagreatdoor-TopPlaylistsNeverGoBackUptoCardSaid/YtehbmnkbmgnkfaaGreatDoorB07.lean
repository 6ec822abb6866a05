/- up of container/heap at events: the walk. -/
import Derived.Test.YtehbmnkbmgnkfaaGreatDoorB06
import Derived.Sort.Walk0
namespace Go.Proofs.YtehbmnkbmgnkfaaGreatDoor
open Go.RowKit

theorem mLen {w : World} {b n c : Nat} {a : Option Addr} (h : w.cell? ⟨b, 5, none⟩ = some (.slice a n c)) (f : Nat) : (method (f + 1) 145 (.pointer (some ⟨b, 5, none⟩)) "Len").run Tryz.prog w = .ok (131, .slice a n c) w := by
  have : (method (f + 1) 145 (.pointer (some ⟨b, 5, none⟩)) "Len").run Tryz.prog w = (load ⟨b, 5, none⟩ >>= fun v => pure (131, v)).run Tryz.prog w := by kernel_rfl
  rw [this]
  simp [go_sem, h]
theorem mLess {w : World} {b n c : Nat} {a : Option Addr} (h : w.cell? ⟨b, 5, none⟩ = some (.slice a n c)) (f : Nat) : (method (f + 1) 145 (.pointer (some ⟨b, 5, none⟩)) "Less").run Tryz.prog w = .ok (132, .slice a n c) w := by
  have : (method (f + 1) 145 (.pointer (some ⟨b, 5, none⟩)) "Less").run Tryz.prog w = (load ⟨b, 5, none⟩ >>= fun v => pure (132, v)).run Tryz.prog w := by kernel_rfl
  rw [this]
  simp [go_sem, h]
theorem mSwap {w : World} {b n c : Nat} {a : Option Addr} (h : w.cell? ⟨b, 5, none⟩ = some (.slice a n c)) (f : Nat) : (method (f + 1) 145 (.pointer (some ⟨b, 5, none⟩)) "Swap").run Tryz.prog w = .ok (133, .slice a n c) w := by
  have : (method (f + 1) 145 (.pointer (some ⟨b, 5, none⟩)) "Swap").run Tryz.prog w = (load ⟨b, 5, none⟩ >>= fun v => pure (133, v)).run Tryz.prog w := by kernel_rfl
  rw [this]
  simp [go_sem, h]
theorem nLen (w : World) (b f : Nat) : (nilAhead (f + 1) 145 (.pointer (some ⟨b, 5, none⟩)) "Len").run Tryz.prog w = .ok (some false) w := by kernel_rfl
theorem nLess (w : World) (b f : Nat) : (nilAhead (f + 1) 145 (.pointer (some ⟨b, 5, none⟩)) "Less").run Tryz.prog w = .ok (some false) w := by kernel_rfl
theorem nSwap (w : World) (b f : Nat) : (nilAhead (f + 1) 145 (.pointer (some ⟨b, 5, none⟩)) "Swap").run Tryz.prog w = .ok (some false) w := by kernel_rfl
theorem nPush (w : World) (b f : Nat) : (nilAhead (f + 1) 145 (.pointer (some ⟨b, 5, none⟩)) "Push").run Tryz.prog w = .ok (some false) w := by kernel_rfl
theorem mPush (w : World) (b f : Nat) : (method (f + 1) 145 (.pointer (some ⟨b, 5, none⟩)) "Push").run Tryz.prog w = .ok (138, .pointer (some ⟨b, 5, none⟩)) w := by kernel_rfl
theorem nPop (w : World) (b f : Nat) : (nilAhead (f + 1) 145 (.pointer (some ⟨b, 5, none⟩)) "Pop").run Tryz.prog w = .ok (some false) w := by kernel_rfl
theorem mPop (w : World) (b f : Nat) : (method (f + 1) 145 (.pointer (some ⟨b, 5, none⟩)) "Pop").run Tryz.prog w = .ok (137, .pointer (some ⟨b, 5, none⟩)) w := by kernel_rfl

theorem AskR.blk {W W' : World} {a : Nat → Nat} {K : Nat → Akn} {j : Nat} (h : AskR W a K j) (hb : W'.heap[a j]? = W.heap[a j]?) : AskR W' a K j := by
  have e : ∀ o, W'.cell? ⟨a j, o, none⟩ = W.cell? ⟨a j, o, none⟩ := fun o => by simp [World.cell?, hb]
  exact ⟨(e 0).trans h.c0, (e 1).trans h.c1, (e 3).trans h.c3⟩
theorem AskR.lt {W : World} {a : Nat → Nat} {K : Nat → Akn} {j : Nat} (h : AskR W a K j) : a j < W.heap.size := World.block_lt_of_cell? W _ h.c0
theorem AskR.onl {W W' : World} {a : Nat → Nat} {K : Nat → Akn} {j g : Nat} (h : AskR W a K j) (ho : Onl g W W') (hg : a j ≠ g) : AskR W' a K j :=
  h.blk (World.grownBy.block ho _ h.lt (fun e => hg (by simpa using e)))
theorem QAt.onl {Q B g n c : Nat} {a : Nat → Nat} {w w' : World} {l l' : List Evn} (h : QAt Q B a w (.slice (some ⟨g, 0, none⟩) n c) l) (ho : Onl g w w') (hl : Own w' B 143 8 (encE a) (.slice (some ⟨g, 0, none⟩) n c) l') : QAt Q B a w' (.slice (some ⟨g, 0, none⟩) n c) l' := by
  obtain ⟨cs, T, h1, h2⟩ := h.blk
  exact ⟨hl, h.off, ⟨cs, T, ho.block h1 (fun e => h.off _ _ _ rfl e.symm), h2⟩, Nat.le_trans h.base ho.size⟩
theorem hat_mem {α : Type} [Inhabited α] {l : List α} {i : Nat} (h : i < l.length) : hat l i ∈ l := List.mem_of_getElem? (hat_some h)
theorem hsw_mem {α : Type} [Inhabited α] {l : List α} {i j : Nat} (hi : i < l.length) (hj : j < l.length) {x : α} (h : x ∈ hsw l i j) : x ∈ l := by
  unfold hsw at h
  rcases List.mem_or_eq_of_mem_set h with h | rfl
  · rcases List.mem_or_eq_of_mem_set h with h | rfl
    · exact h
    · exact hat_mem hj
  · exact hat_mem hi
theorem hup_zero {α : Type} [Inhabited α] (lt : α → α → Bool) (g : Nat) (l : List α) : hup lt g 0 l = l := by
  cases g <;> simp [hup]
theorem hup_no {α : Type} [Inhabited α] {lt : α → α → Bool} {g j m : Nat} {l : List α} (hm : m = (j - 1) / 2) (h : lt (hat l j) (hat l m) = false) : hup lt g j l = l := by
  subst hm
  cases g with
  | zero => rfl
  | succ g =>
    unfold hup
    split
    · rfl
    · rw [if_neg (by simp [h])]
theorem hup_yes {α : Type} [Inhabited α] {lt : α → α → Bool} {g j m : Nat} {l : List α} (hm : m = (j - 1) / 2) (hj : 0 < j) (h : lt (hat l j) (hat l m) = true) : hup lt (g + 1) j l = hup lt g m (hsw l m j) := by
  subst hm
  show (if j = 0 then l else if lt (hat l j) (hat l ((j - 1) / 2)) = true then hup lt g ((j - 1) / 2) (hsw l ((j - 1) / 2) j) else l) = _
  rw [if_neg (by omega), if_pos h]
set_option maxRecDepth 100000 in
set_option maxHeartbeats 2000000 in
theorem up_any (w : World) (Q B g n cap : Nat) (a : Nat → Nat) (K : Nat → Akn) (l : List Evn) (j0 : Nat) (h : QAt Q B a w (.slice (some ⟨g, 0, none⟩) n cap) l) (hn : n = l.length) (hl : l.length ≤ 1000000) (hj0 : j0 < l.length) (ha : ∀ e, e ∈ l → AskR w a K e.ak ∧ a e.ak ≠ g) :
    Calls Tryz.prog 107 #[.iface 145 (.pointer (some ⟨Q, 5, none⟩)), .int .i64 j0] w fun r w' => r = .returned (.tuple #[]) ∧ QAt Q B a w' (.slice (some ⟨g, 0, none⟩) n cap) (hup (bfr K) (j0 + 1) j0 l) ∧ Onl g w w' := by
  obtain ⟨R, hR⟩ : ∃ R, R = hup (bfr K) (j0 + 1) j0 l := ⟨_, rfl⟩
  have HR := Lib.hid hR
  have HH := Lib.hid h
  have HA := Lib.hid ha
  have HO0 := Lib.hid h.own
  have HN := Lib.hid hn
  rw [← hR]
  have hnl := nLess
  have hns := nSwap
  clear hR h ha hn
  go_enter Tryz.func107, Tryz.ntmps107
  go_wp2_with fail
  go_loopg [1, 4] (j0 + 1) (fun gg s1 s4 wr => ∃ (j q : Nat) (cur : List Evn), s1 = .int .i64 j ∧ j < q ∧ q ≤ gg ∧ cur.length = n ∧ j < n ∧ n ≤ 1000000 ∧ Aside (Own wr B 143 8 (encE a) (.slice (some ⟨g, 0, none⟩) n cap) cur) ∧ Aside (Onl g w wr) ∧ Aside (∀ e, e ∈ cur → e ∈ l) ∧ Aside (hup (bfr K) q j cur = R))
  case atStart => exact ⟨j0, j0 + 1, l, rfl, by omega, by omega, HN.out.symm, by have := HN.out; omega, by have := HN.out; omega, HO0.out, (show Aside _ from Onl.refl _ _), (show Aside _ from fun _ h => h), (show Aside _ from HR.out.symm)⟩
  case round =>
    obtain ⟨wq, rfl⟩ : ∃ wq : World, wq = wr := ⟨_, rfl⟩
    obtain ⟨j, q, cur, rfl, hjq, hqg, hcl, hjn, hn6, OW, ON, HM, HU⟩ := hrel
    have HQ := Lib.hid (HH.out.onl ON.out OW.out)
    have hON := Lib.hid ON.out
    have hOW := Lib.hid OW.out
    have hHM := Lib.hid HM.out
    have hHU := Lib.hid HU.out
    clear ON OW HM HU
    by_cases hz : j = 0
    · subst hz
      have e1 : ((0 : Int) - 1).tdiv 2 = 0 := by decide
      have HF : Hid (cur = R) := Lib.hid (by rw [← hHU.out, hup_zero])
      have HQF := Lib.hid HQ.out
      rw [HF.out] at HQF
      clear hjq hqg HQ HF
      go_wp2
      go_end0
      exact ⟨rfl, HQF.out, hON.out⟩
    · obtain ⟨m, hm⟩ : ∃ m, m = (j - 1) / 2 := ⟨_, rfl⟩
      obtain ⟨q, rfl⟩ : ∃ q', q = q' + 1 := ⟨q - 1, by omega⟩
      have e0 : (j : Int) - 1 = ((j - 1 : Nat) : Int) := by omega
      have e1 : ((j : Int) - 1).tdiv 2 = (m : Int) := by rw [Int.tdiv_eq_ediv_of_nonneg (by omega)]; omega
      have e2 : ((m : Int) == (j : Int)) = false := by rw [beq_eq_false_iff_ne]; omega
      have hmj : m < j := by omega
      have hml := Lib.hid (mLess HQ.out.cell.1)
      have hm1 := hml.out
      have HLS := less_any wq B g cap a K cur j m (by rw [hcl]; exact hOW.out) (by omega) (by omega) (fun e he => (HA.out e (hHM.out e he)).1.onl hON.out (HA.out e (hHM.out e he)).2)
      rw [hcl] at HLS
      have HLS := Lib.hid HLS
      have HM2 := Lib.hid hm
      clear hml hz e0 hm
      cases hlt : bfr K (hat cur j) (hat cur m)
      case false =>
        rw [hlt] at HLS
        have HF : Hid (cur = R) := Lib.hid (by rw [← hHU.out, hup_no HM2.out hlt])
        have HQF := Lib.hid HQ.out
        rw [HF.out] at HQF
        clear hlt HF
        go_wp2_with fail
        refine HLS.out.mono ?_
        rintro e w2 ⟨rfl, hb⟩
        have HB := Lib.hid hb
        clear hb
        go_wp2_with fail
        go_end0
        exact ⟨rfl, HQF.out.below HB.out, hON.out.below HB.out⟩
      case true =>
        rw [hlt] at HLS
        have HF : Hid (hup (bfr K) q m (hsw cur m j) = R) := Lib.hid (by rw [← hHU.out, hup_yes HM2.out (by omega) hlt])
        clear hlt
        go_wp2_with fail
        refine HLS.out.mono ?_
        rintro e w2 ⟨rfl, hb⟩
        have HQ2 := Lib.hid (HQ.out.below hb)
        have HON2 := Lib.hid (hON.out.below hb)
        have hm3 := mSwap HQ2.out.cell.1
        have HSW := swap_any w2 B g cap a cur m j (by rw [hcl]; exact HQ2.out.own) (by omega) (by omega)
        rw [hcl] at HSW
        have HSW := Lib.hid HSW
        clear hb hm1
        go_wp2_with fail
        refine HSW.out.mono ?_
        rintro e w3 ⟨rfl, ho3, hn3⟩
        have HO3 := Lib.hid ho3
        have HN3 := Lib.hid (HON2.out.trans hn3)
        clear ho3 hn3 hm3
        go_wp2_with fail
        go_roundg q
        case measure => omega
        case rel => exact ⟨m, q, hsw cur m j, rfl, by omega, by omega, by rw [hsw_len]; exact hcl, by omega, hn6, HO3.out, HN3.out, (show Aside _ from fun e he => hHM.out e (hsw_mem (by omega) (by omega) he)), HF.out⟩
end Go.Proofs.YtehbmnkbmgnkfaaGreatDoor

/- down, Push and Pop of container/heap at events: the walks. -/
namespace Go.Proofs.YtehbmnkbmgnkfaaGreatDoor
open Go.RowKit

theorem hkid_le {α : Type} [Inhabited α] (lt : α → α → Bool) (n i : Nat) (l : List α) (h : 2 * i + 1 < n) : i < hkid lt n i l ∧ hkid lt n i l < n := by
  unfold hkid
  split
  · rename_i h2; omega
  · omega
theorem hdn_end {α : Type} [Inhabited α] {lt : α → α → Bool} {n g i : Nat} {l : List α} (h : n ≤ 2 * i + 1) : hdn lt n g i l = l := by
  cases g with
  | zero => rfl
  | succ g => unfold hdn; rw [if_pos h]
theorem hdn_no {α : Type} [Inhabited α] {lt : α → α → Bool} {n g i k : Nat} {l : List α} (hk : k = hkid lt n i l) (h : lt (hat l k) (hat l i) = false) : hdn lt n g i l = l := by
  subst hk
  cases g with
  | zero => rfl
  | succ g =>
    unfold hdn
    split
    · rfl
    · rw [if_neg (by simp [h])]
theorem hdn_yes {α : Type} [Inhabited α] {lt : α → α → Bool} {n g i k : Nat} {l : List α} (hk : k = hkid lt n i l) (hn : 2 * i + 1 < n) (h : lt (hat l k) (hat l i) = true) : hdn lt n (g + 1) i l = hdn lt n g k (hsw l i k) := by
  subst hk
  show (if n ≤ 2 * i + 1 then l else if lt (hat l (hkid lt n i l)) (hat l i) = true then hdn lt n g (hkid lt n i l) (hsw l i (hkid lt n i l)) else l) = _
  rw [if_neg (by omega), if_pos h]
set_option maxRecDepth 100000 in
set_option maxHeartbeats 4000000 in
theorem down_any (w : World) (Q B g n cap : Nat) (a : Nat → Nat) (K : Nat → Akn) (l : List Evn) (N : Nat) (h : QAt Q B a w (.slice (some ⟨g, 0, none⟩) n cap) l) (hn : n = l.length) (hl : l.length ≤ 1000000) (hN : N ≤ n) (hn0 : 0 < n) (ha : ∀ e, e ∈ l → AskR w a K e.ak ∧ a e.ak ≠ g) :
    Calls Tryz.prog 86 #[.iface 145 (.pointer (some ⟨Q, 5, none⟩)), .int .i64 0, .int .i64 N] w fun r w' => (∃ b, r = .returned (.bool b)) ∧ QAt Q B a w' (.slice (some ⟨g, 0, none⟩) n cap) (hdn (bfr K) N l.length 0 l) ∧ Onl g w w' := by
  obtain ⟨R, hR⟩ : ∃ R, R = hdn (bfr K) N l.length 0 l := ⟨_, rfl⟩
  have HR := Lib.hid hR
  have HH := Lib.hid h
  have HA := Lib.hid ha
  have HO0 := Lib.hid h.own
  have HNE := Lib.hid hn
  rw [← hR]
  have hnl := nLess
  have hns := nSwap
  have hn6 : n ≤ 1000000 := by omega
  clear hR h ha hn hl
  go_enter Tryz.func86, Tryz.ntmps86
  go_wp2_with fail
  go_loopg [7, 8, 9, 10] (N + 1) (fun gg s7 s8 s9 s10 wr => ∃ (i q : Nat) (cur : List Evn), s7 = .int .i64 i ∧ i ≤ N ∧ N + 1 - i ≤ gg ∧ N ≤ q + i ∧ i < n ∧ cur.length = n ∧ Aside (Own wr B 143 8 (encE a) (.slice (some ⟨g, 0, none⟩) n cap) cur) ∧ Aside (Onl g w wr) ∧ Aside (∀ e, e ∈ cur → e ∈ l) ∧ Aside (hdn (bfr K) N q i cur = R))
  case atStart => exact ⟨0, l.length, l, rfl, by omega, by omega, by have := HNE.out; omega, hn0, HNE.out.symm, HO0.out, (show Aside _ from Onl.refl _ _), (show Aside _ from fun _ h => h), (show Aside _ from HR.out.symm)⟩
  case round =>
    obtain ⟨wq, rfl⟩ : ∃ wq : World, wq = wr := ⟨_, rfl⟩
    obtain ⟨i, q, cur, rfl, hiN, hgi, hqi, hin, hcl, OW, ON, HM, HU⟩ := hrel
    have HQ := Lib.hid (HH.out.onl ON.out OW.out)
    have hON := Lib.hid ON.out
    have hOW := Lib.hid OW.out
    have hHM := Lib.hid HM.out
    have hHU := Lib.hid HU.out
    clear ON OW HM HU
    obtain ⟨j1, hj1⟩ : ∃ j, j = 2 * i + 1 := ⟨_, rfl⟩
    have e1 : 2 * (i : Int) + 1 = (j1 : Int) := by omega
    by_cases hz : N ≤ j1
    · have hzz : (N : Int) ≤ (j1 : Int) := by omega
      have HF : Hid (cur = R) := Lib.hid (by rw [← hHU.out, hdn_end (by omega)])
      have HQF := Lib.hid HQ.out
      rw [HF.out] at HQF
      clear HQ HF hz hj1
      go_wp2
      go_ret
      exact ⟨⟨_, rfl⟩, HQF.out, hON.out⟩
    · have hzz : ¬ (N : Int) ≤ (j1 : Int) := by omega
      have hj10 : ¬ (j1 : Int) < 0 := by omega
      obtain ⟨q, rfl⟩ : ∃ q', q = q' + 1 := ⟨q - 1, by omega⟩
      obtain ⟨k, hk⟩ : ∃ k, k = hkid (bfr K) N i cur := ⟨_, rfl⟩
      have hkb := hkid_le (bfr K) N i cur (by omega)
      rw [← hk] at hkb
      have hnl1 := Lib.hid (fun (W : World) (hb : Below wq.heap.size wq W) (x y : Nat) (hx : x < n) (hy : y < n) => less_any W B g cap a K cur x y (by rw [hcl]; exact hOW.out.below hb (Nat.le_refl _)) (by omega) (by omega) (fun e he => ((HA.out e (hHM.out e he)).1.onl hON.out (HA.out e (hHM.out e he)).2).below hb))
      rw [hcl] at hnl1
      have HK := Lib.hid hk
      have HJ1 := Lib.hid hj1
      have hcw : ∀ W : World, Below wq.heap.size wq W → QAt Q B a W (.slice (some ⟨g, 0, none⟩) n cap) cur := fun W hb => HQ.out.below hb
      have HCW := Lib.hid hcw
      have HKU : Hid (hkid (bfr K) N i cur = if 2 * i + 2 < N ∧ bfr K (hat cur (2 * i + 2)) (hat cur (2 * i + 1)) = true then 2 * i + 2 else 2 * i + 1) := Lib.hid rfl
      clear hk hcw hj1
      obtain ⟨tb, htb⟩ : ∃ tb, tb = (decide (2 * i + 2 < N) && bfr K (hat cur (2 * i + 2)) (hat cur (2 * i + 1))) := ⟨_, rfl⟩
      have HTB := Lib.hid htb
      have HKT : Hid (k = if tb = true then 2 * i + 2 else 2 * i + 1) := Lib.hid (by
        rw [HK.out, HKU.out, htb]
        by_cases h : 2 * i + 2 < N ∧ bfr K (hat cur (2 * i + 2)) (hat cur (2 * i + 1)) = true
        · rw [if_pos h, if_pos (by simp [h.1, h.2])]
        · rw [if_neg h, if_neg (by simpa using h)])
      obtain ⟨j2, hj2⟩ : ∃ j, j = 2 * i + 2 := ⟨_, rfl⟩
      have e2 : (j1 : Int) + 1 = (j2 : Int) := by have := HJ1.out; omega
      have hj2b : j2 ≤ 2000002 := by omega
      have HJ2 := Lib.hid hj2
      clear htb hj2
      go_upto_region 6 with (fail)
      go_cut [33] (fun s33 wc => s33 = .bool tb ∧ Aside (Below wq.heap.size wq wc))
      case first =>
        have hj2 := HJ2.out
        have hj1 := HJ1.out
        have hm1 := mLess HQ.out.cell.1
        by_cases h2 : j2 < N
        · have h2z : (j2 : Int) < (N : Int) := by omega
          have HLS := Lib.hid (hnl1.out wq (Below.refl _ _) j2 j1 (by omega) (by omega))
          have hv : Hid (bfr K (hat cur j2) (hat cur j1) = tb) := Lib.hid (by rw [HTB.out, ← hj2, ← hj1]; simp [h2])
          clear hj2 hj1 h2
          go_wp2_with fail
          refine HLS.out.mono ?_
          rintro e w2 ⟨rfl, hb⟩
          have HB := Lib.hid hb
          clear hb
          go_wp2_with fail
          go_meet
          exact ⟨by rw [← hv.out], HB.out⟩
        · have h2z : ¬ (j2 : Int) < (N : Int) := by omega
          have hv : Hid (false = tb) := Lib.hid (by rw [HTB.out, ← hj2]; simp [h2])
          clear hj2 hj1 h2
          go_wp2_with fail
          go_meet
          exact ⟨by rw [← hv.out], (show Aside _ from Below.refl _ _)⟩
      obtain ⟨rfl, HBC⟩ := hcut
      obtain ⟨w2, rfl⟩ : ∃ w2, w2 = wc := ⟨_, rfl⟩
      go_upto_if 33 with (fail)
      go_cut [9] (fun s9 wc => s9 = .int .i64 k ∧ w2 = wc)
      case first =>
        cases tb
        case true =>
          have hv : Hid (k = j2) := Lib.hid (by rw [HJ2.out]; exact HKT.out)
          go_wp2_with fail
          go_meet
          exact ⟨by rw [hv.out], rfl⟩
        case false =>
          have hv : Hid (k = j1) := Lib.hid (by rw [HJ1.out]; exact HKT.out)
          go_wp2_with fail
          go_meet
          exact ⟨by rw [hv.out], rfl⟩
      obtain ⟨rfl, hw⟩ := hcut
      subst hw
      obtain ⟨hki, hkN⟩ := hkb
      have hm2 := mLess (HCW.out w2 HBC.out).cell.1
      have HLS := Lib.hid (hnl1.out w2 HBC.out k i (by omega) hin)
      cases hlt : bfr K (hat cur k) (hat cur i)
      case false =>
        rw [hlt] at HLS
        have HF : Hid (cur = R) := Lib.hid (by rw [← hHU.out, hdn_no HK.out hlt])
        have HQF := Lib.hid (HCW.out w2 HBC.out)
        rw [HF.out] at HQF
        have HBC2 := Lib.hid HBC.out
        clear hlt HF HBC
        go_wp2_with fail
        refine HLS.out.mono ?_
        rintro e w3 ⟨rfl, hb⟩
        have HB := Lib.hid hb
        clear hb
        go_wp2_with fail
        go_ret
        exact ⟨⟨_, rfl⟩, HQF.out.below HB.out, hON.out.below (HBC2.out.thru HB.out)⟩
      case true =>
        rw [hlt] at HLS
        have HF : Hid (hdn (bfr K) N q k (hsw cur i k) = R) := Lib.hid (by rw [← hHU.out, hdn_yes HK.out (by have := HJ1.out; omega) hlt])
        have HBC2 := Lib.hid HBC.out
        clear hlt HBC
        go_wp2_with fail
        refine HLS.out.mono ?_
        rintro e w3 ⟨rfl, hb⟩
        have HQ3 := Lib.hid (HCW.out w3 (HBC2.out.thru hb))
        have HON3 := Lib.hid (hON.out.below (HBC2.out.thru hb))
        have hm3 := mSwap HQ3.out.cell.1
        have HSW := swap_any w3 B g cap a cur i k (by rw [hcl]; exact HQ3.out.own) (by omega) (by omega)
        rw [hcl] at HSW
        have HSW := Lib.hid HSW
        clear hb hm2
        go_wp2_with fail
        refine HSW.out.mono ?_
        rintro e w4 ⟨rfl, ho4, hn4⟩
        have HO4 := Lib.hid ho4
        have HN4 := Lib.hid (HON3.out.trans hn4)
        clear ho4 hn4 hm3
        go_wp2_with fail
        go_roundg (N + 1 - k)
        case measure => omega
        case rel => exact ⟨k, q, hsw cur i k, rfl, by omega, by omega, by omega, by omega, by rw [hsw_len]; exact hcl, HO4.out, HN4.out, (show Aside _ from fun e he => hHM.out e (hsw_mem (by omega) (by omega) he)), HF.out⟩
end Go.Proofs.YtehbmnkbmgnkfaaGreatDoor

/- container/heap is a heap; the events are ordered. -/
namespace Go.Proofs.YtehbmnkbmgnkfaaGreatDoor
open Go.RowKit

section
variable {α : Type} [Inhabited α]
theorem hat_hsw {l : List α} {i j k : Nat} (hi : i < l.length) (hj : j < l.length) : hat (hsw l i j) k = if k = j then hat l i else if k = i then hat l j else hat l k := by
  have e : ∀ (m : List α) (k : Nat), hat m k = (m[k]?).getD default := fun m k => by unfold hat; rw [List.getD_eq_getElem?_getD]
  rw [e]
  unfold hsw
  by_cases h1 : k = j
  · subst h1
    rw [if_pos rfl, List.getElem?_set_self (by simpa using hj)]
    rfl
  · rw [if_neg h1, List.getElem?_set_ne (Ne.symm h1)]
    by_cases h2 : k = i
    · subst h2
      rw [if_pos rfl, List.getElem?_set_self hi]
      rfl
    · rw [if_neg h2, List.getElem?_set_ne (Ne.symm h2), ← e]
theorem hat_ext {l m : List α} (hl : l.length = m.length) (h : ∀ k, k < l.length → hat l k = hat m k) : l = m := by
  apply List.ext_getElem hl
  intro k h1 h2
  have := h k h1
  unfold hat at this
  simpa [List.getD_eq_getElem?_getD, List.getElem?_eq_getElem h1, List.getElem?_eq_getElem h2] using this
theorem hat_eq {l : List α} {i : Nat} (h : i < l.length) : hat l i = l[i] := by
  unfold hat
  rw [List.getD_eq_getElem?_getD, List.getElem?_eq_getElem h]
  rfl
theorem set_perm_cons {l : List α} {i : Nat} (hi : i < l.length) (x : α) : (hat l i :: l.set i x).Perm (x :: l) := by
  induction l generalizing i with
  | nil => simp at hi
  | cons a l ih =>
    cases i with
    | zero => simpa [hat] using List.Perm.swap x a l
    | succ i =>
      have h1 := ih (i := i) (by simpa using hi)
      have e : hat (a :: l) (i + 1) = hat l i := by simp [hat]
      rw [e, List.set_cons_succ]
      exact (List.Perm.swap a (hat l i) _).trans ((h1.cons a).trans (List.Perm.swap x a l))
theorem hsw_perm {l : List α} {i j : Nat} (hi : i < l.length) (hj : j < l.length) : (hsw l i j).Perm l := by
  unfold hsw
  have h1 := set_perm_cons hi (hat l j)
  have h2 := set_perm_cons (l := l.set i (hat l j)) (i := j) (by simpa using hj) (hat l i)
  have e : hat (l.set i (hat l j)) j = hat l j := by
    unfold hat
    rw [List.getD_eq_getElem?_getD]
    by_cases h : i = j
    · subst h; rw [List.getElem?_set_self hi]; rfl
    · rw [List.getElem?_set_ne h, ← List.getD_eq_getElem?_getD]
  rw [e] at h2
  have h3 : ((l.set i (hat l j)).set j (hat l i)).Perm l := by
    have h4 := h2.trans h1
    exact (List.perm_cons (hat l j)).1 h4
  exact h3
/-- Less is an order: what is not less goes on. -/
structure HOrd (lt : α → α → Bool) : Prop where
  tr : ∀ a b c, lt b a = false → lt c b = false → lt c a = false
  asy : ∀ a b, lt a b = true → lt b a = false
def isHeap (lt : α → α → Bool) (l : List α) : Prop := ∀ i, 0 < i → i < l.length → lt (hat l i) (hat l ((i - 1) / 2)) = false
variable {lt : α → α → Bool}
theorem hup_perm : ∀ (g j : Nat) (l : List α), j < l.length → (hup lt g j l).Perm l
  | 0, _, _, _ => List.Perm.refl _
  | g + 1, j, l, h => by
    unfold hup
    split
    · exact List.Perm.refl _
    · split
      · have hm : (j - 1) / 2 < l.length := by omega
        exact (hup_perm g _ _ (by rw [hsw_len]; exact hm)).trans (hsw_perm hm h)
      · exact List.Perm.refl _
theorem hup_heap (o : HOrd lt) : ∀ (g j : Nat) (l : List α), j < l.length → j < g → (∀ i, 0 < i → i < l.length → i ≠ j → lt (hat l i) (hat l ((i - 1) / 2)) = false) → (∀ c, 0 < c → c < l.length → (c - 1) / 2 = j → 0 < j → lt (hat l c) (hat l ((j - 1) / 2)) = false) → isHeap lt (hup lt g j l)
  | 0, _, _, _, h, _, _ => by omega
  | g + 1, j, l, hj, hg, h1, h2 => by
    unfold hup
    by_cases j0 : j = 0
    · rw [if_pos j0]
      exact fun i hi hl => h1 i hi hl (by omega)
    rw [if_neg j0]
    have hm : (j - 1) / 2 < l.length := by omega
    cases hb : lt (hat l j) (hat l ((j - 1) / 2))
    · rw [if_neg (by simp)]
      intro i hi hl
      by_cases e : i = j
      · rw [e]; exact hb
      · exact h1 i hi hl e
    rw [if_pos rfl]
    have hs := fun k => hat_hsw (k := k) hm hj
    refine hup_heap o g _ _ (by rw [hsw_len]; exact hm) (by omega) (fun i hi hl hne => ?_) (fun c hc hl hp hm0 => ?_)
    · rw [hsw_len] at hl
      rw [hs, hs]
      by_cases e1 : i = j
      · subst e1
        rw [if_pos rfl, if_neg (by omega), if_pos rfl]
        exact o.asy _ _ hb
      · rw [if_neg e1, if_neg hne]
        by_cases e2 : (i - 1) / 2 = j
        · rw [if_pos e2]
          exact h2 i hi hl e2 (by omega)
        · rw [if_neg e2]
          by_cases e3 : (i - 1) / 2 = (j - 1) / 2
          · rw [if_pos e3]
            have h3 := h1 i hi hl e1
            rw [e3] at h3
            exact o.tr _ _ _ (o.asy _ _ hb) h3
          · rw [if_neg e3]
            exact h1 i hi hl e1
    · rw [hsw_len] at hl
      rw [hs, hs]
      rw [if_neg (show ¬ ((j - 1) / 2 - 1) / 2 = j by omega), if_neg (show ¬ ((j - 1) / 2 - 1) / 2 = (j - 1) / 2 by omega)]
      have h3 := h1 ((j - 1) / 2) hm0 hm (by omega)
      by_cases e1 : c = j
      · rw [if_pos e1]; exact h3
      · rw [if_neg e1, if_neg (by omega)]
        have h4 := h1 c hc hl e1
        rw [hp] at h4
        exact o.tr _ _ _ h3 h4
theorem hdn_perm (n : Nat) : ∀ (g i : Nat) (l : List α), n ≤ l.length → (hdn lt n g i l).Perm l
  | 0, _, _, _ => List.Perm.refl _
  | g + 1, i, l, h => by
    unfold hdn
    split
    · exact List.Perm.refl _
    · rename_i hn
      split
      · have hk := hkid_le lt n i l (by omega)
        exact (hdn_perm n g _ _ (by rw [hsw_len]; exact h)).trans (hsw_perm (by omega) (by omega))
      · exact List.Perm.refl _
theorem hdn_past (n : Nat) : ∀ (g i : Nat) (l : List α), n ≤ l.length → i < l.length → ∀ k, n ≤ k → k ≠ i → hat (hdn lt n g i l) k = hat l k
  | 0, _, _, _, _, _, _, _ => rfl
  | g + 1, i, l, h, hi, k, hk, hki => by
    unfold hdn
    split
    · rfl
    · rename_i hn
      split
      · have hkd := hkid_le lt n i l (by omega)
        rw [hdn_past n g _ _ (by rw [hsw_len]; exact h) (by rw [hsw_len]; omega) k hk (by omega), hat_hsw hi (by omega), if_neg (by omega), if_neg hki]
      · rfl
theorem hkid_least (o : HOrd lt) (n i : Nat) (l : List α) {c : Nat} (hc : c < n) (hp : (c - 1) / 2 = i) (h0 : 0 < c) : lt (hat l c) (hat l (hkid lt n i l)) = false := by
  unfold hkid
  have irr : ∀ a, lt a a = false := fun a => by
    cases h : lt a a
    · rfl
    · exact (o.asy _ _ h).symm.trans h ▸ rfl
  have h2 : c = 2 * i + 1 ∨ c = 2 * i + 2 := by omega
  split
  · rename_i h
    rcases h2 with e | e
    · rw [e]; exact o.asy _ _ h.2
    · rw [e]; exact irr _
  · rename_i h
    rcases h2 with e | e
    · rw [e]; exact irr _
    · rw [e]
      cases hb : lt (hat l (2 * i + 2)) (hat l (2 * i + 1))
      · rfl
      · exact absurd ⟨by omega, hb⟩ h
theorem hdn_heap (o : HOrd lt) (n : Nat) : ∀ (g i : Nat) (l : List α), n ≤ l.length → i < l.length → n ≤ g + i → (∀ k, 0 < k → k < n → (k - 1) / 2 ≠ i → lt (hat l k) (hat l ((k - 1) / 2)) = false) → (∀ c, 0 < c → c < n → (c - 1) / 2 = i → 0 < i → lt (hat l c) (hat l ((i - 1) / 2)) = false) →
    ∀ k, 0 < k → k < n → lt (hat (hdn lt n g i l) k) (hat (hdn lt n g i l) ((k - 1) / 2)) = false
  | 0, i, l, h, hi, hg, h1, h2 => fun k hk hn => by
    show lt (hat l k) (hat l ((k - 1) / 2)) = false
    exact h1 k hk hn (by omega)
  | g + 1, i, l, h, hi, hg, h1, h2 => by
    intro k hk hn
    unfold hdn
    by_cases hle : n ≤ 2 * i + 1
    · rw [if_pos hle]
      exact h1 k hk hn (by omega)
    rw [if_neg hle]
    have hkd := hkid_le lt n i l (by omega)
    cases hb : lt (hat l (hkid lt n i l)) (hat l i)
    · rw [if_neg (by simp)]
      by_cases e : (k - 1) / 2 = i
      · rw [e]
        exact o.tr _ _ _ hb (hkid_least o n i l hn e hk)
      · exact h1 k hk hn e
    rw [if_pos rfl]
    have hs := fun k => hat_hsw (k := k) hi (show hkid lt n i l < l.length by omega)
    have hkp : (hkid lt n i l - 1) / 2 = i := by
      unfold hkid
      split <;> omega
    obtain ⟨q, hq⟩ : ∃ q, q = hkid lt n i l := ⟨_, rfl⟩
    have hle2 := fun c (hc : c < n) (hp : (c - 1) / 2 = i) (h0 : 0 < c) => hkid_least o n i l hc hp h0
    rw [← hq] at hkd hb hs hkp hle2 ⊢
    refine hdn_heap o n g q _ (by rw [hsw_len]; exact h) (by rw [hsw_len]; omega) (by omega) (fun k hk hn hne => ?_) (fun c hc hcn hp h0 => ?_) k hk hn
    · rw [hs, hs, if_neg hne]
      by_cases e1 : k = q
      · rw [if_pos e1, e1, hkp, if_pos rfl]
        exact o.asy _ _ hb
      · rw [if_neg e1]
        by_cases e2 : k = i
        · rw [if_pos e2, if_neg (by omega), e2]
          exact h2 q (by omega) hkd.2 hkp (by omega)
        · rw [if_neg e2]
          by_cases e3 : (k - 1) / 2 = i
          · rw [if_pos e3]
            exact hle2 k hn e3 hk
          · rw [if_neg e3]
            exact h1 k hk hn e3
    · rw [hs, hs, if_neg (by omega), if_neg (by omega), hkp, if_neg (by omega), if_pos rfl]
      have h4 := h1 c hc hcn (by omega)
      rw [hp] at h4
      exact h4
theorem hpush_perm (l : List α) (x : α) : (hpush lt l x).Perm (l ++ [x]) := hup_perm _ _ _ (by simp)
theorem hat_left {l m : List α} {i : Nat} (h : i < l.length) : hat (l ++ m) i = hat l i := by
  unfold hat
  rw [List.getD_eq_getElem?_getD, List.getD_eq_getElem?_getD, List.getElem?_append_left h]
theorem hpush_heap (o : HOrd lt) {l : List α} (h : isHeap lt l) (x : α) : isHeap lt (hpush lt l x) := by
  unfold hpush
  refine hup_heap o _ _ _ (by simp) (by omega) (fun i hi hl hne => ?_) (fun c hc hl hp _ => ?_)
  · simp at hl
    rw [hat_left (by omega), hat_left (by omega)]
    exact h i hi (by omega)
  · simp at hl
    omega
theorem heap_head (o : HOrd lt) {l : List α} (h : isHeap lt l) : ∀ (i : Nat), i < l.length → lt (hat l i) (hat l 0) = false := by
  intro i
  induction i using Nat.strongRecOn with
  | _ i ih =>
    intro hi
    by_cases h0 : i = 0
    · subst h0
      cases hb : lt (hat l 0) (hat l 0)
      · rfl
      · exact (o.asy _ _ hb).symm.trans hb ▸ rfl
    · exact o.tr _ _ _ (ih ((i - 1) / 2) (by omega) (by omega)) (h i (by omega) hi)
theorem heap_least (o : HOrd lt) {l : List α} (h : isHeap lt l) {x : α} (hx : x ∈ l) : lt x (hat l 0) = false := by
  obtain ⟨i, hi, rfl⟩ := List.getElem_of_mem hx
  rw [← hat_eq hi]
  exact heap_head o h i hi
theorem hpopL_len (l : List α) : (hpopL lt l).length = l.length := by
  unfold hpopL
  rw [hdn_len, hsw_len]
theorem hpop_fst {l : List α} (h : l ≠ []) : (hpop lt l).1 = hat l 0 := by
  have hl : 0 < l.length := List.length_pos_iff.2 h
  unfold hpop hpopL
  show hat _ _ = _
  by_cases h1 : l.length = 1
  · have e : ∀ g i (m : List α), hdn lt 0 g i m = m := fun g i m => by
      cases g with
      | zero => rfl
      | succ g => unfold hdn; rw [if_pos (Nat.zero_le _)]
    rw [show l.length - 1 = 0 by omega, e, hat_hsw (by omega) (by omega), if_pos rfl]
  · rw [hdn_past _ _ _ _ (by rw [hsw_len]; omega) (by rw [hsw_len]; omega) _ (Nat.le_refl _) (by omega), hat_hsw (by omega) (by omega), if_pos rfl]
theorem hpop_perm {l : List α} (h : l ≠ []) : ((hpop lt l).1 :: (hpop lt l).2).Perm l := by
  have hl : 0 < l.length := List.length_pos_iff.2 h
  have h1 : (hpopL lt l).Perm l := by
    unfold hpopL
    exact (hdn_perm _ _ _ _ (by rw [hsw_len]; omega)).trans (hsw_perm (by omega) (by omega))
  have e : (hpopL lt l).take (l.length - 1) ++ [hat (hpopL lt l) (l.length - 1)] = hpopL lt l := by
    have h2 : (hpopL lt l)[l.length - 1]? = some (hat (hpopL lt l) (l.length - 1)) := hat_some (by rw [hpopL_len]; omega)
    have h3 := List.take_add_one (l := hpopL lt l) (i := l.length - 1)
    rw [h2] at h3
    have h4 : List.take (l.length - 1 + 1) (hpopL lt l) = hpopL lt l := List.take_of_length_le (by rw [hpopL_len]; omega)
    rw [h4] at h3
    exact h3.symm
  show (hat (hpopL lt l) (l.length - 1) :: (hpopL lt l).take (l.length - 1)).Perm l
  refine List.Perm.trans ?_ h1
  have h5 : (hpopL lt l).Perm ((hpopL lt l).take (l.length - 1) ++ [hat (hpopL lt l) (l.length - 1)]) := by rw [e]
  exact (List.perm_append_comm (l₁ := [hat (hpopL lt l) (l.length - 1)])).trans h5.symm
theorem hpop_heap (o : HOrd lt) {l : List α} (h : isHeap lt l) (hne : l ≠ []) : isHeap lt (hpop lt l).2 := by
  have hl : 0 < l.length := List.length_pos_iff.2 hne
  intro i hi hil
  have hlen : ((hpop lt l).2).length = l.length - 1 := by
    show ((hpopL lt l).take (l.length - 1)).length = _
    rw [List.length_take, hpopL_len]; omega
  rw [hlen] at hil
  have et : ∀ k, k < l.length - 1 → hat ((hpopL lt l).take (l.length - 1)) k = hat (hpopL lt l) k := fun k hk => by
    unfold hat
    rw [List.getD_eq_getElem?_getD, List.getD_eq_getElem?_getD, List.getElem?_take, if_pos hk]
  show lt (hat ((hpopL lt l).take (l.length - 1)) i) (hat ((hpopL lt l).take (l.length - 1)) ((i - 1) / 2)) = false
  rw [et _ hil, et _ (by omega)]
  unfold hpopL
  have hs := fun k => hat_hsw (l := l) (i := 0) (j := l.length - 1) (k := k) (by omega) (by omega)
  refine hdn_heap o _ _ _ _ (by rw [hsw_len]; omega) (by rw [hsw_len]; omega) (by omega) (fun k hk hn hp => ?_) (fun c hc hcn hp h0 => absurd h0 (by omega)) i hi hil
  rw [hs, hs, if_neg (by omega), if_neg (by omega), if_neg (by omega), if_neg hp]
  exact h k hk (by omega)
end
theorem lexOrd {α β : Type} (f : α → β) (t : β → β → Bool) (asy : ∀ x y, t x y = true → t y x = false) (tot : ∀ x y, t x y = false → t y x = false → x = y) (tr : ∀ x y z, t x y = true → t y z = true → t x z = true)
    {r s : α → α → Bool} (hr : HOrd r) (h1 : ∀ a b, f a ≠ f b → s a b = t (f a) (f b)) (h2 : ∀ a b, f a = f b → s a b = r a b) : HOrd s where
  asy a b h := by
    by_cases e : f a = f b
    · rw [h2 _ _ e] at h
      rw [h2 _ _ e.symm]
      exact hr.asy _ _ h
    · rw [h1 _ _ e] at h
      rw [h1 _ _ (Ne.symm e)]
      exact asy _ _ h
  tr a b c h g := by
    have key : ∀ x y : α, s x y = false → f x = f y ∨ t (f y) (f x) = true := fun x y h => by
      by_cases e : f x = f y
      · exact .inl e
      · rw [h1 _ _ e] at h
        right
        cases hb : t (f y) (f x)
        · exact absurd (tot _ _ h hb) e
        · rfl
    rcases key _ _ h with e1 | e1
    · rcases key _ _ g with e2 | e2
      · rw [h2 _ _ e1] at h
        rw [h2 _ _ e2] at g
        rw [h2 _ _ (e2.trans e1)]
        exact hr.tr _ _ _ h g
      · have h4 : f c ≠ f a := fun e => by
          rw [e, e1] at e2
          exact Bool.noConfusion ((asy _ _ e2).symm.trans e2)
        rw [h1 _ _ h4, ← e1]
        exact asy _ _ e2
    · rcases key _ _ g with e2 | e2
      · have h4 : f c ≠ f a := fun e => by
          rw [← e, e2] at e1
          exact Bool.noConfusion ((asy _ _ e1).symm.trans e1)
        rw [h1 _ _ h4, e2]
        exact asy _ _ e1
      · have h3 := tr _ _ _ e1 e2
        have h4 : f c ≠ f a := fun e => by
          rw [e] at h3
          exact Bool.noConfusion ((asy _ _ h3).symm.trans h3)
        rw [h1 _ _ h4]
        exact asy _ _ h3
theorem bfr_ord (K : Nat → Akn) : HOrd (bfr K) := by
  have o1 : HOrd (fun e o : Evn => decide (e.ak < o.ak)) := ⟨fun a b c h g => by simp at *; omega, fun a b h => by simp at *; omega⟩
  have o2 : HOrd (fun e o : Evn => if ((K e.ak).ke.toList == (K o.ak).ke.toList) = false then Op.bytesLess (K e.ak).ke.toList (K o.ak).ke.toList else decide (e.ak < o.ak)) :=
    lexOrd (fun e : Evn => (K e.ak).ke.toList) (fun x y => decide (x < y)) (fun x y h => decide_eq_false (List.lt_asymm (of_decide_eq_true h))) (fun x y h g => List.le_antisymm (List.not_lt.1 (of_decide_eq_false g)) (List.not_lt.1 (of_decide_eq_false h)))
      (fun x y z h g => decide_eq_true (List.lt_trans (of_decide_eq_true h) (of_decide_eq_true g))) o1 (fun a b h => by rw [if_pos (by rw [beq_eq_false_iff_ne]; exact h), bytesLess_eq]) (fun a b h => if_neg (by simp [h]))
  have o3 : HOrd (fun e o : Evn => if (K e.ak).ca ≠ (K o.ak).ca then decide ((K e.ak).ca < (K o.ak).ca) else if ((K e.ak).ke.toList == (K o.ak).ke.toList) = false then Op.bytesLess (K e.ak).ke.toList (K o.ak).ke.toList else decide (e.ak < o.ak)) :=
    lexOrd (fun e : Evn => (K e.ak).ca) (fun x y => decide (x < y)) (fun x y h => by simp at *; omega) (fun x y h g => by simp at *; omega) (fun x y z h g => by simp at *; omega) o2 (fun a b h => if_pos h) (fun a b h => if_neg (by simp [h]))
  have o4 : HOrd (fun e o : Evn => if e.bk ≠ o.bk then e.bk else if (K e.ak).ca ≠ (K o.ak).ca then decide ((K e.ak).ca < (K o.ak).ca) else if ((K e.ak).ke.toList == (K o.ak).ke.toList) = false then Op.bytesLess (K e.ak).ke.toList (K o.ak).ke.toList else decide (e.ak < o.ak)) :=
    lexOrd (fun e : Evn => e.bk) (fun x y => x && !y) (fun x y h => by revert h; cases x <;> cases y <;> decide) (fun x y => by cases x <;> cases y <;> decide) (fun x y z => by cases x <;> cases y <;> cases z <;> decide) o3 (fun a b h => by rw [if_pos h]; revert h; cases a.bk <;> cases b.bk <;> decide) (fun a b h => if_neg (by simp [h]))
  exact lexOrd (fun e : Evn => e.ti) (fun x y => decide (x < y)) (fun x y h => by simp at *; omega) (fun x y h g => by simp at *; omega) (fun x y z h g => by simp at *; omega) o4 (fun a b h => if_pos h) (fun a b h => if_neg (by simp [h]))
/-- Of two different events one happens before the other. -/
theorem bfr_tot {K : Nat → Akn} {e o : Evn} (h : bfr K e o = false) (g : bfr K o e = false) : e.ti = o.ti ∧ e.bk = o.bk ∧ e.ak = o.ak := by
  unfold bfr at h g
  by_cases h1 : e.ti = o.ti
  · rw [if_neg (by simp [h1])] at h g
    by_cases h2 : e.bk = o.bk
    · rw [if_neg (by simp [h2])] at h g
      by_cases h3 : (K e.ak).ca = (K o.ak).ca
      · rw [if_neg (by simp [h3])] at h g
        by_cases h4 : (K e.ak).ke.toList = (K o.ak).ke.toList
        · rw [if_neg (by simp [h4])] at h g
          simp at h g
          exact ⟨h1, h2, by omega⟩
        · rw [if_pos (by rw [beq_eq_false_iff_ne]; exact h4), bytesLess_eq] at h
          rw [if_pos (by rw [beq_eq_false_iff_ne]; exact Ne.symm h4), bytesLess_eq] at g
          exact absurd (List.le_antisymm (List.not_lt.1 (of_decide_eq_false g)) (List.not_lt.1 (of_decide_eq_false h))) h4
      · rw [if_pos h3] at h
        rw [if_pos (Ne.symm h3)] at g
        simp at h g
        exact absurd (by omega) h3
    · rw [if_pos h2] at h
      rw [if_pos (Ne.symm h2)] at g
      rw [h, g] at h2
      exact absurd rfl h2
  · rw [if_pos h1] at h
    rw [if_pos (Ne.symm h1)] at g
    simp at h g
    exact absurd (by omega) h1
end Go.Proofs.YtehbmnkbmgnkfaaGreatDoor

/- first and some of the reference. -/
import Derived.Test.YtfkmdojnkdoffaaBstE
import Derived.Test.YtfkmdojnkdoffaaApp
namespace Go.Proofs.Ytfkmdojnkdoffaa
open Go.RowKit

theorem infoR : (Try.prog.info? 45).map (fun i => (i.zero, i.size, i.bytes)) = some (some (.agg #[.string ⟨#[]⟩, .int .i64 0, .int .i64 0, .int .i64 0]), 4, 40) := by kernel_rfl
theorem slR : SlT Try.prog 22 45 4 40 := by
  obtain ⟨i0, hi, hz0, hz1, hz2⟩ := info_parts infoR
  exact ⟨i0, _, Try.underlying22, hi, hz0, hz1, hz2, rfl, by decide, by decide⟩

set_option maxHeartbeats 1000000 in
theorem firstR_any (n : Nat) (hn : n ≤ 1000) (w : World) :
    Calls Try.prog 26 #[.int .i64 n] w (OwnRet w 3 1 encI (firstL n)) := by
  have HB0 := Lib.hid (Below.refl w.heap.size w)
  have HN := Lib.hid (fun k => firstL_next k)
  have HLN := Lib.hid (fun k => (firstL_ok k).1)
  go_enter Try.func26, Try.ntmps26
  go_wp2
  go_loopg [3, 4, 6] n (fun gg s3 _ s6 wr => ∃ k : Nat, k ≤ n ∧ n - k ≤ gg ∧ s6 = .int .i64 k ∧ Aside (Own wr w.heap.size 3 1 encI s3 (firstL k)) ∧ Aside (Below w.heap.size w wr))
  case atStart => exact ⟨0, Nat.zero_le _, by omega, by go_num, (show Own _ _ _ _ _ _ (firstL 0) from Own.nil), HB0.out⟩
  obtain ⟨k, hk, hg, rfl, OW, BW⟩ := hrel
  have HOW := Lib.hid OW.out
  have HBW := Lib.hid BW.out
  have hszw := BW.out.size
  clear OW BW
  by_cases hlt : k < n
  · have hltz : (k : Int) < (n : Int) := by omega
    have HNX := Lib.hid (HN.out k)
    have hnl : ((firstL k).length + 1) * 8 ≤ 140737488355328 := by rw [HLN.out]; omega
    generalize firstL k = M at HOW HNX hnl
    go_wp2_with (at_builtin; refine wpList_push rfl _ _ 24 rfl slI rfl rfl (k : Int) rfl rfl rfl HOW.out rfl hnl hszw ?_; intro v8 w8 ho8 hb8; have HO8 := Lib.hid ho8; have HB8 := Lib.hid (HBW.out.trans hb8); clear ho8 hb8)
    go_roundg (n - (k + 1))
    case measure => omega
    case rel => exact ⟨k + 1, by omega, by omega, by go_num, (show Own _ _ _ _ _ _ _ by rw [HNX.out]; exact HO8.out), HB8.out⟩
  · have hltz : ¬ (k : Int) < (n : Int) := by omega
    obtain rfl : k = n := by omega
    go_wp2
    go_ret
    exact OwnRet.mk HOW.out HBW.out

theorem selR_next (l : List Rng) {L : List Int} {k : Nat} {z : Int} (hz : L[k]? = some z) : selR l (L.take (k + 1)) = selR l (L.take k) ++ [l.getD z.toNat default] := by
  rw [take_next hz]; simp [selR]
theorem selR_len (l : List Rng) (L : List Int) : (selR l L).length = L.length := by simp [selR]

set_option maxRecDepth 100000 in
set_option maxHeartbeats 2000000 in
theorem someR_any (l : List Rng) (L : List Int) (u v : Value) (w : World) (hl : Sl w 4 encR u l) (hL : Sl w 1 encI v L) (hr : ∀ k, k ∈ L → 0 ≤ k ∧ k < (l.length : Int)) (hn : L.length ≤ 1000) :
    Calls Try.prog 29 #[u, v] w (OwnRet w 45 4 encR (selR l L)) := by
  have HEND : Hid (selR l (L.take L.length) = selR l L) := Lib.hid (by rw [List.take_length])
  have HNX0 := Lib.hid (fun k z (h : L[k]? = some z) => selR_next l h)
  have HSN := Lib.hid (fun M => selR_len l M)
  obtain ⟨ao, cap, rfl, hcap, hmax, hnil, hel⟩ := hl
  obtain ⟨bo, bap, rfl, hbap, hbax, hbil, hem⟩ := hL
  unfold maxLen at hmax hbax
  have HEL := Lib.hid hel
  have HEM := Lib.hid hem
  have HB0 := Lib.hid (Below.refl w.heap.size w)
  clear hel hem hnil hbil
  go_enter Try.func29, Try.ntmps29
  go_wp2
  go_loopg [5, 7, 10] L.length (fun gg s5 _ s10 wr => ∃ k : Nat, k ≤ L.length ∧ L.length - k ≤ gg ∧ s10 = .int .i64 k ∧ Aside (Own wr w.heap.size 45 4 encR s5 (selR l (L.take k))) ∧ Aside (Below w.heap.size w wr))
  case atStart => exact ⟨0, Nat.zero_le _, by omega, by go_num, (show Own _ _ _ _ _ _ (selR l (L.take 0)) from Own.nil), HB0.out⟩
  obtain ⟨k, hk, hg, rfl, OW, BW⟩ := hrel
  have HOW := Lib.hid OW.out
  have HBW := Lib.hid BW.out
  have hszw := BW.out.size
  clear OW BW
  by_cases hlt : k < L.length
  · have hltz : (k : Int) < (L.length : Int) := by omega
    obtain ⟨z, hz⟩ : ∃ z, L[k]? = some z := ⟨L[k], by simp [hlt]⟩
    have hzr := hr z (List.mem_of_getElem? hz)
    obtain ⟨q, rfl⟩ := Int.eq_ofNat_of_zero_le hzr.1
    have hql : q < l.length := by omega
    have hqz : (q : Int) < (l.length : Int) := by omega
    obtain ⟨x, hx⟩ : ∃ x, l[q]? = some x := ⟨l[q], by simp [hql]⟩
    obtain ⟨b, off, hao, hc⟩ := HEL.out q x hx
    obtain ⟨b2, off2, hbo, hd⟩ := HEM.out k _ hz
    subst hao hbo
    have hblt : b < w.heap.size := World.block_lt_of_cell? w ⟨b, off + q * 4 + 0, none⟩ (hc 0 _ rfl)
    have hblt2 : b2 < w.heap.size := World.block_lt_of_cell? w ⟨b2, off2 + k * 1 + 0, none⟩ (hd 0 _ rfl)
    have d0 : wr.cell? ⟨b2, off2 + k, none⟩ = some (.int .i64 q) := by simpa using (HBW.out.cell (p := ⟨b2, off2 + k * 1 + 0, none⟩) hblt2).trans (hd 0 _ rfl)
    have c0 : wr.cell? ⟨b, off + q * 4, none⟩ = some (.string x.na) := (HBW.out.cell (p := ⟨b, off + q * 4 + 0, none⟩) hblt).trans (hc 0 _ rfl)
    have c1 : wr.cell? ⟨b, off + q * 4 + 1, none⟩ = some (.int .i64 x.ra) := (HBW.out.cell (p := ⟨b, off + q * 4 + 1, none⟩) hblt).trans (hc 1 _ rfl)
    have c2 : wr.cell? ⟨b, off + q * 4 + 2, none⟩ = some (.int .i64 x.he) := (HBW.out.cell (p := ⟨b, off + q * 4 + 2, none⟩) hblt).trans (hc 2 _ rfl)
    have c3 : wr.cell? ⟨b, off + q * 4 + 3, none⟩ = some (.int .i64 x.qu) := (HBW.out.cell (p := ⟨b, off + q * 4 + 3, none⟩) hblt).trans (hc 3 _ rfl)
    have HNX : Hid (selR l (L.take (k + 1)) = selR l (L.take k) ++ [x]) := Lib.hid (by rw [HNX0.out k _ hz, Int.toNat_natCast, getD_of hx])
    have hnl : ((selR l (L.take k)).length + 1) * 40 ≤ 140737488355328 := by rw [HSN.out, List.length_take]; omega
    have hbw : b < wr.heap.size := by omega
    have hbw2 : b2 < wr.heap.size := by omega
    generalize selR l (L.take k) = M at HOW HNX hnl
    clear hx hz hc hd
    go_wp2_with (at_builtin; refine wpList_push rfl _ _ 22 rfl slR rfl rfl x rfl rfl rfl HOW.out rfl hnl hszw ?_; intro v8 w8 ho8 hb8; have HO8 := Lib.hid ho8; have HB8 := Lib.hid (HBW.out.trans hb8); clear ho8 hb8)
    go_roundg (L.length - (k + 1))
    case measure => omega
    case rel => exact ⟨k + 1, by omega, by omega, by go_num, (show Own _ _ _ _ _ _ _ by rw [HNX.out]; exact HO8.out), HB8.out⟩
  · have hltz : ¬ (k : Int) < (L.length : Int) := by omega
    obtain rfl : k = L.length := by omega
    go_wp2
    go_ret
    exact OwnRet.mk (by rw [← HEND.out]; exact HOW.out) HBW.out

/-- What a choice is worth. -/
def wOf (l : List Rng) (c : List Vw) (L : List Int) : Int := wtR (selR l L) c

set_option maxRecDepth 100000 in
set_option maxHeartbeats 2000000 in
theorem value_any (l : List Rng) (c : List Vw) (L : List Int) (u vc v : Value) (w : World) (p q : Nat) (hl : Sl w 4 encR u l) (hc : Sl w 3 encV vc c) (hL : Sl w 1 encI v L) (hr : ∀ k, k ∈ L → 0 ≤ k ∧ k < (l.length : Int)) (hn : L.length ≤ 1000)
    (hp : w.heap[p]? = some (.cells #[u] 22 (0, 0))) (hq : w.heap[q]? = some (.cells #[vc] 23 (0, 0)))
    (hqu : ∀ x, x ∈ l → 0 ≤ x.qu ∧ x.qu ≤ 1000000) (hv : ∀ v, v ∈ c → 1 ≤ v.we ∧ v.we ≤ 1000000) (hlen : c.length ≤ 200) :
    Calls Try.prog 22 #[v, .pointer (some ⟨p, 0, none⟩), .pointer (some ⟨q, 0, none⟩)] w fun e w' => e = .returned (.int .i64 (wOf l c L)) ∧ Below w.heap.size w w' := by
  have HEND : Hid (selR l (L.take L.length) = selR l L) := Lib.hid (by rw [List.take_length])
  have HNX0 := Lib.hid (fun k z (h : L[k]? = some z) => selR_next l h)
  have HSN := Lib.hid (fun M => selR_len l M)
  have HCV := Lib.hid hc
  have HP := Lib.hid hp
  have HQ := Lib.hid hq
  have hmem : ∀ x, x ∈ selR l L → x ∈ l := fun x hx => by
    unfold selR at hx
    obtain ⟨k, hk, rfl⟩ := List.mem_map.1 hx
    have := hr k hk
    rw [getD_of (List.getElem?_eq_getElem (by omega : k.toNat < l.length))]
    exact List.getElem_mem _
  have HWO := Lib.hid (fun W s (hs : Sl W 4 encR s (selR l L)) (hcc : Sl W 3 encV vc c) => worth_any W (selR l L) s c vc hs hcc (fun x hx => hqu x (hmem x hx)) hv hlen)
  have HWD : Hid (wOf l c L = wtR (selR l L) c) := Lib.hid rfl
  obtain ⟨co, ccap, rfl, _, _, _, _⟩ := hc
  obtain ⟨ao, cap, rfl, hcap, hmax, hnil, hel⟩ := hl
  obtain ⟨bo, bap, rfl, hbap, hbax, hbil, hem⟩ := hL
  unfold maxLen at hmax hbax
  have HEL := Lib.hid hel
  have HEM := Lib.hid hem
  have HB0 := Lib.hid (Below.refl w.heap.size w)
  clear hel hem hnil hbil hp hq hqu hv hmem
  go_enter Try.func22, Try.ntmps22
  go_wp2
  go_loopg [5, 7, 10] L.length (fun gg s5 _ s10 wr => ∃ k : Nat, k ≤ L.length ∧ L.length - k ≤ gg ∧ s10 = .int .i64 k ∧ Aside (Own wr w.heap.size 45 4 encR s5 (selR l (L.take k))) ∧ Aside (Below w.heap.size w wr))
  case atStart => exact ⟨0, Nat.zero_le _, by omega, by go_num, (show Own _ _ _ _ _ _ (selR l (L.take 0)) from Own.nil), HB0.out⟩
  obtain ⟨k, hk, hg, rfl, OW, BW⟩ := hrel
  have HOW := Lib.hid OW.out
  have HBW := Lib.hid BW.out
  have hszw := BW.out.size
  clear OW BW
  have p0 := (cell_of_block (i := 0) ((HBW.out.block _ (lt_of_block HP.out)).trans HP.out)).trans rfl
  have hpw := Nat.lt_of_lt_of_le (lt_of_block HP.out) hszw
  have q0 := (cell_of_block (i := 0) ((HBW.out.block _ (lt_of_block HQ.out)).trans HQ.out)).trans rfl
  have hqw := Nat.lt_of_lt_of_le (lt_of_block HQ.out) hszw
  by_cases hlt : k < L.length
  · have hltz : (k : Int) < (L.length : Int) := by omega
    obtain ⟨z, hz⟩ : ∃ z, L[k]? = some z := ⟨L[k], by simp [hlt]⟩
    have hzr := hr z (List.mem_of_getElem? hz)
    obtain ⟨q', rfl⟩ := Int.eq_ofNat_of_zero_le hzr.1
    have hql : q' < l.length := by omega
    have hqz : (q' : Int) < (l.length : Int) := by omega
    obtain ⟨x, hx⟩ : ∃ x, l[q']? = some x := ⟨l[q'], by simp [hql]⟩
    obtain ⟨b, off, hao, hc⟩ := HEL.out q' x hx
    obtain ⟨b2, off2, hbo, hd⟩ := HEM.out k _ hz
    subst hao hbo
    have hblt : b < w.heap.size := World.block_lt_of_cell? w ⟨b, off + q' * 4 + 0, none⟩ (hc 0 _ rfl)
    have hblt2 : b2 < w.heap.size := World.block_lt_of_cell? w ⟨b2, off2 + k * 1 + 0, none⟩ (hd 0 _ rfl)
    have d0 : wr.cell? ⟨b2, off2 + k, none⟩ = some (.int .i64 q') := by simpa using (HBW.out.cell (p := ⟨b2, off2 + k * 1 + 0, none⟩) hblt2).trans (hd 0 _ rfl)
    have c0 : wr.cell? ⟨b, off + q' * 4, none⟩ = some (.string x.na) := (HBW.out.cell (p := ⟨b, off + q' * 4 + 0, none⟩) hblt).trans (hc 0 _ rfl)
    have c1 : wr.cell? ⟨b, off + q' * 4 + 1, none⟩ = some (.int .i64 x.ra) := (HBW.out.cell (p := ⟨b, off + q' * 4 + 1, none⟩) hblt).trans (hc 1 _ rfl)
    have c2 : wr.cell? ⟨b, off + q' * 4 + 2, none⟩ = some (.int .i64 x.he) := (HBW.out.cell (p := ⟨b, off + q' * 4 + 2, none⟩) hblt).trans (hc 2 _ rfl)
    have c3 : wr.cell? ⟨b, off + q' * 4 + 3, none⟩ = some (.int .i64 x.qu) := (HBW.out.cell (p := ⟨b, off + q' * 4 + 3, none⟩) hblt).trans (hc 3 _ rfl)
    have HNX : Hid (selR l (L.take (k + 1)) = selR l (L.take k) ++ [x]) := Lib.hid (by rw [HNX0.out k _ hz, Int.toNat_natCast, getD_of hx])
    have hnl : ((selR l (L.take k)).length + 1) * 40 ≤ 140737488355328 := by rw [HSN.out, List.length_take]; omega
    have hbw : b < wr.heap.size := by omega
    have hbw2 : b2 < wr.heap.size := by omega
    generalize selR l (L.take k) = M at HOW HNX hnl
    clear hx hz hc hd
    go_wp2_with (at_builtin; refine wpList_push rfl _ _ 22 rfl slR rfl rfl x rfl rfl rfl HOW.out rfl hnl hszw ?_; intro v8 w8 ho8 hb8; have HO8 := Lib.hid ho8; have HB8 := Lib.hid (HBW.out.trans hb8); clear ho8 hb8)
    go_roundg (L.length - (k + 1))
    case measure => omega
    case rel => exact ⟨k + 1, by omega, by omega, by go_num, (show Own _ _ _ _ _ _ _ by rw [HNX.out]; exact HO8.out), HB8.out⟩
  · have hltz : ¬ (k : Int) < (L.length : Int) := by omega
    obtain rfl : k = L.length := by omega
    have HS := Lib.hid (show Sl wr 4 encR _ (selR l L) by rw [← HEND.out]; exact HOW.out.sl encR_len)
    go_wp2_with fail
    refine (HWO.out _ _ HS.out (HCV.out.below HBW.out (Nat.le_refl _))).mono ?_
    rintro e w2 ⟨rfl, hb⟩
    go_wp2
    go_ret
    exact ⟨ret_int HWD.out.symm, HBW.out.thru hb⟩
end Go.Proofs.Ytfkmdojnkdoffaa

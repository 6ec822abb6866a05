/- Some and Below of the reference. -/
import Derived.Test.YtfkmdojnkdoffaaBstF
namespace Go.Proofs.Ytfkmdojnkdoffaa
open Go.RowKit

set_option maxRecDepth 100000 in
set_option maxHeartbeats 2000000 in
theorem some_any (w : World) (l : List Rng) (v u : Value) (js : List Int) (hl : Sl w 4 encR v l) (hu : Sl w 1 encI u js) (hjl : js.length ≤ 1000) (hin : ∀ x, x ∈ js → 0 ≤ x ∧ x < (l.length : Int)) :
    Calls Try.prog 15 #[v, u] w (SlRet w 4 encR (selR l js)) := by
  have HIN := Lib.hid hin
  obtain ⟨ao, cap, rfl, hcap, hmax, _, hel⟩ := hl
  unfold maxLen at hmax
  have HEL := Lib.hid hel
  obtain ⟨uo, ucap, rfl, hucap, humax, _, hule⟩ := hu
  unfold maxLen at humax
  have HUE := Lib.hid hule
  have HRET : Hid (selR l js = js.map fun z => l.getD z.toNat default) := Lib.hid rfl
  clear hel hule hin
  go_enter Try.func15, Try.ntmps15
  go_wp2
  go_loopg [5, 10] js.length (fun gg s5 s10 wr => ∃ k : Nat, k ≤ js.length ∧ js.length - k ≤ gg ∧ s10 = .int .i64 k ∧ Aside (Own wr w.heap.size 45 4 encR s5 ((js.take k).map fun z => l.getD z.toNat default)) ∧ Aside (Below w.heap.size w wr))
  case atStart => exact ⟨0, Nat.zero_le _, by omega, rfl, (show Own _ _ _ _ _ _ _ from Own.nil), Below.refl _ w⟩
  obtain ⟨k, hk, hg, rfl, OW, BW⟩ := hrel
  have HOW := Lib.hid OW.out
  by_cases hlt : k < js.length
  · have hltz : (k : Int) < (js.length : Int) := by omega
    obtain ⟨z, hz⟩ : ∃ z, js[k]? = some z := ⟨js[k], by simp [hlt]⟩
    obtain ⟨hz0, hz1⟩ := HIN.out z (List.mem_of_getElem? hz)
    obtain ⟨q, rfl⟩ := Int.eq_ofNat_of_zero_le hz0
    have hql : q < l.length := by omega
    obtain ⟨bc, offc, hao, hd⟩ := HUE.out k (q : Int) hz
    subst hao
    have e1 : w.cell? ⟨bc, offc + k, none⟩ = some (.int .i64 (q : Int)) := by have := hd 0 _ rfl; simpa using this
    have cq := (BW.out.cell (p := ⟨bc, offc + k, none⟩) (World.block_lt_of_cell? w _ e1)).trans e1
    obtain ⟨x, hx⟩ : ∃ x, l[q]? = some x := ⟨l[q], by simp [hql]⟩
    obtain ⟨b, off, hao, hc⟩ := HEL.out q x hx
    subst hao
    have hblt : b < w.heap.size := World.block_lt_of_cell? w ⟨b, off + q * 4 + 0, none⟩ (hc 0 _ rfl)
    have c0 : wr.cell? ⟨b, off + q * 4, none⟩ = some (.string x.na) := (BW.out.cell (p := ⟨b, off + q * 4 + 0, none⟩) hblt).trans (hc 0 _ rfl)
    have c1 := (BW.out.cell (p := ⟨b, off + q * 4 + 1, none⟩) hblt).trans (hc 1 _ rfl)
    have c2 := (BW.out.cell (p := ⟨b, off + q * 4 + 2, none⟩) hblt).trans (hc 2 _ rfl)
    have c3 := (BW.out.cell (p := ⟨b, off + q * 4 + 3, none⟩) hblt).trans (hc 3 _ rfl)
    have HTK : Hid (((js.take k).map fun z => l.getD z.toNat default) ++ [x] = (js.take (k + 1)).map fun z => l.getD z.toNat default) := Lib.hid (by rw [take_next hz, List.map_append]; simp [hx])
    have hcnt : Hid ((((js.take k).map fun z => l.getD z.toNat default).length + 1) * 40 ≤ 140737488355328) := Lib.hid (by simp; omega)
    have HBW := Lib.hid BW.out
    have hszw := BW.out.size
    obtain ⟨ao5, L5, cp5, rfl⟩ := Own.slv encR_len OW.out
    clear hd e1 hc hx hz hz0 OW BW
    go_wp2_with (at_builtin; refine wpList_push rfl _ _ 22 rfl slR rfl rfl x rfl rfl rfl HOW.out rfl hcnt.out hszw ?_; intro v5 w5 ho5 hb5; obtain ⟨ao6, L6, cp6, rfl⟩ := Own.slv encR_len ho5; have HO5 := Lib.hid ho5; have HB5 := Lib.hid (HBW.out.trans hb5); clear ho5 hb5)
    go_roundg (js.length - (k + 1))
    case measure => omega
    case rel => exact ⟨k + 1, by omega, by omega, by go_num, (show Own _ _ _ _ _ _ _ by rw [← HTK.out]; exact HO5.out), HB5.out⟩
  · obtain rfl : k = js.length := by omega
    have HS := Lib.hid (Own.sl OW.out encR_len)
    rw [List.take_length, ← HRET.out] at HS
    have HBF := Lib.hid BW.out
    go_wp2
    go_ret
    exact SlRet.mk HS.out HBF.out


theorem below_any (x n : Int) (w : World) (hn : 1 ≤ n) (hn1 : n ≤ 9223372036854775807) (hx : -9223372036854775808 ≤ x ∧ x ≤ 9223372036854775807) :
    Calls Try.prog 35 #[.int .i64 x, .int .i64 n] w fun e w' => (∃ z : Int, e = .returned (.int .i64 z) ∧ 0 ≤ z ∧ z < n) ∧ w = w' := by
  have h1 := Int.tmod_lt_of_pos x (show 0 < n by omega)
  have h2 : -n < x.tmod n := by
    have := Int.natAbs_tmod x n
    have h3 : (x.tmod n).natAbs < n.natAbs := by rw [this]; exact Nat.mod_lt _ (by omega)
    omega
  obtain ⟨hx0, hx1⟩ := hx
  have e1 : ¬ n = 0 := by omega
  obtain ⟨z, hz⟩ : ∃ z, z = x.tmod n := ⟨_, rfl⟩
  rw [← hz] at h1 h2
  have hz' : x.tmod n = z := hz.symm
  clear hz
  by_cases h0 : z < 0
  · go_enter Try.func35, Try.ntmps35
    go_wp2
    go_ret
    exact ⟨⟨_, rfl, by omega, by omega⟩, rfl⟩
  · go_enter Try.func35, Try.ntmps35
    go_wp2
    go_ret
    exact ⟨⟨_, rfl, by omega, by omega⟩, rfl⟩
end Go.Proofs.Ytfkmdojnkdoffaa

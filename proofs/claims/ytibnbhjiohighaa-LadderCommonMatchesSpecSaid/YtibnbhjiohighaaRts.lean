/- ratesOf of the program. -/
import Derived.Test.YtibnbhjiohighaaComL
import Derived.Test.YtibnbhjiohighaaSrtK
import Derived.Test.YtibnbhjiohighaaOnl
namespace Go.Proofs.Ytibnbhjiohighaa
open Go.RowKit

set_option maxRecDepth 100000 in
set_option maxHeartbeats 4000000 in
theorem ratesOf_any (w : World) (F : List Flm) (v : Value) (hl : Sl w 1 encFl v F) (hw : ∀ f, f ∈ F → WfF w f) (h50 : F.length ≤ 50) (h100 : ∀ f, f ∈ F → f.l.length ≤ 100) :
    Calls Try.prog 9 #[v] w (OwnRet w 3 1 encI (rts F)) := by
  have HW := Lib.hid hw
  have H100 := Lib.hid h100
  have HAL := Lib.hid (fun k => allRa_len (F := F.take k) (fun f hf => h100 f (List.mem_of_mem_take hf)))
  have HALF := Lib.hid (allRa_len h100)
  obtain ⟨ao, cap, rfl, hcap, hmax, hnil, hel⟩ := hl
  unfold maxLen at hmax
  have HEL := Lib.hid hel
  clear hel hw h100
  go_enter Try.func9, Try.ntmps9
  go_wp2
  go_loopg [3, 10] F.length (fun gg s3 s10 wr => ∃ k : Nat, k ≤ F.length ∧ F.length - k ≤ gg ∧ s10 = .int .i64 k ∧ Aside (Own wr w.heap.size 3 1 encI s3 (allRa (F.take k))) ∧ Aside (Below w.heap.size w wr))
  case atStart => exact ⟨0, Nat.zero_le _, by omega, by go_num, (show Own _ _ _ _ _ _ (allRa (F.take 0)) from Own.nil), Below.refl _ w⟩
  case round =>
    obtain ⟨k, hk, hg, rfl, OW, BW⟩ := hrel
    have OW := Lib.hid OW.out
    have BW := Lib.hid BW.out
    by_cases hlt : k < F.length
    · have hltz : (k : Int) < (F.length : Int) := by omega
      obtain ⟨f, hf⟩ : ∃ f, F[k]? = some f := ⟨F[k], by simp [hlt]⟩
      obtain ⟨b, off, rfl, hcc⟩ := HEL.out k f hf
      have c0 : wr.cell? ⟨b, off + k, none⟩ = some f.v := (BW.out.cell (p := ⟨b, off + k, none⟩) (World.block_lt_of_cell? w _ (by have h := hcc 0 _ rfl; simpa using h))).trans (by have h := hcc 0 _ rfl; simpa using h)
      have hfw := (HW.out f (List.mem_of_getElem? hf)).1
      have hf100 := H100.out f (List.mem_of_getElem? hf)
      have HNX := Lib.hid (allRa_next hf)
      have hal := HAL.out k
      have hal2 : (allRa (F.take k)).length ≤ 5000 := by rw [List.length_take] at hal; omega
      have HA5 := Lib.hid hal2
      obtain ⟨v0, l0⟩ := f
      simp only at c0 hfw hf100 HNX
      obtain ⟨fo, fcap, rfl, hfc, hfm, _, hfel⟩ := hfw
      unfold maxLen at hfm
      have HFE := Lib.hid hfel
      obtain ⟨P, hP⟩ : ∃ P, P = allRa (F.take k) := ⟨_, rfl⟩
      rw [← hP] at OW HNX HA5
      clear hf hcc hfel hal hal2 hP
      obtain ⟨w5, rfl⟩ : ∃ w5, w5 = wr := ⟨wr, rfl⟩
      go_wp2
      go_loopg [3, 16] l0.length (fun gg s3 s16 wq => ∃ j : Nat, j ≤ l0.length ∧ l0.length - j ≤ gg ∧ s16 = .int .i64 j ∧ Aside (Own wq w.heap.size 3 1 encI s3 (P ++ raOf (l0.take j))) ∧ Aside (Below w.heap.size w wq))
      case atStart => exact ⟨0, Nat.zero_le _, by omega, by go_num, (show Own _ _ _ _ _ _ _ by simpa [raOf] using OW.out), BW.out⟩
      case round =>
        obtain ⟨j, hj, hg2, rfl, OQ, BQ⟩ := hrel
        have OQ := Lib.hid OQ.out
        have BQ := Lib.hid BQ.out
        by_cases hlt2 : j < l0.length
        · have hltz2 : (j : Int) < (l0.length : Int) := by omega
          obtain ⟨x, hx⟩ : ∃ x, l0[j]? = some x := ⟨l0[j], by simp [hlt2]⟩
          obtain ⟨b2, off2, rfl, hcd⟩ := HFE.out j x hx
          have hb2 : b2 < w.heap.size := World.block_lt_of_cell? w _ (hcd 0 _ rfl)
          have toW : ∀ o u, w.cell? ⟨b2, o, none⟩ = some u → wr.cell? ⟨b2, o, none⟩ = some u := fun o u hu => (BQ.out.cell (p := ⟨b2, o, none⟩) hb2).trans hu
          have d0 : wr.cell? ⟨b2, off2 + j * 4, none⟩ = some (.string x.na) := toW _ _ (by have h := hcd 0 _ rfl; simpa using h)
          have d1 : wr.cell? ⟨b2, off2 + j * 4 + 1, none⟩ = some (.int .i64 x.ra) := toW _ _ (hcd 1 _ rfl)
          have d2 : wr.cell? ⟨b2, off2 + j * 4 + 2, none⟩ = some (.int .i64 x.he) := toW _ _ (hcd 2 _ rfl)
          have d3 : wr.cell? ⟨b2, off2 + j * 4 + 3, none⟩ = some (.int .i64 x.qu) := toW _ _ (hcd 3 _ rfl)
          have hne2 : Hid (P ++ raOf (l0.take (j + 1)) = (P ++ raOf (l0.take j)) ++ [x.ra]) := Lib.hid (by rw [raOf_next hx, List.append_assoc])
          have hlq : Hid ((P ++ raOf (l0.take j)).length ≤ 6000) := Lib.hid (by
            have := HA5.out
            rw [List.length_append]
            unfold raOf
            rw [List.length_map, List.length_take]
            omega)
          obtain ⟨so, sn, sc, rfl⟩ := Own.slv encI_len OQ.out
          have HAO := Lib.hid (OQ.out.al (.cells #[.string x.na, .int .i64 x.ra, .int .i64 x.he, .int .i64 x.qu] 36))
          have hwsz : w.heap.size ≤ wr.heap.size := BQ.out.size
          have HAB := Lib.hid (BQ.out.alloc hwsz (.cells #[.string x.na, .int .i64 x.ra, .int .i64 x.he, .int .i64 x.qu] 36))
          clear hx hcd toW
          go_wp2_with (at_builtin; go_loud (refine wpList_push (A := wr.heap.size + 1) (v := .slice so sn sc) rfl _ _ 23 rfl slI rfl rfl x.ra rfl rfl rfl HAO.out (by simp) (by have := hlq.out; omega) (by simp; omega) ?_); intro v5 w8 ho8 hb8; rw [← hne2.out] at ho8; have HO8 := Lib.hid ho8; have HB8 := Lib.hid (HAB.out.trans hb8); clear ho8 hb8)
          go_roundg (l0.length - (j + 1))
          case measure => omega
          case rel => exact ⟨j + 1, by omega, by omega, by go_num, HO8.out, HB8.out⟩
        · obtain rfl : j = l0.length := by omega
          have hltz2 : ¬ (l0.length : Int) < (l0.length : Int) := by omega
          have HOZ : Hid (Own wr w.heap.size 3 1 encI _ (allRa (F.take (k + 1)))) := Lib.hid (by rw [HNX.out]; have := OQ.out; rw [List.take_length] at this; exact this)
          go_wp2
          go_roundg (F.length - (k + 1))
          case measure => omega
          case rel => exact ⟨k + 1, by omega, by omega, by go_num, HOZ.out, BQ.out⟩
    · obtain rfl : k = F.length := by omega
      have hltz : ¬ (F.length : Int) < (F.length : Int) := by omega
      have hO := OW.out
      rw [List.take_length] at hO
      have hal := HALF.out
      have hal2 : (allRa F).length ≤ 10000 := by omega
      have HSO := Lib.hid (sortO wr w.heap.size _ (allRa F) hO BW.out.size hal2)
      have hal3 : (sortI (allRa F)).length ≤ 10000 := by rw [sortI_len]; exact hal2
      have HS3 := Lib.hid hal3
      clear hO hal hal2 hal3 OW
      go_wp2_with (first | (go_at_call 16; refine HSO.out.mono ?_; rintro e w2 ⟨rfl, ho2, hb2⟩; have HO2 := Lib.hid ho2; have HB2 := Lib.hid (BW.out.trans hb2); clear ho2 hb2) | (go_at_call 17; refine (compactO w2 w.heap.size _ _ HO2.out HS3.out).mono ?_; rintro e w3 ⟨v3, rfl, ho3, hb3⟩))
      go_ret
      exact OwnRet.mk ho3 (HB2.out.trans hb3)
end Go.Proofs.Ytibnbhjiohighaa

/- checkGet of the reference. -/
import Derived.Test.YtmgbmoiefgfemaaDoorTxtE
import Derived.Test.YtmgbmoiefgfemaaDoorOutE
namespace Go.Proofs.YtmgbmoiefgfemaaDoor
open Go.RowKit

set_option maxRecDepth 100000 in
set_option maxHeartbeats 4000000 in
theorem checkGet_any (wr : World) (l : List Gt) (v : Value) (kk : Nat) (b : Bool) (x p : Gt) (hl : Sl wr 3 encT v l) (hw : ∀ y, y ∈ l → WfT y) (hx : l[kk]? = some x) (hp : l[kk - 1]? = some p) :
    Calls Tryd.prog 78 #[v, .int .i64 kk, .bool b] wr fun e w' => e = .returned (.int .i64 (gnOf x p kk b)) ∧ Below wr.heap.size wr w' := by
  obtain ⟨ao, cap, rfl, hcap, hmax, hnil, hel⟩ := hl
  unfold maxLen at hmax
  obtain ⟨F, hF⟩ : ∃ F, F = gnOf x p kk b := ⟨_, rfl⟩
  rw [← hF]
  have hS : Hid (∀ z, gnOf x p kk b = z → z ≠ 0 → z = F) := Lib.hid (fun z h _ => by rw [hF, h])
  have HF := Lib.hid hF
  clear hF
  have hlt : kk < l.length := (List.getElem?_eq_some_iff.1 hx).1
  have hltz : (kk : Int) < (l.length : Int) := by omega
  obtain ⟨c, off, hao, hc⟩ := hel kk x hx
  subst hao
  obtain ⟨c', off', hao', hc'⟩ := hel (kk - 1) p hp
  simp only [Option.some.injEq, Addr.mk.injEq, and_true] at hao'
  obtain ⟨rfl, rfl⟩ := hao'
  have hlt0 := World.block_lt_of_cell? wr ⟨c, off + kk * 3 + 0, none⟩ (hc 0 _ rfl)
  have c0 : wr.cell? ⟨c, off + kk * 3, none⟩ = some (.int .i64 x.ti) := hc 0 _ rfl
  have c1 : wr.cell? ⟨c, off + kk * 3 + 1, none⟩ = some (.string x.ca) := hc 1 _ rfl
  have c2 : wr.cell? ⟨c, off + kk * 3 + 2, none⟩ = some (.string x.ke) := hc 2 _ rfl
  have p0 : wr.cell? ⟨c, off + (kk - 1) * 3, none⟩ = some (.int .i64 p.ti) := hc' 0 _ rfl
  have hsz := (hw x (List.mem_of_getElem? hx)).2
  have hin := isReqR_any x.ke
  have hC0 : Hid (gnOf x p kk b = if (outB x.ti 0 1000000000000) = true then 1 else if (!b) = true then 5 else if (!reqB x.ke) = true then 3 else if (ordT x p kk) = true then 8 else 0) := Lib.hid rfl
  have HB0 := Lib.hid ((Below.refl wr.heap.size wr).alloc (Nat.le_refl _) (.cells #[.int .i64 x.ti, .string x.ca, .string x.ke] 60))
  clear hel hc hc' hx hp hw
  go_enter Tryd.func78, Tryd.ntmps78
  go_upto_region 2 with (fail)
  go_cut [12] (fun s w4 => s = .bool (outB x.ti 0 1000000000000) ∧ w4 = (wr.alloc (.cells #[.int .i64 x.ti, .string x.ca, .string x.ke] 60)))
  case first =>
    cases o0 : outB x.ti 0 1000000000000
    all_goals
      go_wp2_with (go_at_call 41; refine (withinE_any _ _ _ _).mono ?_; rintro e w' ⟨rfl, rfl⟩)
      go_meet
      exact ⟨by simp [*], rfl⟩
  obtain ⟨rfl, rfl⟩ := hcut
  generalize hO : (outB x.ti 0 1000000000000) = O at hC0 ⊢
  clear hO
  cases O
  case true =>
    have hv : Hid (1 = F) := Lib.hid (hS.out 1 (by rw [hC0.out]; rfl) (by decide))
    go_wp2
    go_ret
    exact ⟨ret_int hv.out, HB0.out⟩
  have hC1 : Hid (gnOf x p kk b = if (!b) = true then 5 else if (!reqB x.ke) = true then 3 else if (ordT x p kk) = true then 8 else 0) := Lib.hid (by rw [hC0.out]; rfl)
  clear hC0
  go_upto_region 4 with (fail)
  go_cut [17] (fun s w4 => s = .bool (!b) ∧ w4 = (wr.alloc (.cells #[.int .i64 x.ti, .string x.ca, .string x.ke] 60)))
  case first =>
    go_wp2
    go_meet
    exact ⟨by simp, rfl⟩
  obtain ⟨rfl, rfl⟩ := hcut
  generalize hO : (!b) = O at hC1 ⊢
  clear hO
  cases O
  case true =>
    have hv : Hid (5 = F) := Lib.hid (hS.out 5 (by rw [hC1.out]; rfl) (by decide))
    go_wp2
    go_ret
    exact ⟨ret_int hv.out, HB0.out⟩
  have hC2 : Hid (gnOf x p kk b = if (!reqB x.ke) = true then 3 else if (ordT x p kk) = true then 8 else 0) := Lib.hid (by rw [hC1.out]; rfl)
  clear hC1
  go_upto_region 6 with (fail)
  go_cut [20] (fun s w4 => s = .bool (!reqB x.ke) ∧ w4 = (wr.alloc (.cells #[.int .i64 x.ti, .string x.ca, .string x.ke] 60)))
  case first =>
    go_wp2_with (go_at_call 38; refine (hin _ hsz).mono ?_; rintro e w' ⟨rfl, rfl⟩)
    go_meet
    exact ⟨by simp, rfl⟩
  obtain ⟨rfl, rfl⟩ := hcut
  generalize hO : (!reqB x.ke) = O at hC2 ⊢
  clear hO
  cases O
  case true =>
    have hv : Hid (3 = F) := Lib.hid (hS.out 3 (by rw [hC2.out]; rfl) (by decide))
    go_wp2
    go_ret
    exact ⟨ret_int hv.out, HB0.out⟩
  have hC3 : Hid (gnOf x p kk b = if (ordT x p kk) = true then 8 else 0) := Lib.hid (by rw [hC2.out]; rfl)
  clear hC2
  go_upto_region 8 with (fail)
  have hor : Hid ((ordT x p kk) = (decide (0 < kk) && decide (x.ti < p.ti))) := Lib.hid rfl
  generalize hOG : (ordT x p kk) = OG at hor hC3 ⊢
  have HOG := Lib.hid hOG
  clear hOG
  go_cut [25] (fun s w4 => s = .bool OG ∧ ∃ n, w4 = (wr.alloc (.cells #[.int .i64 x.ti, .string x.ca, .string x.ke] 60)).drewN n)
  case first =>
    by_cases hk0 : kk = 0
    · have hz : decide ((0 : Int) < (kk : Int)) = false := decide_eq_false (by omega)
      have hz' : ¬ (0 : Int) < (kk : Int) := by omega
      have hz2 : decide (0 < kk) = false := decide_eq_false (by omega)
      have hv : Hid (OG = false) := Lib.hid (by rw [hor.out, hz2]; rfl)
      clear hk0
      go_quiet (fail)
      go_wp2
      go_meet
      exact ⟨by rw [hv.out], _, rfl⟩
    · have hz : decide ((0 : Int) < (kk : Int)) = true := decide_eq_true (by omega)
      have hz2 : decide (0 < kk) = true := decide_eq_true (by omega)
      have ez2 : ((kk : Int) - 1).toNat = kk - 1 := by omega
      have hm1 : (kk : Int) - 1 < (l.length : Int) := by omega
      have hm2 : (0 : Int) ≤ (kk : Int) - 1 := by omega
      have hm3 : (1 : Int) ≤ (kk : Int) := by omega
      have hm4 : 0 < kk := by omega
      have hwk : IntKind.i64.wrap ((kk : Int) - 1) = (kk : Int) - 1 := IntWalk.i64_in _ (by omega)
      clear hk0
      have hv : Hid (OG = (decide (x.ti < p.ti))) := Lib.hid (by rw [hor.out, hz2]; rfl)
      go_quiet (fail)
      go_wp2
      go_meet
      exact ⟨by rw [hv.out], _, rfl⟩
  obtain ⟨rfl, nq, rfl⟩ := hcut
  rw [HOG.out.symm] at hC3
  have HBn := Lib.hid (below_drewN HB0.out nq)
  rw [HOG.out.symm]
  clear hor HOG
  generalize hO : (ordT x p kk) = O at hC3 ⊢
  clear hO
  cases O
  case true =>
    have hv : Hid (8 = F) := Lib.hid (hS.out 8 (by rw [hC3.out]; rfl) (by decide))
    go_wp2
    go_ret
    exact ⟨ret_int hv.out, HBn.out⟩
  have hC4 : Hid (gnOf x p kk b = 0) := Lib.hid (by rw [hC3.out]; rfl)
  clear hC3
  have hz : Hid (0 = F) := Lib.hid (by rw [HF.out, hC4.out])
  go_wp2
  go_ret
  exact ⟨ret_int hz.out, HBn.out⟩
end Go.Proofs.YtmgbmoiefgfemaaDoor

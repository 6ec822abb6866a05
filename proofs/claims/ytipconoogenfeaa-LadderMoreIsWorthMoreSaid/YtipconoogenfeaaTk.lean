/- The faults of a ladder and its viewers; Worth and Takes, of the program and of the reference. -/
import Derived.Test.YtipconoogenfeaaWorth
namespace Go.Proofs.Ytipconoogenfeaa
open Go.RowKit

/-- The fault of renditions and viewers. -/
def checkRV (l : List Rng) (c : List Vw) : Int := if checkR l ≠ 0 then checkR l else checkV c
theorem checkRV_zero {l : List Rng} {c : List Vw} (h : checkRV l c = 0) : checkR l = 0 ∧ checkV c = 0 := by
  unfold checkRV at h
  split at h
  · contradiction
  · rename_i h0; exact ⟨by omega, h⟩
theorem firstF_two (l : List Rng) (c : List Vw) : firstF [checkR l, checkV c] = checkRV l c := by
  unfold checkRV
  by_cases h : checkR l = 0
  · by_cases h2 : checkV c = 0 <;> simp [firstF, h, h2]
  · simp [firstF, h]

set_option maxHeartbeats 1000000 in
theorem both_any (w : World) (l : List Rng) (u : Value) (c : List Vw) (v : Value) (hl : Sl w 4 encR u l) (hw : ∀ x, x ∈ l → WfR x) (hc : Sl w 3 encV v c) :
    Calls Try.prog 18 #[u, v] w fun e w' => e = .returned (.int .i64 (checkRV l c)) ∧ Below w.heap.size w w' := by
  have HR := Lib.hid (checkRenR_any w l u hl hw)
  have HC := fun (W : World) (hb : Below w.heap.size w W) => checkCrowdR_any W c v (hc.below hb (Nat.le_refl _))
  have HV : Hid (checkRV l c = if checkR l ≠ 0 then checkR l else checkV c) := Lib.hid rfl
  generalize checkRV l c = R at HV ⊢
  generalize checkR l = r at HR HV
  generalize checkV c = s at HC HV
  clear hl hw hc
  go_enter Try.func18, Try.ntmps18
  go_upto_region 2 with (go_at_call 28; refine HR.out.mono ?_; rintro e w2 ⟨rfl, hb⟩; have HB := Lib.hid hb; have HC2 := Lib.hid (HC w2 hb); clear hb)
  cases e1 : (r != 0)
  case true =>
    have hv : Hid (r = R) := Lib.hid (by rw [HV.out, if_pos (by simpa using e1)])
    go_wp2
    go_ret
    exact ⟨ret_int hv.out, HB.out⟩
  case false =>
    have hv : Hid (s = R) := Lib.hid (by rw [HV.out, if_neg (by simpa using e1)])
    go_wp2_with (go_at_call 8; refine HC2.out.mono ?_; rintro e w3 ⟨rfl, hb3⟩; have HB3 := Lib.hid (HB.out.thru hb3); clear hb3)
    go_ret
    exact ⟨ret_int hv.out, HB3.out⟩

/-- What renditions are worth to viewers, if they have no fault. -/
def worthF (l : List Rng) (c : List Vw) : Int := if checkRV l c = 0 then wtR l c else 0
def WPost (w : World) (l : List Rng) (c : List Vw) : Ending → World → Prop :=
  fun e w' => e = .returned (.tuple #[.int .i64 (worthF l c), .int .i64 (checkRV l c)]) ∧ Below w.heap.size w w'
theorem WPost.mk {w w' : World} {l : List Rng} {c : List Vw} {a f : Int} (ha : a = worthF l c) (hf : f = checkRV l c) (hb : Below w.heap.size w w') :
    WPost w l c (.returned (.tuple #[.int .i64 a, .int .i64 f])) w' := ⟨by rw [ha, hf], hb⟩

set_option maxHeartbeats 1000000 in
theorem WorthR_any (w : World) (l : List Rng) (u : Value) (c : List Vw) (v : Value) (hl : Sl w 4 encR u l) (hw : ∀ x, x ∈ l → WfR x) (hc : Sl w 3 encV v c) :
    Calls Try.prog 10 #[u, v] w (WPost w l c) := by
  have HR := Lib.hid (both_any w l u c v hl hw hc)
  have HW := Lib.hid (fun (h : checkRV l c = 0) (w2 : World) (hb : Below w.heap.size w w2) => worthR_any w2 l u c v (hl.below hb (Nat.le_refl _)) (hc.below hb (Nat.le_refl _)) (fun x hx => ((checkR_zero (checkRV_zero h).1).2.2 x hx).2.2.2) (fun x hx => ((checkV_zero (checkRV_zero h).2).2 x hx).2.2) (checkV_zero (checkRV_zero h).2).1)
  have HF := Lib.hid (show worthF l c = if checkRV l c = 0 then wtR l c else 0 from rfl)
  obtain ⟨r, hr⟩ : ∃ r, r = checkRV l c := ⟨_, rfl⟩
  rw [← hr] at HR HW HF
  have HRR := Lib.hid hr
  clear hl hw hc hr
  go_enter Try.func10, Try.ntmps10
  go_upto_region 2 with (go_at_call 18; refine HR.out.mono ?_; rintro e w2 ⟨rfl, hb⟩; have HB := Lib.hid hb; clear hb)
  cases e1 : (r != 0)
  case true =>
    have hv : Hid (0 = worthF l c) := Lib.hid (by rw [HF.out, if_neg (by simpa using e1)])
    go_wp2
    go_ret2
    exact WPost.mk hv.out HRR.out HB.out
  case false =>
    have hr0 : r = 0 := by simpa using e1
    have hv : Hid (wtR l c = worthF l c) := Lib.hid (by rw [HF.out, if_pos hr0])
    have hz : Hid (0 = checkRV l c) := Lib.hid (by rw [← HRR.out, hr0])
    have HW2 := Lib.hid (HW.out hr0 _ HB.out)
    clear hr0
    go_wp2_with (go_at_call 23; refine HW2.out.mono ?_; rintro e w3 ⟨rfl, hb3⟩; have HB3 := Lib.hid (HB.out.thru hb3); clear hb3)
    go_ret2
    exact WPost.mk hv.out hz.out HB3.out

set_option maxHeartbeats 1000000 in
theorem Worth_any (w : World) (l : List Rng) (u : Value) (c : List Vw) (v : Value) (hl : Sl w 4 encR u l) (hw : ∀ x, x ∈ l → WfR x) (hc : Sl w 3 encV v c) :
    Calls Try.prog 9 #[u, v] w (WPost w l c) := by
  have HR := Lib.hid (checkRen_any w l u hl hw)
  have HC := Lib.hid (fun (w2 : World) (hb : Below w.heap.size w w2) => checkCrowd_any w2 c v (hc.below hb (Nat.le_refl _)))
  have HN := Lib.hid (fun (w2 : World) => first_any (w2.alloc (.cells #[.int .i64 (checkR l), .int .i64 (checkV c)] 26)) [checkR l, checkV c] _ (Sl.fresh (enc := encI) (k := 1) (fun _ => rfl) w2 26 _ [checkR l, checkV c] (by simp [maxLen])))
  have HW := Lib.hid (fun (h : checkRV l c = 0) (w2 : World) (hb : Below w.heap.size w w2) => worth_any w2 l u c v (hl.below hb (Nat.le_refl _)) (hc.below hb (Nat.le_refl _)) (fun x hx => ((checkR_zero (checkRV_zero h).1).2.2 x hx).2.2.2) (fun x hx => ((checkV_zero (checkRV_zero h).2).2 x hx).2.2) (checkV_zero (checkRV_zero h).2).1)
  have HF := Lib.hid (show worthF l c = if checkRV l c = 0 then wtR l c else 0 from rfl)
  rw [firstF_two] at HN
  obtain ⟨r, hr⟩ : ∃ r, r = checkRV l c := ⟨_, rfl⟩
  rw [← hr] at HN HW HF
  have HRR := Lib.hid hr
  generalize checkR l = r1 at HR HN
  generalize checkV c = r2 at HC HN
  clear hl hw hc hr
  go_enter Try.func9, Try.ntmps9
  go_upto_region 2 with (first | (go_at_call 16; refine HR.out.mono ?_; rintro e w2 ⟨rfl, hb⟩; have HB := Lib.hid hb; have HC2 := Lib.hid (HC.out w2 hb); clear hb) | (go_at_call 7; refine HC2.out.mono ?_; rintro e w3 ⟨rfl, hb3⟩; have HB3 := Lib.hid (HB.out.thru hb3); have HN3 := Lib.hid (HN.out w3); clear hb3) | (go_at_call 15; refine HN3.out.mono ?_; rintro e w4 ⟨rfl, rfl⟩; have HB4 := Lib.hid (HB3.out.alloc HB3.out.size (.cells #[.int .i64 r1, .int .i64 r2] 26))))
  cases e1 : (r != 0)
  case true =>
    have hv : Hid (0 = worthF l c) := Lib.hid (by rw [HF.out, if_neg (by simpa using e1)])
    go_wp2
    go_ret2
    exact WPost.mk hv.out HRR.out HB4.out
  case false =>
    have hr0 : r = 0 := by simpa using e1
    have hv : Hid (wtR l c = worthF l c) := Lib.hid (by rw [HF.out, if_pos hr0])
    have hz : Hid (0 = checkRV l c) := Lib.hid (by rw [← HRR.out, hr0])
    have HW2 := Lib.hid (HW.out hr0 _ HB4.out)
    clear hr0
    go_wp2_with (go_at_call 22; refine HW2.out.mono ?_; rintro e w3 ⟨rfl, hb3⟩; have HB5 := Lib.hid (HB4.out.thru hb3); clear hb3)
    go_ret2
    exact WPost.mk hv.out hz.out HB5.out

/-- What a viewer takes, if nothing has a fault. -/
def takeI (l : List Rng) (v : Vw) : Int := if checkRV l [v] = 0 ∧ 0 ≤ takesR l v then takesR l v else 0
def takeB (l : List Rng) (v : Vw) : Bool := checkRV l [v] == 0 && decide (0 ≤ takesR l v)
def TPost (w : World) (l : List Rng) (v : Vw) : Ending → World → Prop :=
  fun e w' => e = .returned (.tuple #[.int .i64 (takeI l v), .bool (takeB l v), .int .i64 (checkRV l [v])]) ∧ Below w.heap.size w w'
theorem TPost.mk {w w' : World} {l : List Rng} {v : Vw} {a f : Int} {b : Bool} (ha : a = takeI l v) (hB : b = takeB l v) (hf : f = checkRV l [v]) (hb : Below w.heap.size w w') :
    TPost w l v (.returned (.tuple #[.int .i64 a, .bool b, .int .i64 f])) w' := ⟨by rw [ha, hB, hf], hb⟩

/-- One viewer, in a slice of its own. -/
theorem sl_one {W : World} {b : Nat} {v : Vw} (h : W.heap[b]? = some (.cells #[.int .i64 v.ra, .int .i64 v.he, .int .i64 v.we] 25)) : Sl W 3 encV (.slice (some ⟨b, 0, none⟩) 1 1) [v] := by
  refine ⟨_, _, rfl, Nat.le_refl _, by simp [maxLen], fun e => by simp at e, fun i x hx => ⟨b, 0, rfl, fun j u hu => ?_⟩⟩
  match i with
  | 0 =>
    simp at hx
    subst hx
    simp only [Nat.zero_mul, Nat.zero_add]
    rw [cell_of_block h]
    simpa [encV] using hu
  | i + 1 => simp at hx

set_option maxHeartbeats 1000000 in
theorem Takes_any (w : World) (l : List Rng) (u : Value) (v : Vw) (hl : Sl w 4 encR u l) (hw : ∀ x, x ∈ l → WfR x) :
    Calls Try.prog 5 #[u, .agg #[.int .i64 v.ra, .int .i64 v.he, .int .i64 v.we]] w (TPost w l v) := by
  have B0 := Lib.hid ((Below.refl w.heap.size w).alloc (Nat.le_refl _) (.cells #[.int .i64 v.ra, .int .i64 v.he, .int .i64 v.we] 25))
  have B1 := Lib.hid (B0.out.alloc B0.out.size (.cells #[.int .i64 v.ra, .int .i64 v.he, .int .i64 v.we] 25))
  have K0 := Lib.hid (block_new w (.cells #[.int .i64 v.ra, .int .i64 v.he, .int .i64 v.we] 25))
  have hsz : (w.alloc (.cells #[.int .i64 v.ra, .int .i64 v.he, .int .i64 v.we] 25)).heap.size = w.heap.size + 1 := by simp
  have K1 := Lib.hid (block_new (w.alloc (.cells #[.int .i64 v.ra, .int .i64 v.he, .int .i64 v.we] 25)) (.cells #[.int .i64 v.ra, .int .i64 v.he, .int .i64 v.we] 25))
  rw [hsz] at K1
  have K2 := Lib.hid ((((Below.refl (w.heap.size + 1) (w.alloc (.cells #[.int .i64 v.ra, .int .i64 v.he, .int .i64 v.we] 25))).alloc (Nat.le_of_eq hsz.symm) (.cells #[.int .i64 v.ra, .int .i64 v.he, .int .i64 v.we] 25)).block w.heap.size (Nat.lt_succ_self _)).trans K0.out)
  have HR := Lib.hid (fun (w2 : World) (hb : Below w.heap.size w w2) => checkRen_any w2 l u (hl.below hb (Nat.le_refl _)) hw)
  have HC := Lib.hid (fun (w2 : World) (b : Nat) (h : w2.heap[b]? = some (.cells #[.int .i64 v.ra, .int .i64 v.he, .int .i64 v.we] 25)) => checkCrowd_any w2 [v] _ (sl_one h))
  have HN := Lib.hid (fun (w2 : World) => first_any (w2.alloc (.cells #[.int .i64 (checkR l), .int .i64 (checkV [v])] 26)) [checkR l, checkV [v]] _ (Sl.fresh (enc := encI) (k := 1) (fun _ => rfl) w2 26 _ [checkR l, checkV [v]] (by simp [maxLen])))
  have HT := Lib.hid (fun (w2 : World) (hb : Below w.heap.size w w2) => takes_any w2 l u v (hl.below hb (Nat.le_refl _)))
  have HI := Lib.hid (show takeI l v = if checkRV l [v] = 0 ∧ 0 ≤ takesR l v then takesR l v else 0 from rfl)
  have HJ := Lib.hid (show takeB l v = (checkRV l [v] == 0 && decide (0 ≤ takesR l v)) from rfl)
  rw [firstF_two] at HN
  obtain ⟨r, hr⟩ : ∃ r, r = checkRV l [v] := ⟨_, rfl⟩
  rw [← hr] at HN HI HJ
  have HRR := Lib.hid hr
  generalize checkR l = r1 at HR HN
  generalize checkV [v] = r2 at HC HN
  generalize takesR l v = T at HT HI HJ
  clear hl hw hr
  go_enter Try.func5, Try.ntmps5
  go_upto_region 1 with (fail)
  go_cut [7] (fun s7 w4 => s7 = .int .i64 r ∧ Aside (Below w.heap.size w w4) ∧ Aside (w4.heap[w.heap.size]? = some (.cells #[.int .i64 v.ra, .int .i64 v.he, .int .i64 v.we] 25)))
  case first =>
    go_region_with (first | (go_at_call 16; refine (HR.out _ (below_drewN B0.out _)).mono ?_; rintro e w2 ⟨rfl, hb⟩; have HB := Lib.hid ((below_drewN B0.out _).thru hb); have hk := (hb.block w.heap.size (by simp)).trans K0.out; have v0 := (cell_of_block (i := 0) hk).trans rfl; have v1 := (cell_of_block (i := 1) hk).trans rfl; have v2 := (cell_of_block (i := 2) hk).trans rfl; have hlw := lt_of_block hk; have HK := Lib.hid ((((Below.refl w2.heap.size w2).alloc (Nat.le_refl _) (.cells #[.int .i64 v.ra, .int .i64 v.he, .int .i64 v.we] 25)).block w.heap.size hlw).trans hk); have HC2 := Lib.hid (HC.out _ _ (block_new w2 (.cells #[.int .i64 v.ra, .int .i64 v.he, .int .i64 v.we] 25))); have HB2 := Lib.hid (HB.out.alloc HB.out.size (.cells #[.int .i64 v.ra, .int .i64 v.he, .int .i64 v.we] 25)); clear hb hk) | (go_at_call 16; go_loud (refine (HR.out _ (below_drewN B1.out _)).mono ?_; rintro e w2 ⟨rfl, hb⟩; have HB2 := Lib.hid ((below_drewN B1.out _).thru hb); have HK := Lib.hid ((hb.block w.heap.size (by simp <;> omega)).trans K2.out); have hk := (hb.block (w.heap.size + 1) (by simp <;> omega)).trans K1.out; have HC2 := Lib.hid (HC.out w2 _ hk); clear hb hk)) | (go_at_call 7; refine HC2.out.mono ?_; rintro e w3 ⟨rfl, hb3⟩; have HB3 := Lib.hid ((HB2.out.thru hb3).alloc (HB2.out.thru hb3).size (.cells #[.int .i64 r1, .int .i64 r2] 26)); have hk3 := (hb3.block w.heap.size (lt_of_block HK.out)).trans HK.out; have HK3 := Lib.hid ((((Below.refl w3.heap.size w3).alloc (Nat.le_refl _) (.cells #[.int .i64 r1, .int .i64 r2] 26)).block w.heap.size (lt_of_block hk3)).trans hk3); have HN3 := Lib.hid (HN.out w3); clear hb3 hk3) | (go_at_call 15; refine HN3.out.mono ?_; rintro e w4 ⟨rfl, rfl⟩))
    all_goals (go_wp2; go_meet; exact ⟨rfl, HB3.out, HK3.out⟩)
  obtain ⟨rfl, BW, KW⟩ := hcut
  clear HR HC HN B0 B1 K0 K1 K2 hsz
  have v0 := (cell_of_block (i := 0) KW.out).trans rfl
  have v1 := (cell_of_block (i := 1) KW.out).trans rfl
  have v2 := (cell_of_block (i := 2) KW.out).trans rfl
  have hlw := lt_of_block KW.out
  have HT2 := Lib.hid (HT.out _ BW.out)
  cases e1 : (r != 0)
  case true =>
    have hr0 : ¬ r = 0 := by simpa using e1
    have hv : Hid (0 = takeI l v) := Lib.hid (by rw [HI.out, if_neg (fun h => hr0 h.1)])
    have hw : Hid (false = takeB l v) := Lib.hid (by rw [HJ.out]; simp [hr0])
    clear hr0
    go_wp2
    go_ret3
    exact TPost.mk hv.out hw.out HRR.out BW.out
  case false =>
    have hr0 : r = 0 := by simpa using e1
    have hz : Hid (0 = checkRV l [v]) := Lib.hid (by rw [← HRR.out, hr0])
    have HR0 := Lib.hid hr0
    clear hr0
    by_cases hT : T < 0
    · have hv : Hid (0 = takeI l v) := Lib.hid (by rw [HI.out, if_neg (by omega)])
      have hw : Hid (false = takeB l v) := Lib.hid (by rw [HJ.out]; simp [hT])
      go_wp2_with (go_at_call 17; refine HT2.out.mono ?_; rintro e w3 ⟨rfl, hb3⟩; have HB3 := Lib.hid (BW.out.thru hb3); clear hb3)
      go_ret3
      exact TPost.mk hv.out hw.out hz.out HB3.out
    · have hv : Hid (T = takeI l v) := Lib.hid (by rw [HI.out, if_pos ⟨HR0.out, by omega⟩])
      have hw : Hid (true = takeB l v) := Lib.hid (by rw [HJ.out, HR0.out]; simp; omega)
      go_wp2_with (go_at_call 17; refine HT2.out.mono ?_; rintro e w3 ⟨rfl, hb3⟩; have HB3 := Lib.hid (BW.out.thru hb3); clear hb3)
      go_ret3
      exact TPost.mk hv.out hw.out hz.out HB3.out

set_option maxHeartbeats 1000000 in
theorem TakesR_any (w : World) (l : List Rng) (u : Value) (v : Vw) (hl : Sl w 4 encR u l) (hw : ∀ x, x ∈ l → WfR x) :
    Calls Try.prog 6 #[u, .agg #[.int .i64 v.ra, .int .i64 v.he, .int .i64 v.we]] w (TPost w l v) := by
  have B0 := Lib.hid ((Below.refl w.heap.size w).alloc (Nat.le_refl _) (.cells #[.int .i64 v.ra, .int .i64 v.he, .int .i64 v.we] 25))
  have B1 := Lib.hid (B0.out.alloc B0.out.size (.cells #[.int .i64 v.ra, .int .i64 v.he, .int .i64 v.we] 25))
  have K0 := Lib.hid (block_new w (.cells #[.int .i64 v.ra, .int .i64 v.he, .int .i64 v.we] 25))
  have hsz : (w.alloc (.cells #[.int .i64 v.ra, .int .i64 v.he, .int .i64 v.we] 25)).heap.size = w.heap.size + 1 := by simp
  have K1 := Lib.hid (block_new (w.alloc (.cells #[.int .i64 v.ra, .int .i64 v.he, .int .i64 v.we] 25)) (.cells #[.int .i64 v.ra, .int .i64 v.he, .int .i64 v.we] 25))
  rw [hsz] at K1
  have K2 := Lib.hid ((((Below.refl (w.heap.size + 1) (w.alloc (.cells #[.int .i64 v.ra, .int .i64 v.he, .int .i64 v.we] 25))).alloc (Nat.le_of_eq hsz.symm) (.cells #[.int .i64 v.ra, .int .i64 v.he, .int .i64 v.we] 25)).block w.heap.size (Nat.lt_succ_self _)).trans K0.out)
  have HR := Lib.hid (both_any _ l u [v] _ (hl.below B1.out (Nat.le_refl _)) hw (sl_one K1.out))
  have HT := Lib.hid (fun (w2 : World) (hb : Below w.heap.size w w2) => takesR_any w2 l u v (hl.below hb (Nat.le_refl _)))
  have HI := Lib.hid (show takeI l v = if checkRV l [v] = 0 ∧ 0 ≤ takesR l v then takesR l v else 0 from rfl)
  have HJ := Lib.hid (show takeB l v = (checkRV l [v] == 0 && decide (0 ≤ takesR l v)) from rfl)
  obtain ⟨r, hr⟩ : ∃ r, r = checkRV l [v] := ⟨_, rfl⟩
  rw [← hr] at HR HI HJ
  have HRR := Lib.hid hr
  generalize takesR l v = T at HT HI HJ
  clear hl hw hr
  go_enter Try.func6, Try.ntmps6
  go_upto_region 2 with (go_at_call 18; go_loud (refine HR.out.mono ?_; rintro e w2 ⟨rfl, hb⟩; have HB := Lib.hid (B1.out.thru hb); have hk := (hb.block w.heap.size (by simp <;> omega)).trans K2.out; have HK := Lib.hid hk; clear hb hk))
  clear hsz
  have v0 := (cell_of_block (i := 0) HK.out).trans rfl
  have v1 := (cell_of_block (i := 1) HK.out).trans rfl
  have v2 := (cell_of_block (i := 2) HK.out).trans rfl
  have hlw := lt_of_block HK.out
  have HT2 := Lib.hid (HT.out _ HB.out)
  clear HR B0 B1 K0 K1 K2
  cases e1 : (r != 0)
  case true =>
    have hr0 : ¬ r = 0 := by simpa using e1
    have hv : Hid (0 = takeI l v) := Lib.hid (by rw [HI.out, if_neg (fun h => hr0 h.1)])
    have hw : Hid (false = takeB l v) := Lib.hid (by rw [HJ.out]; simp [hr0])
    clear hr0
    go_wp2
    go_ret3
    exact TPost.mk hv.out hw.out HRR.out HB.out
  case false =>
    have hr0 : r = 0 := by simpa using e1
    have hz : Hid (0 = checkRV l [v]) := Lib.hid (by rw [← HRR.out, hr0])
    have HR0 := Lib.hid hr0
    clear hr0
    by_cases hT : 0 ≤ T
    · have hv : Hid (T = takeI l v) := Lib.hid (by rw [HI.out, if_pos ⟨HR0.out, hT⟩])
      have hw : Hid (true = takeB l v) := Lib.hid (by rw [HJ.out, HR0.out]; simp [hT])
      go_wp2_with (go_at_call 19; refine HT2.out.mono ?_; rintro e w3 ⟨rfl, hb3⟩; have HB3 := Lib.hid (HB.out.thru hb3); clear hb3)
      all_goals (go_ret3; refine TPost.mk ?_ ?_ hz.out HB3.out)
      all_goals first | exact hv.out | exact hw.out | (rw [← hv.out]; omega) | (rw [← hw.out]; simp; omega)
    · have hv : Hid (0 = takeI l v) := Lib.hid (by rw [HI.out, if_neg (by omega)])
      have hw : Hid (false = takeB l v) := Lib.hid (by rw [HJ.out]; simp [hT])
      go_wp2_with (go_at_call 19; refine HT2.out.mono ?_; rintro e w3 ⟨rfl, hb3⟩; have HB3 := Lib.hid (HB.out.thru hb3); clear hb3)
      all_goals (go_ret3; refine TPost.mk ?_ ?_ hz.out HB3.out)
      all_goals first | exact hv.out | exact hw.out | (rw [← hv.out]; omega) | (rw [← hw.out]; simp; omega)

end Go.Proofs.Ytipconoogenfeaa

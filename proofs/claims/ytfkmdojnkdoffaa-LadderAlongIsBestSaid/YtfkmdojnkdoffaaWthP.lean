/- Worth of the program. -/
import Derived.Test.YtfkmdojnkdoffaaBoth
namespace Go.Proofs.Ytfkmdojnkdoffaa
open Go.RowKit

/-- What renditions are worth to viewers, if they have no fault. -/
def worthF (l : List Rng) (c : List Vw) : Int := if checkRV l c = 0 then wtR l c else 0
def WPost (w : World) (l : List Rng) (c : List Vw) : Ending → World → Prop :=
  fun e w' => e = .returned (.tuple #[.int .i64 (worthF l c), .int .i64 (checkRV l c)]) ∧ Below w.heap.size w w'
theorem WPost.mk {w w' : World} {l : List Rng} {c : List Vw} {a f : Int} (ha : a = worthF l c) (hf : f = checkRV l c) (hb : Below w.heap.size w w') :
    WPost w l c (.returned (.tuple #[.int .i64 a, .int .i64 f])) w' := ⟨by rw [ha, hf], hb⟩

set_option maxHeartbeats 1000000 in
theorem Worth_any (w : World) (l : List Rng) (u : Value) (c : List Vw) (v : Value) (hl : Sl w 4 encR u l) (hw : ∀ x, x ∈ l → WfR x) (hc : Sl w 3 encV v c) :
    Calls Try.prog 14 #[u, v] w (WPost w l c) := by
  have HR := Lib.hid (checkRen_any w l u hl hw)
  have HC := Lib.hid (fun (w2 : World) (hb : Below w.heap.size w w2) => checkCrowd_any w2 c v (hc.below hb (Nat.le_refl _)))
  have HN := Lib.hid (fun (w2 : World) => first_any (w2.alloc (.cells #[.int .i64 (checkR l), .int .i64 (checkV c)] 25)) [checkR l, checkV c] _ (Sl.fresh (enc := encI) (k := 1) (fun _ => rfl) w2 25 _ [checkR l, checkV c] (by simp [maxLen])))
  have HW := Lib.hid (fun (h : checkRV l c = 0) (w2 : World) (hb : Below w.heap.size w w2) => worth_any w2 l u c v (hl.below hb (Nat.le_refl _)) (hc.below hb (Nat.le_refl _)) (fun x hx => ((checkR_zero (checkRV_zero h).1).2.2 x hx).2.2.2) (fun x hx => ((checkV_zero (checkRV_zero h).2).2 x hx).2.2) (checkV_zero (checkRV_zero h).2).1)
  have HF := Lib.hid (show worthF l c = if checkRV l c = 0 then wtR l c else 0 from rfl)
  rw [firstF_two] at HN
  obtain ⟨r, hr⟩ : ∃ r, r = checkRV l c := ⟨_, rfl⟩
  rw [← hr] at HN HW HF
  have HRR := Lib.hid hr
  generalize checkR l = r1 at HR HN
  generalize checkV c = r2 at HC HN
  clear hl hw hc hr
  go_enter Try.func14, Try.ntmps14
  go_upto_region 2 with (first | (go_at_call 18; refine HR.out.mono ?_; rintro e w2 ⟨rfl, hb⟩; have HB := Lib.hid hb; have HC2 := Lib.hid (HC.out w2 hb); clear hb) | (go_at_call 19; refine HC2.out.mono ?_; rintro e w3 ⟨rfl, hb3⟩; have HB3 := Lib.hid (HB.out.thru hb3); have HN3 := Lib.hid (HN.out w3); clear hb3) | (go_at_call 17; refine HN3.out.mono ?_; rintro e w4 ⟨rfl, rfl⟩; have HB4 := Lib.hid (HB3.out.alloc HB3.out.size (.cells #[.int .i64 r1, .int .i64 r2] 25))))
  cases e1 : (r != 0)
  case true =>
    have hv : Hid (0 = worthF l c) := Lib.hid (by rw [HF.out, if_neg (by simpa using e1)])
    go_wp2
    go_ret2
    exact WPost.mk hv.out HRR.out HB4.out
  case false =>
    have hr0 : r = 0 := by simpa using e1
    have hv : Hid (wtR l c = worthF l c) := Lib.hid (by rw [HF.out, if_pos hr0])
    have hz : Hid (0 = checkRV l c) := Lib.hid (by rw [← HRR.out, hr0])
    have HW2 := Lib.hid (HW.out hr0 _ HB4.out)
    clear hr0
    go_wp2_with (go_at_call 23; refine HW2.out.mono ?_; rintro e w3 ⟨rfl, hb3⟩; have HB5 := Lib.hid (HB4.out.thru hb3); clear hb3)
    go_ret2
    exact WPost.mk hv.out hz.out HB5.out
end Go.Proofs.Ytfkmdojnkdoffaa

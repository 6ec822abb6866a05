/- Place, of the program and of the reference. -/
import Derived.Test.YteijcombdlgioaaPlace
import Derived.Test.YteijcombdlgioaaDueDef
namespace Go.Proofs.Yteijcombdlgioaa
open Go.RowKit

def placeF (l : List Prt) (t : Int) : Int := if timeF l t ≠ 0 then timeF l t else if (placeN l t).1 = l.length then 9 else 0
def placeA (l : List Prt) (t : Int) : Int := if placeF l t = 0 then ((placeN l t).1 : Nat) else 0
def placeB (l : List Prt) (t : Int) : Int := if placeF l t = 0 then (placeN l t).2 else 0

theorem timeF_zero {l : List Prt} {t : Int} (h : timeF l t = 0) : checkP l = 0 ∧ 0 ≤ t ∧ t ≤ 1000000000000000 := by
  unfold timeF at h
  split at h
  · rename_i h1; exact absurd h h1
  rename_i h1
  split at h
  · simp at h
  rename_i h2
  simp [outB] at h2
  exact ⟨by simpa using h1, by omega, by omega⟩

/-- The three results of Place. -/
def P3 (w : World) (l : List Prt) (t : Int) : Ending → World → Prop :=
  fun e w' => e = .returned (.tuple #[.int .i64 (placeA l t), .int .i64 (placeB l t), .int .i64 (placeF l t)]) ∧ Below w.heap.size w w'
theorem P3.mk {w w' : World} {l : List Prt} {t a b f : Int} (ha : a = placeA l t) (hb : b = placeB l t) (hf : f = placeF l t) (hw : Below w.heap.size w w') : P3 w l t (.returned (.tuple #[.int .i64 a, .int .i64 b, .int .i64 f])) w' := by
  subst ha hb hf
  exact ⟨rfl, hw⟩

theorem placeF_bad {l : List Prt} {t : Int} (h : placeF l t ≠ 0) : placeA l t = 0 ∧ placeB l t = 0 := by
  unfold placeA placeB
  rw [if_neg h, if_neg h]; exact ⟨rfl, rfl⟩

set_option maxHeartbeats 1000000 in
theorem placeP_any (w : World) (l : List Prt) (v : Value) (t : Int) (hl : Sl w 3 encP v l) (hw : ∀ p, p ∈ l → WfP p) :
    Calls Try.prog 18 #[v, .int .i64 t] w (P3 w l t) := by
  have h1 := timeFault_any w l v t hl hw
  have hT : placeF l t = if timeF l t ≠ 0 then timeF l t else if (placeN l t).1 = l.length then 9 else 0 := rfl
  have hz := @timeF_zero l t
  have HSL := Lib.hid hl
  obtain ⟨ao, cap, rfl, hcap, hmax, _⟩ := hl
  unfold maxLen at hmax
  generalize timeF l t = f at h1 hT hz
  have HT := Lib.hid hT
  have HZ := Lib.hid hz
  clear hT hz
  cases e1 : (f != 0)
  case true =>
    have hf : Hid (f = placeF l t) := Lib.hid (by rw [HT.out, if_pos (by simpa using e1)])
    have hb := placeF_bad (l := l) (t := t) (by rw [← hf.out]; simpa using e1)
    have HB := Lib.hid hb
    clear hb
    go_enter Try.func18, Try.ntmps18
    go_wp2_with (first | (go_at_call 31; refine h1.mono ?_; rintro e w' ⟨rfl, hb'⟩))
    go_ret3
    exact P3.mk HB.out.1.symm HB.out.2.symm hf.out hb'
  obtain rfl : f = 0 := by simpa using e1
  clear e1
  have hz := HZ.out rfl
  have h2 := fun (w1 : World) (hb : Below w.heap.size w w1) => place_any w1 l _ t (HSL.out.below hb (Nat.le_refl _)) (checkP_bd hz.1) hz.2.1 hz.2.2
  obtain ⟨n, hn⟩ : ∃ n, n = placeN l t := ⟨_, rfl⟩
  rw [← hn] at h2
  have HN := Lib.hid hn
  have hle := placeN_le l t
  rw [← hn] at hle
  clear hn
  by_cases hlast : n.1 = l.length
  · have hf : Hid (9 = placeF l t) := Lib.hid (by rw [HT.out, if_neg (by simp), ← HN.out, if_pos hlast])
    have HB := Lib.hid (placeF_bad (l := l) (t := t) (by rw [← hf.out]; decide))
    have e2 : (((n.1 : Nat) : Int) == (l.length : Int)) = true := by simp [hlast]
    clear hlast
    go_enter Try.func18, Try.ntmps18
    go_wp2_with (first | (go_at_call 31; refine h1.mono ?_; rintro e w1 ⟨rfl, hb1⟩) | (go_at_call 39; refine (h2 _ hb1).mono ?_; rintro e w2 ⟨rfl, hb2⟩))
    go_ret3
    exact P3.mk HB.out.1.symm HB.out.2.symm hf.out (hb1.thru hb2)
  · have hf : Hid (0 = placeF l t) := Lib.hid (by rw [HT.out, if_neg (by simp), ← HN.out, if_neg hlast])
    have hA : Hid (((n.1 : Nat) : Int) = placeA l t) := Lib.hid (by rw [placeA, ← hf.out, HN.out]; rfl)
    have hB : Hid (n.2 = placeB l t) := Lib.hid (by rw [placeB, ← hf.out, HN.out]; rfl)
    have e2 : (((n.1 : Nat) : Int) == (l.length : Int)) = false := by simp; omega
    clear hlast
    go_enter Try.func18, Try.ntmps18
    go_wp2_with (first | (go_at_call 31; refine h1.mono ?_; rintro e w1 ⟨rfl, hb1⟩) | (go_at_call 39; refine (h2 _ hb1).mono ?_; rintro e w2 ⟨rfl, hb2⟩))
    go_ret3
    exact P3.mk hA.out hB.out hf.out (hb1.thru hb2)

set_option maxHeartbeats 1000000 in
theorem placePR_any (w : World) (l : List Prt) (v : Value) (t : Int) (hl : Sl w 3 encP v l) (hw : ∀ p, p ∈ l → WfP p) :
    Calls Try.prog 19 #[v, .int .i64 t] w (P3 w l t) := by
  have h1 := checkPartsR_any w l v hl hw
  have hT : placeF l t = if timeF l t ≠ 0 then timeF l t else if (placeN l t).1 = l.length then 9 else 0 := rfl
  have hU : timeF l t = if checkP l ≠ 0 then checkP l else if outB t 0 1000000000000000 = true then 1 else 0 := rfl
  have hz := @timeF_zero l t
  have HSL := Lib.hid hl
  have HT := Lib.hid hT
  have HZ := Lib.hid hz
  clear hT hz hl
  generalize hcp : checkP l = c at h1 hU
  have HU := Lib.hid hU
  clear hU hcp
  cases e1 : (c != 0)
  case true =>
    have ht : timeF l t = c := by rw [HU.out, if_pos (by simpa using e1)]
    have hf : Hid (c = placeF l t) := Lib.hid (by rw [HT.out, ht, if_pos (by simpa using e1)])
    have HB := Lib.hid (placeF_bad (l := l) (t := t) (by rw [← hf.out]; simpa using e1))
    clear ht
    go_enter Try.func19, Try.ntmps19
    go_wp2_with (first | (go_at_call 21; refine h1.mono ?_; rintro e w' ⟨rfl, hb'⟩))
    go_ret3
    exact P3.mk HB.out.1.symm HB.out.2.symm hf.out hb'
  obtain rfl : c = 0 := by simpa using e1
  clear e1
  cases o1 : outB t 0 1000000000000000
  case true =>
    have ht : timeF l t = 1 := by rw [HU.out, o1]; rfl
    have hf : Hid (1 = placeF l t) := Lib.hid (by rw [HT.out, ht]; rfl)
    have HB := Lib.hid (placeF_bad (l := l) (t := t) (by rw [← hf.out]; decide))
    clear ht
    go_enter Try.func19, Try.ntmps19
    go_wp2_with (first | (go_at_call 21; refine h1.mono ?_; rintro e w' ⟨rfl, hb'⟩) | (go_at_call 35; refine (within_any _ _ _ _).mono ?_; rintro e w' ⟨rfl, rfl⟩))
    go_ret3
    exact P3.mk HB.out.1.symm HB.out.2.symm hf.out hb'
  have ht : timeF l t = 0 := by rw [HU.out, o1]; rfl
  have hz := HZ.out ht
  have h2 := fun (w1 : World) (hb : Below w.heap.size w w1) => placeR_any w1 l _ t (HSL.out.below hb (Nat.le_refl _)) (checkP_bd hz.1) hz.2.1 hz.2.2
  have hI : placeI l t = if (placeN l t).1 = l.length then (-1 : Int) else ((placeN l t).1 : Nat) := rfl
  obtain ⟨n, hn⟩ : ∃ n, n = placeN l t := ⟨_, rfl⟩
  rw [← hn] at h2 hI
  have HN := Lib.hid hn
  clear hn
  by_cases hlast : n.1 = l.length
  · have hf : Hid (9 = placeF l t) := Lib.hid (by rw [HT.out, if_neg (by simp [ht]), ← HN.out, if_pos hlast])
    have HB := Lib.hid (placeF_bad (l := l) (t := t) (by rw [← hf.out]; decide))
    rw [hI, if_pos hlast] at h2
    clear hlast hI ht
    go_enter Try.func19, Try.ntmps19
    go_wp2_with (first | (go_at_call 21; refine h1.mono ?_; rintro e w1 ⟨rfl, hb1⟩) | (go_at_call 35; refine (within_any _ _ _ _).mono ?_; rintro e w' ⟨rfl, rfl⟩) | (go_at_call 43; refine (h2 _ hb1).mono ?_; rintro e w2 ⟨rfl, rfl⟩))
    go_ret3
    exact P3.mk HB.out.1.symm HB.out.2.symm hf.out hb1
  · have hf : Hid (0 = placeF l t) := Lib.hid (by rw [HT.out, if_neg (by simp [ht]), ← HN.out, if_neg hlast])
    have hA : Hid (((n.1 : Nat) : Int) = placeA l t) := Lib.hid (by rw [placeA, ← hf.out, HN.out]; rfl)
    have hB : Hid (n.2 = placeB l t) := Lib.hid (by rw [placeB, ← hf.out, HN.out]; rfl)
    rw [hI, if_neg hlast] at h2
    clear hlast hI ht
    go_enter Try.func19, Try.ntmps19
    go_wp2_with (first | (go_at_call 21; refine h1.mono ?_; rintro e w1 ⟨rfl, hb1⟩) | (go_at_call 35; refine (within_any _ _ _ _).mono ?_; rintro e w' ⟨rfl, rfl⟩) | (go_at_call 43; refine (h2 _ hb1).mono ?_; rintro e w2 ⟨rfl, rfl⟩))
    go_ret3
    exact P3.mk hA.out hB.out hf.out hb1
end Go.Proofs.Yteijcombdlgioaa

/- place and Place, of the program and of the reference. -/
import Derived.Test.YteijcombdlgioaaDue0
namespace Go.Proofs.Yteijcombdlgioaa
open Go.RowKit

/-- The part that has a tick, and how many of its ticks are before it. -/
def placeN : List Prt → Int → Nat × Int
  | [], _ => (0, 0)
  | p :: r, t => if t < p.ln then (0, t) else ((placeN r (t - p.ln)).1 + 1, (placeN r (t - p.ln)).2)

theorem placeN_le : ∀ (l : List Prt) (t : Int), (placeN l t).1 ≤ l.length
  | [], _ => Nat.le_refl _
  | p :: r, t => by
    unfold placeN
    split
    · simp
    · have := placeN_le r (t - p.ln); simp; omega

theorem drop_next {α : Type} {l : List α} {k : Nat} {x : α} (hx : l[k]? = some x) : l.drop k = x :: l.drop (k + 1) := by
  obtain ⟨hk, rfl⟩ := List.getElem?_eq_some_iff.1 hx
  exact List.drop_eq_getElem_cons hk

/-- What a round knows: the rest of the way is the rest of the list. -/
def PlAt (l : List Prt) (t : Int) (k : Nat) (u : Int) : Prop := placeN l t = ((placeN (l.drop k) u).1 + k, (placeN (l.drop k) u).2)

theorem PlAt.start (l : List Prt) (t : Int) : PlAt l t 0 t := rfl
theorem PlAt.hit {l : List Prt} {t : Int} {k : Nat} {u : Int} {p : Prt} (h : PlAt l t k u) (hx : l[k]? = some p) (hu : u < p.ln) : placeN l t = (k, u) := by
  unfold PlAt at h
  rw [h, drop_next hx, placeN, if_pos hu]
  simp
theorem PlAt.next {l : List Prt} {t : Int} {k : Nat} {u : Int} {p : Prt} (h : PlAt l t k u) (hx : l[k]? = some p) (hu : ¬ u < p.ln) : PlAt l t (k + 1) (u - p.ln) := by
  unfold PlAt at h ⊢
  rw [h, drop_next hx, placeN, if_neg hu]
  simp; omega
theorem PlAt.done {l : List Prt} {t : Int} {u : Int} (h : PlAt l t l.length u) : placeN l t = (l.length, 0) := by
  unfold PlAt at h
  rw [h, List.drop_length, placeN]
  simp

set_option maxHeartbeats 1000000 in
theorem place_any (w : World) (l : List Prt) (v : Value) (t : Int) (hl : Sl w 3 encP v l) (hbd : ∀ p, p ∈ l → 1 ≤ p.ln ∧ p.ln ≤ 1000000000000000) (h0 : 0 ≤ t) (h1 : t ≤ 1000000000000000) :
    Calls Try.prog 39 #[v, .int .i64 t] w fun e w' => e = .returned (.tuple #[.int .i64 ((placeN l t).1 : Nat), .int .i64 (placeN l t).2]) ∧ Below w.heap.size w w' := by
  obtain ⟨ao, cap, rfl, hcap, hmax, hnil, hel⟩ := hl
  unfold maxLen at hmax
  have HP := Lib.hid (PlAt.start l t)
  obtain ⟨R, hR⟩ : ∃ R, R = placeN l t := ⟨_, rfl⟩
  have HR := Lib.hid hR
  rw [← hR]
  clear hR
  go_enter Try.func39, Try.ntmps39
  go_wp2
  go_loopg [1, 10] l.length (fun gg s1 s10 wr => ∃ (kk : Nat) (u : Int), kk ≤ l.length ∧ l.length - kk ≤ gg ∧ s10 = .int .i64 kk ∧ s1 = .int .i64 u ∧ 0 ≤ u ∧ u ≤ 1000000000000000 ∧ Aside (Below w.heap.size w wr) ∧ Aside (PlAt l t kk u))
  case atStart => exact ⟨0, t, Nat.zero_le _, by omega, rfl, rfl, h0, h1, Below.refl _ _, HP.out⟩
  case round =>
    obtain ⟨kk, u, hkk, hg, rfl, rfl, hu0, hu1, BW, A⟩ := hrel
    by_cases hlt : kk < l.length
    · have hltz : (kk : Int) < (l.length : Int) := by omega
      obtain ⟨p, hx⟩ : ∃ x, l[kk]? = some x := ⟨l[kk], by simp [hlt]⟩
      obtain ⟨b, off, rfl, hc⟩ := hel kk p hx
      have hlt0 := World.block_lt_of_cell? w _ (hc 0 _ rfl)
      have c0 := (BW.out.cell (p := ⟨b, off + kk * 3, none⟩) hlt0).trans (hc 0 _ rfl)
      have c1 := (BW.out.cell (p := ⟨b, off + kk * 3 + 1, none⟩) hlt0).trans (hc 1 _ rfl)
      have c2 := (BW.out.cell (p := ⟨b, off + kk * 3 + 2, none⟩) hlt0).trans (hc 2 _ rfl)
      obtain ⟨hp0, hp1⟩ := hbd p (List.mem_of_getElem? hx)
      have HX := Lib.hid hx
      have hszw := BW.out.size
      clear hx hc hel hbd
      by_cases hu : u < p.ln
      · have hv : Hid (R = (kk, u)) := Lib.hid (HR.out.trans (A.out.hit HX.out hu))
        go_wp2
        go_ret2
        exact ⟨by rw [hv.out]; rfl, BW.out.alloc hszw _⟩
      · go_wp2
        go_roundg (l.length - (kk + 1))
        case measure => omega
        case rel => exact ⟨kk + 1, u - p.ln, by omega, by omega, by go_num, rfl, by omega, by omega, BW.out.alloc hszw _, A.out.next HX.out (by omega)⟩
    · obtain rfl : kk = l.length := by omega
      have hv : Hid (R = (l.length, 0)) := Lib.hid (HR.out.trans A.out.done)
      clear hel
      go_wp2
      go_ret2
      exact ⟨by rw [hv.out]; rfl, BW.out⟩

/-- The reference's place. -/
def placeI (l : List Prt) (t : Int) : Int := if (placeN l t).1 = l.length then -1 else ((placeN l t).1 : Nat)

theorem placeN_none {l : List Prt} : ∀ {t : Int}, (placeN l t).1 = l.length → (placeN l t).2 = 0 := by
  induction l with
  | nil => intro t _; rfl
  | cons p r ih =>
    intro t h
    unfold placeN at h ⊢
    split at h
    · simp at h
    · rename_i h1
      rw [if_neg h1]
      simp at h
      exact ih h

set_option maxHeartbeats 1000000 in
theorem placeR_any (w : World) (l : List Prt) (v : Value) (t : Int) (hl : Sl w 3 encP v l) (hbd : ∀ p, p ∈ l → 1 ≤ p.ln ∧ p.ln ≤ 1000000000000000) (h0 : 0 ≤ t) (h1 : t ≤ 1000000000000000) :
    Calls Try.prog 43 #[v, .int .i64 t] w fun e w' => e = .returned (.tuple #[.int .i64 (placeI l t), .int .i64 (placeN l t).2]) ∧ w = w' := by
  obtain ⟨ao, cap, rfl, hcap, hmax, hnil, hel⟩ := hl
  unfold maxLen at hmax
  have HP := Lib.hid (PlAt.start l t)
  obtain ⟨R, hR⟩ : ∃ R, R = placeN l t := ⟨_, rfl⟩
  have HR := Lib.hid hR
  obtain ⟨I, hI⟩ : ∃ I, I = placeI l t := ⟨_, rfl⟩
  have HI : Hid (I = if R.1 = l.length then (-1 : Int) else ((R.1 : Nat) : Int)) := Lib.hid (by rw [hI, hR]; rfl)
  rw [← hR, ← hI]
  clear hR hI
  go_enter Try.func43, Try.ntmps43
  go_wp2
  go_loop [1, 6] (fun s1 s6 => ∃ (kk : Nat) (u : Int), kk ≤ l.length ∧ s6 = .int .i64 kk ∧ s1 = .int .i64 u ∧ 0 ≤ u ∧ u ≤ 1000000000000000 ∧ Aside (PlAt l t kk u)) (fun _ i => l.length - (intOf i).toNat)
  case atStart => exact ⟨0, t, Nat.zero_le _, rfl, rfl, h0, h1, HP.out⟩
  case round =>
    obtain ⟨kk, u, hkk, rfl, rfl, hu0, hu1, A⟩ := hrel
    by_cases hlt : kk < l.length
    · have hltz : (kk : Int) < (l.length : Int) := by omega
      obtain ⟨p, hx⟩ : ∃ x, l[kk]? = some x := ⟨l[kk], by simp [hlt]⟩
      obtain ⟨b, off, rfl, hc⟩ := hel kk p hx
      have c2 := hc 2 _ rfl
      obtain ⟨hp0, hp1⟩ := hbd p (List.mem_of_getElem? hx)
      have HX := Lib.hid hx
      clear hx hc hel hbd
      by_cases hu : u < p.ln
      · have hv : Hid (R = (kk, u)) := Lib.hid (HR.out.trans (A.out.hit HX.out hu))
        have hi : Hid ((kk : Int) = I) := Lib.hid (by rw [HI.out, hv.out, if_neg (by simp; omega)])
        go_wp2
        go_ret2
        exact ⟨by rw [hv.out, ← hi.out]; rfl, rfl⟩
      · go_wp2
        go_round
        case rel => exact ⟨kk + 1, u - p.ln, by omega, by go_num, rfl, by omega, by omega, A.out.next HX.out (by omega)⟩
        case measure => simp [intOf]; omega
    · obtain rfl : kk = l.length := by omega
      have hv : Hid (R = (l.length, 0)) := Lib.hid (HR.out.trans A.out.done)
      have hi : Hid (-1 = I) := Lib.hid (by rw [HI.out, hv.out, if_pos rfl])
      clear hel
      go_wp2
      go_ret2
      exact ⟨by rw [hv.out, ← hi.out]; rfl, rfl⟩
end Go.Proofs.Yteijcombdlgioaa

/- Best of edge: its maps against the reference's list: plain. -/
import Derived.Test.YtmgbmoiefgfemaaDoorFrtW
import Derived.Test.YtmgbmoiefgfemaaDoorBsfR
namespace Go.Proofs.YtmgbmoiefgfemaaDoor
open Go.RowKit

/-- When a string is asked for again, as an integer. -/
def nxI (K : List ByteArray) (k : Nat) : ByteArray → Int := fun x => (nxU K x k : Nat)
/-- When the key at a place is asked for again. -/
def nxG (K : List ByteArray) (p : Nat) : Int := (nxU K (keyA K p) (p + 1) : Nat)
def zrG (_ : Nat) : Int := 0
theorem mixG_start (K : List ByteArray) : List.replicate K.length (0 : Int) = mixL zrG (nxG K) K.length K.length := by
  apply List.ext_getElem
  · simp [mixL]
  · intro i h1 h2
    simp [mixL, zrG] at h1 ⊢
    intro h3
    omega
theorem mixL_down {α : Type} (f g : Nat → α) (i n : Nat) : (mixL f g (i + 1) n).set i (g i) = mixL f g i n := by
  apply List.ext_getElem
  · simp [mixL]
  · intro j h1 h2
    rw [List.getElem_set]
    simp only [mixL, List.getElem_map, List.getElem_range]
    by_cases e : i = j
    · subst e; simp
    · rw [if_neg e]
      by_cases h : j < i
      · rw [if_pos h, if_pos (by omega)]
      · rw [if_neg h, if_neg (by omega)]
/-- The map of the last places: who stands in it. -/
def LasS (K : List ByteArray) (k : Nat) (ks : List ByteArray) : Prop := ∀ x, x ∈ ks ↔ nxU K x k < K.length
theorem LasS.start (K : List ByteArray) : LasS K K.length [] := fun x => by
  rw [nxU_end K x (Nat.le_refl _)]
  simp
theorem LasS.step {K ks : List ByteArray} {i : Nat} (h : LasS K (i + 1) ks) (hi : i < K.length) : LasS K i (addL (keyA K i) ks) := fun x => by
  rw [mem_addL]
  by_cases e : keyA K i = x
  · subst e
    rw [nxU_here hi rfl]
    simp [hi]
  · rw [nxU_on hi e, h x]
    exact ⟨fun c => c.resolve_left fun c => e c.symm, Or.inr⟩
theorem LasS.len {K ks : List ByteArray} {k : Nat} (h : LasS K k ks) (hn : ks.Nodup) : ks.length ≤ K.length := nodup_le hn fun x hx => by
  have h1 := (h x).1 hx
  have h2 := ((nxU_bd K x _ k rfl).2 h1).2
  rw [← h2]
  unfold keyA
  rw [List.getD_eq_getElem?_getD, List.getElem?_eq_getElem h1]
  exact List.getElem_mem _
theorem nxI_step {K : List ByteArray} {i : Nat} (hi : i < K.length) (d : ByteArray) : (if d = keyA K i then (i : Int) else nxI K (i + 1) d) = nxI K i d := by
  by_cases e : d = keyA K i
  · rw [if_pos e]
    unfold nxI
    rw [nxU_here hi e.symm]
  · rw [if_neg e]
    unfold nxI
    rw [nxU_on hi fun c => e c.symm]
theorem nxI_hold {K : List ByteArray} {i : Nat} (hi : i < K.length) (d : ByteArray) : (if d = keyA K i then nxG K i else nxI K i d) = nxI K (i + 1) d := by
  by_cases e : d = keyA K i
  · rw [if_pos e, e]
    rfl
  · rw [if_neg e]
    unfold nxI
    rw [nxU_on hi fun c => e c.symm]
theorem nxI_bd (K : List ByteArray) (k : Nat) (hn : K.length ≤ 1000) (x : ByteArray) : 0 ≤ nxI K k x ∧ nxI K k x ≤ 1000 := by
  unfold nxI
  have := nxU_le K x k
  omega
theorem nxG_bd (K : List ByteArray) (p : Nat) (hn : K.length ≤ 1000) : 0 ≤ nxG K p ∧ nxG K p ≤ 1000 := nxI_bd K (p + 1) hn _
theorem WrsM.worst {K H : List ByteArray} {i : Nat} {e : ByteArray} (h : WrsM (nxI K i) H e) : Worst K i H e := ⟨h.1, fun x hx => by
  have := h.2 x hx
  unfold nxI at this
  omega⟩
theorem SimC.start (K : List ByteArray) (M : Nat) : SimC K 0 [] (rfS K M 0).1 := ⟨by simp, by simp [rfS], rfl, fun x _ => by simp [rfS]⟩
/-- A round of a key that is held. -/
theorem sim_hit {K H : List ByteArray} {M i : Nat} (h : SimC K i H (rfS K M i).1) (hi : i < K.length) (hx : keyA K i ∈ H) : SimC K (i + 1) H (rfS K M (i + 1)).1 ∧ (rfS K M (i + 1)).2 = (rfS K M i).2 + 1 := by
  rw [rfS_next, if_pos ((Lib.containsS_iff _ _).2 ((h.hit hi).1 hx))]
  exact ⟨h.next hi hx, rfl⟩
/-- A round of a key that is not held, with room. -/
theorem sim_room {K H : List ByteArray} {M i : Nat} (h : SimC K i H (rfS K M i).1) (hi : i < K.length) (hx : ¬ keyA K i ∈ H) (hl : ¬ H.length = M) : SimC K (i + 1) (keyA K i :: H) (rfS K M (i + 1)).1 ∧ (rfS K M (i + 1)).2 = (rfS K M i).2 := by
  rw [rfS_next, if_neg (fun c => hx ((h.hit hi).2 ((Lib.containsS_iff _ _).1 c))), if_neg (by rw [← h.len]; exact hl)]
  exact ⟨h.put hi hx, rfl⟩
/-- .. without room. -/
theorem sim_full {K H : List ByteArray} {M i : Nat} {e : ByteArray} (h : SimC K i H (rfS K M i).1) (hi : i < K.length) (hx : ¬ keyA K i ∈ H) (hl : H.length = M) (hM : 0 < M) (hw : WrsM (nxI K i) H e) : SimC K (i + 1) (keyA K i :: rmv e H) (rfS K M (i + 1)).1 ∧ (rfS K M (i + 1)).2 = (rfS K M i).2 := by
  have hx2 : ¬ keyA K i ∈ (rfS K M i).1 := fun c => hx ((h.hit hi).2 c)
  rw [rfS_next, if_neg (fun c => hx2 ((Lib.containsS_iff _ _).1 c)), if_pos (by rw [← h.len]; exact hl)]
  obtain ⟨H', hH⟩ : ∃ H', H' = (rfS K M i).1 := ⟨_, rfl⟩
  rw [← hH] at h hx2 ⊢
  have hl2 : H'.length = M := by rw [← h.len]; exact hl
  obtain ⟨h1, h2⟩ := wrA_ok K i H' H'.length
  have h3 := h1 (by omega)
  obtain ⟨y, hy⟩ : ∃ y, H'[wrA K i H' H'.length]? = some y := ⟨H'[wrA K i H' H'.length], by simp [h3]⟩
  have hky : keyA H' (wrA K i H' H'.length) = y := by unfold keyA; rw [List.getD_eq_getElem?_getD, hy]; rfl
  have hne : ∀ z, z ∈ H' → ¬ keyA K i = z := fun z hz c => hx2 (by rw [c]; exact hz)
  have hW : Worst K i H' y := ⟨List.mem_of_getElem? hy, fun z hz => by
    obtain ⟨j, hj, rfl⟩ := List.getElem_of_mem hz
    have h4 := h2 j hj
    rw [hky] at h4
    have hkz : keyA H' j = H'[j] := by unfold keyA; rw [List.getD_eq_getElem?_getD, List.getElem?_eq_getElem hj]; rfl
    rw [hkz] at h4
    rw [nxU_on hi (hne _ hz), nxU_on hi (hne _ (List.mem_of_getElem? hy))]
    exact h4⟩
  rw [eraseIdx_rmv h.n2 hy]
  have hd := h.drop hw.worst hW
  exact ⟨hd.put hi (fun c => hx (mem_rmv.1 c).1), rfl⟩
end Go.Proofs.YtmgbmoiefgfemaaDoor

/- Arguments opened, with their bulk. -/
import Derived.Test.YteijcombdlgioaaOpen
import Derived.Test.YteijcombdlgioaaRows
namespace Go.Proofs.Yteijcombdlgioaa
open Go.RowKit Go.ChangeShapes Go.WideShapes Go.Deep

theorem bulk_one {H : Type} (d : DataW H) : 1 ≤ Rows.uptoBulk d := by
  cases d with
  | lit l => cases l <;> simp [Rows.uptoBulk]
  | nil => simp [Rows.uptoBulk]
  | ptr d => simp [Rows.uptoBulk]
  | slice elems spare => simp [Rows.uptoBulk]
  | agg parts => simp [Rows.uptoBulk]
  | iface t d => simp [Rows.uptoBulk]
  | map entries => simp [Rows.uptoBulk]
  | held h => simp [Rows.uptoBulk]
theorem bulk_append {H : Type} (l r : List (DataW H)) : Rows.uptoBulkAll (l ++ r) = Rows.uptoBulkAll l + Rows.uptoBulkAll r := by
  induction l with
  | nil => simp [Rows.uptoBulkAll]
  | cons x l ih => simp only [List.cons_append, Rows.uptoBulkAll, ih]; omega
theorem bulk_part {H : Type} {d : DataW H} {l : List (DataW H)} (h : d ∈ l) : Rows.uptoBulk d ≤ Rows.uptoBulkAll l := by
  induction l with
  | nil => cases h
  | cons x r ih =>
    simp only [Rows.uptoBulkAll]
    cases List.mem_cons.1 h with
    | inl e => subst e; omega
    | inr e => have := ih e; omega

def sizes {α : Type} (size : α → Nat) : List α → Nat
  | [] => 0
  | y :: r => size y + sizes size r
theorem sizes_append {α : Type} (size : α → Nat) : ∀ a b : List α, sizes size (a ++ b) = sizes size a + sizes size b
  | [], b => by simp [sizes]
  | p :: r, b => by simp [sizes, sizes_append size r b]; omega
theorem sizes_bulk {α H : Type} {size : α → Nat} {D : Nat → DataW H} {l : List α} (h : ∀ i y, l[i]? = some y → size y ≤ Rows.uptoBulk (D i)) : ∀ k, k ≤ l.length → sizes size (l.take k) ≤ Rows.uptoBulkAll ((List.range k).map D)
  | 0, _ => by simp [sizes]
  | k + 1, hk => by
    have hx : l[k]? = some (l[k]'(by omega)) := List.getElem?_eq_getElem (by omega)
    have ih := sizes_bulk h k (by omega)
    rw [List.take_succ_eq_append_getElem (by omega), sizes_append, List.range_succ, List.map_append, bulk_append]
    have := h k _ hx
    simp only [sizes, List.map_cons, List.map_nil, Rows.uptoBulkAll]
    omega

/-- Cells of type E are enc' y for some y that is wf, and not larger than what is read. -/
def DecB {α : Type} (P : Program) (w : World) (E : TypeId) (enc' : α → List Value) (wf : α → Prop) (size : α → Nat) : Prop :=
  ∀ (H : Type) (enc : TypeId × Value → H) (n : Nat) (cs : List Value) (x : DataW H × List MemPlace), DataW.trod enc P w 0 (fun _ => true) true n E cs = some x → ∃ y, cs = enc' y ∧ wf y ∧ size y ≤ Rows.uptoBulk x.1
theorem DecB.of {α : Type} {P : Program} {w : World} {E : TypeId} {enc' : α → List Value} {wf : α → Prop} (h : Dec P w E enc' wf) : DecB P w E enc' wf fun _ => 1 := fun H enc n cs x hx => by
  obtain ⟨y, h1, h2⟩ := h H enc n cs x hx
  exact ⟨y, h1, h2, bulk_one _⟩

theorem sl_openB {α : Type} {H : Type} {enc : TypeId × Value → H} {P : Program} {w : World} {t E : TypeId} {k : Nat} {enc' : α → List Value} {wf : α → Prop} {size : α → Nat} (ht : P.underlying t = some (.slice E)) (hk : P.cellsOf E = k) (hk0 : 0 < k)
    (hd : DecB P w E enc' wf size) {fuel : Nat} {cs0 : List Value} {x0 : DataW H × List MemPlace} (hf : DataW.trod enc P w 0 (fun _ => true) true fuel t cs0 = some x0) :
    ∃ v l, cs0 = [v] ∧ Sl w k enc' v l ∧ (∀ y, y ∈ l → wf y) ∧ sizes size l ≤ Rows.uptoBulk x0.1 := by
  rcases open_slice ht hf with ⟨hcs, hx⟩ | ⟨a', len', cap', m, n, D, Pl, hcs, hb, hl, hm, hmm, hx, hel⟩
  · exact ⟨_, [], hcs, Sl.nil, fun y hy => by simp at hy, by simp [sizes]⟩
  · simp only [if_true] at hmm
    subst hmm
    have hy : ∀ i, i < m → ∃ y : α, (w.cells? 0 (a'.add (i * P.cellsOf E)) (P.cellsOf E)) = some (enc' y) ∧ wf y ∧ size y ≤ Rows.uptoBulk (D i) := fun i hi => by
      obtain ⟨cs', h1, h2⟩ := hel i hi
      obtain ⟨y, rfl, hw, hs⟩ := hd H enc n cs' _ h2
      exact ⟨y, h1, hw, hs⟩
    have hlist : ∀ j, j ≤ m → ∃ l : List α, l.length = j ∧ (∀ y, y ∈ l → wf y) ∧ ∀ i y, l[i]? = some y → w.cells? 0 (a'.add (i * P.cellsOf E)) (P.cellsOf E) = some (enc' y) ∧ size y ≤ Rows.uptoBulk (D i) := by
      intro j
      induction j with
      | zero => exact fun _ => ⟨[], rfl, fun y hy => by simp at hy, fun i y h => by simp at h⟩
      | succ j ih =>
        intro hj
        obtain ⟨l, hl1, hl2, hl3⟩ := ih (by omega)
        obtain ⟨y, hy1, hy2, hy3⟩ := hy j (by omega)
        refine ⟨l ++ [y], by simp [hl1], fun z hz => ?_, fun i z hz => ?_⟩
        · rcases List.mem_append.1 hz with h | h
          · exact hl2 z h
          · simp at h; subst h; exact hy2
        · by_cases h : i < l.length
          · rw [List.getElem?_append_left h] at hz; exact hl3 i z hz
          · rw [List.getElem?_append_right (by omega)] at hz
            have hi : i = l.length := by
              have := (List.getElem?_eq_some_iff.1 hz).1
              simp at this; omega
            subst hi
            simp at hz; subst hz
            rw [hl1]; exact ⟨hy1, hy3⟩
    obtain ⟨l, hl1, hl2, hl3⟩ := hlist len' hl
    refine ⟨_, l, hcs, ⟨some a', m, by rw [hl1], by omega, hm, fun e => by simp at e, fun i y hi => ?_⟩, hl2, ?_⟩
    · have hc := (hl3 i y hi).1
      rw [hk] at hc
      obtain ⟨_, hlen, hcell⟩ := World.cells?_some hc
      obtain ⟨b, off, spot⟩ := a'
      have hspot : spot = none := by
        cases i with
        | zero =>
          have h0 := hcell 0 hk0
          rw [List.getElem?_eq_getElem (by omega)] at h0
          simpa [Addr.add] using World.cell?_spot h0
        | succ i =>
          have hy0 := (hl3 0 (l[0]'(by have := (List.getElem?_eq_some_iff.1 hi).1; omega)) (by simp)).1
          rw [hk] at hy0
          obtain ⟨_, hlen0, hcell0⟩ := World.cells?_some hy0
          have h0 := hcell0 0 hk0
          rw [List.getElem?_eq_getElem (by omega)] at h0
          simpa [Addr.add] using World.cell?_spot h0
      subst hspot
      refine ⟨b, off, rfl, fun j u hu => ?_⟩
      have hj : j < k := by
        have := (List.getElem?_eq_some_iff.1 hu).1
        omega
      have := hcell j hj
      rw [hu] at this
      rw [← this]
      congr 1
      unfold Addr.add
      split <;> split <;> simp [*] <;> omega
    · have h1 := sizes_bulk (D := D) (l := l) (size := size) (fun i y h => (hl3 i y h).2) len' (by omega)
      rw [← hl1, List.take_length, hl1] at h1
      rw [hx]
      simp only [Rows.uptoBulk]
      omega
end Go.Proofs.Yteijcombdlgioaa

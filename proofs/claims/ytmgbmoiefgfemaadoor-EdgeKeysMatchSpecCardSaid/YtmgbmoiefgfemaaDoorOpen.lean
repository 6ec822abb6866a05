/- Arguments opened: a slice of structs reads as a list. -/
import Derived.Test.YtmgbmoiefgfemaaDoorBase
import Derived.ProofKit
import Derived.OpenShut
import Derived.ShutString
import Derived.ChangeOld
import Derived.SizedLaws
import Derived.Deep.Strs
namespace Go.Proofs.YtmgbmoiefgfemaaDoor
open Go.RowKit Go.ChangeShapes Go.WideShapes Go.Deep

/-- Cells of type E are enc' y for some y that is wf. -/
def Dec {α : Type} (P : Program) (w : World) (E : TypeId) (enc' : α → List Value) (wf : α → Prop) : Prop :=
  ∀ (H : Type) (enc : TypeId × Value → H) (n : Nat) (cs : List Value) (x : DataW H × List MemPlace), DataW.trod enc P w 0 (fun _ => true) true n E cs = some x → ∃ y, cs = enc' y ∧ wf y

/-- An int of Go. -/
def I64 (n : Int) : Prop := -9223372036854775808 ≤ n ∧ n ≤ 9223372036854775807
theorem I64.of {n : Int} (h : (Lit.int .i64 n).wf = true) : I64 n := by
  simp [Lit.wf, IntKind.min, IntKind.max, IntKind.signed, IntKind.bits] at h
  exact ⟨by omega, by omega⟩

theorem sl_open {α : Type} {H : Type} {enc : TypeId × Value → H} {P : Program} {w : World} {t E : TypeId} {k : Nat} {enc' : α → List Value} {wf : α → Prop} (ht : P.underlying t = some (.slice E)) (hk : P.cellsOf E = k) (hk0 : 0 < k)
    (hd : Dec P w E enc' wf) {a : Option Addr} {len cap : Nat} {d : DataW H} {p : List MemPlace} (h : DataW.Trod enc P w 0 (fun _ => true) true t (.slice a len cap) d p) :
    ∃ l, Sl w k enc' (.slice a len cap) l ∧ (∀ y, y ∈ l → wf y) ∧ l.length = len ∧
      ((d = .nil ∧ cap = 0) ∨ ∃ elems spare, d = .slice elems spare ∧ elems.length + spare.length = cap) := by
  obtain ⟨fuel, hf⟩ := h
  rcases open_slice ht hf with ⟨hcs, hx⟩ | ⟨a', len', cap', m, n, D, Pl, hcs, hb, hl, hm, hmm, hx, hel⟩
  · simp [Value.cells] at hcs
    obtain ⟨rfl, rfl, rfl⟩ := hcs
    simp at hx
    exact ⟨[], Sl.nil, fun y hy => by simp at hy, rfl, .inl ⟨hx.1, rfl⟩⟩
  · simp [Value.cells] at hcs
    obtain ⟨rfl, rfl, rfl⟩ := hcs
    simp only [Prod.mk.injEq] at hx
    simp only [if_true] at hmm
    subst hmm
    have hy : ∀ i, i < m → ∃ y : α, (w.cells? 0 (a'.add (i * P.cellsOf E)) (P.cellsOf E)) = some (enc' y) ∧ wf y := fun i hi => by
      obtain ⟨cs', h1, h2⟩ := hel i hi
      obtain ⟨y, rfl, hw⟩ := hd H enc n cs' _ h2
      exact ⟨y, h1, hw⟩
    have hlist : ∀ j, j ≤ m → ∃ l : List α, l.length = j ∧ (∀ y, y ∈ l → wf y) ∧ ∀ i y, l[i]? = some y → w.cells? 0 (a'.add (i * P.cellsOf E)) (P.cellsOf E) = some (enc' y) := by
      intro j
      induction j with
      | zero => exact fun _ => ⟨[], rfl, fun y hy => by simp at hy, fun i y h => by simp at h⟩
      | succ j ih =>
        intro hj
        obtain ⟨l, hl1, hl2, hl3⟩ := ih (by omega)
        obtain ⟨y, hy1, hy2⟩ := hy j (by omega)
        refine ⟨l ++ [y], by simp [hl1], fun z hz => ?_, fun i z hz => ?_⟩
        · rcases List.mem_append.1 hz with h | h
          · exact hl2 z h
          · simp at h; subst h; exact hy2
        · by_cases h : i < l.length
          · rw [List.getElem?_append_left h] at hz; exact hl3 i z hz
          · rw [List.getElem?_append_right (by omega)] at hz
            have hi : i = l.length := by
              have := (List.getElem?_eq_some_iff.1 hz).1
              simp at this; omega
            subst hi
            simp at hz; subst hz
            rw [hl1]; exact hy1
    obtain ⟨l, hl1, hl2, hl3⟩ := hlist len hl
    refine ⟨l, ⟨some a', m, by rw [hl1], by omega, hm, fun e => by simp at e, fun i y hi => ?_⟩, hl2, hl1, .inr ⟨_, _, hx.1, by simp; omega⟩⟩
    have hc := hl3 i y hi
    rw [hk] at hc
    obtain ⟨_, hlen, hcell⟩ := World.cells?_some hc
    obtain ⟨b, off, spot⟩ := a'
    have hspot : spot = none := by
      cases i with
      | zero =>
        have h0 := hcell 0 hk0
        rw [List.getElem?_eq_getElem (by omega)] at h0
        simpa [Addr.add] using World.cell?_spot h0
      | succ i =>
        have hy0 := hl3 0 (l[0]'(by have := (List.getElem?_eq_some_iff.1 hi).1; omega)) (by simp)
        rw [hk] at hy0
        obtain ⟨_, hlen0, hcell0⟩ := World.cells?_some hy0
        have h0 := hcell0 0 hk0
        rw [List.getElem?_eq_getElem (by omega)] at h0
        simpa [Addr.add] using World.cell?_spot h0
    subst hspot
    refine ⟨b, off, rfl, fun j u hu => ?_⟩
    have hj : j < k := by
      have := (List.getElem?_eq_some_iff.1 hu).1
      omega
    have := hcell j hj
    rw [hu] at this
    rw [← this]
    congr 1
    unfold Addr.add
    split <;> split <;> simp [*] <;> omega

/-- What the form's reach says of a slice among the arguments. -/
theorem sl_reach {H : Type} {P : Program} {ts : List TypeId} {ds : List (DataW H)} (h : (DataW.weightsEach P ts ds).all (· ≤ reachBytes) = true) {j : Nat} {t E : TypeId} {d : DataW H} {cap len : Nat} (hle : len ≤ cap)
    (htj : ts[j]? = some t) (hdj : ds[j]? = some d) (hu : P.underlying t = some (.slice E)) (hd : (d = .nil ∧ cap = 0) ∨ ∃ elems spare, d = .slice elems spare ∧ elems.length + spare.length = cap) :
    len * P.bytesOf E ≤ 140737488351232 := by
  rcases hd with ⟨_, rfl⟩ | ⟨elems, spare, rfl, hc⟩
  · have : len = 0 := by omega
    simp [this]
  · have := sized_slice h htj hdj hu
    rw [hc] at this
    exact Nat.le_trans (Nat.mul_le_mul_right _ hle) (by simpa [reachBytes] using this)
end Go.Proofs.YtmgbmoiefgfemaaDoor

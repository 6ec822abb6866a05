/- A strings.Builder of the call's own. -/
import Derived.Test.YtmgbmoiefgfemaaDoorShfB
import Derived.Test.YtmgbmoiefgfemaaDoorShfE
import Derived.Test.YtmgbmoiefgfemaaDoorTxER
namespace Go.Proofs.YtmgbmoiefgfemaaDoor
open Go.RowKit Go.Lib Go.Sort Go.Shelf

theorem lays166 : Lays.n166 Tryd.prog Tryd.lays156_ren := { Tryd.lays156 with }
theorem extraB2 : Builder.Extra Tryd.prog Tryd.lays169_ren := {
  sizeBuilder := by kernel_rfl
  liesBuilder := by kernel_rfl
  t5 := Tryd.underlying5
  a5 := Tryd.isAgg5
  z5 := Tryd.sizeOf5
  v5 := Tryd.zeroValue5
  infoByte := by kernel_rfl
  cellsByte := by kernel_rfl
  sizeByte := by kernel_rfl
  neB5 := by decide }
/-- The builder in block b holds a string. -/
def Bui (b : Nat) (s : ByteArray) (w : World) : Prop := IsBuilder 105 5 b b (byteCells s.data.toList) w ∧ b ≤ w.heap.size
theorem Bui.start (w : World) : Bui w.heap.size ⟨#[]⟩ (w.alloc (.cells #[.pointer none, .slice none 0 0] 105)) := ⟨fresh_isBuilder _ _ w, by simp⟩
theorem BuilderAt.below {T e : TypeId} {B b : Nat} {p : Value} {bs : List Value} {w w' : World} (h : BuilderAt T e B b p bs w) (hb : Below w.heap.size w w') : BuilderAt T e B b p bs w' := by
  have hlt := h.lt
  obtain ⟨hB, v, hk, hown, hne⟩ := h
  refine ⟨hB, v, (hb.block b hlt).trans hk, ?_, hne⟩
  obtain ⟨h1, h2⟩ := hown
  refine ⟨h1, ?_⟩
  rcases h2 with h2 | ⟨g, cap, cur, hv, hg, hh, h3⟩
  · exact .inl h2
  · exact .inr ⟨g, cap, cur, hv, hg, (hb.block g (Array.getElem?_eq_some_iff.1 hh).1).trans hh, h3⟩
theorem Bui.below {b : Nat} {s : ByteArray} {w w' : World} (h : Bui b s w) (hb : Below w.heap.size w w') : Bui b s w' := by
  refine ⟨?_, Nat.le_trans h.2 hb.size⟩
  rcases h.1 with h1 | h1
  · exact .inl (BuilderAt.below h1 hb)
  · exact .inr (BuilderAt.below h1 hb)
theorem writeB_any (b : Nat) (s x : ByteArray) (w : World) (h : Bui b s w) (hs : s.size + x.size ≤ 140737488355328) :
    Calls Tryd.prog 74 #[.pointer (some ⟨b, 0, none⟩), .string x] w fun e w' => e = .returned (.tuple #[.int .i64 x.size, .nilIface]) ∧ Bui b (s ++ x) w' ∧ Below b w w' := by
  refine (Any.Builder_WriteString lays166 Tryd.Builder_Extra_156 b b (byteCells s.data.toList) x w h.1 (by rw [byteCells_length, ← size_eq]; exact hs) h.2).mono ?_
  rintro e w' ⟨rfl, h1, h2⟩
  refine ⟨rfl, ⟨.inr ?_, Nat.le_trans h.2 h2.size⟩, h2⟩
  rw [app_data, byteCells_append, ← strCells_eq]
  exact h1
theorem lenB_any (b : Nat) (s : ByteArray) (w : World) (h : Bui b s w) :
    Calls Tryd.prog 76 #[.pointer (some ⟨b, 0, none⟩)] w fun e w' => e = .returned (.int .i64 s.size) ∧ w' = w := by
  have h2 := Any.Builder_Len Tryd.lays170 b b (byteCells s.data.toList) w h.1
  rw [byteCells_length, ← size_eq] at h2
  exact h2
theorem stringB_any (b : Nat) (s : ByteArray) (w : World) (h : Bui b s w) :
    Calls Tryd.prog 77 #[.pointer (some ⟨b, 0, none⟩)] w fun e w' => e = .returned (.string s) ∧ Below b w w' := by
  have h2 := Any.Builder_String_any Tryd.lays169 extraB2 b b s.data.toList w h.1 h.2
  rw [show (⟨s.data.toList.toArray⟩ : ByteArray) = s from bytes_ext (by simp)] at h2
  exact h2
end Go.Proofs.YtmgbmoiefgfemaaDoor

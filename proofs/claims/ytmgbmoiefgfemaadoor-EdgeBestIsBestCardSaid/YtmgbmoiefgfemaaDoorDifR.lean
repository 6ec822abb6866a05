/- Different of the reference. -/
import Derived.Test.YtmgbmoiefgfemaaDoorBelD
import Derived.Test.YtmgbmoiefgfemaaDoorLibZ
import Derived.Sort.OwnSorted
import Derived.Lib.OwnBridge
import Derived.Shelf.Slices.In.SortNone
namespace Go.Proofs.YtmgbmoiefgfemaaDoor
open Go.RowKit Go.Shelf Go.Sort

/-- The clone. -/
def ClnP (w : World) (K : List ByteArray) : Ending → World → Prop := fun e w' => ∃ v', e = .returned v' ∧ w'.ownsRow w.heap.size 9 1 v' K.length (K.map Value.string) ∧ Below w.heap.size w w'
theorem cloneS_any (w : World) (K : List ByteArray) (v : Value) (hl : Sl w 1 encS v K) (hn : K.length ≤ 1000) :
    Calls Tryd.prog 79 #[v] w (ClnP w K) := by
  obtain ⟨ao, cap, rfl, hcap, hmax, hnil, hel⟩ := hl
  cases ao with
  | none =>
    have h0 : K = [] := List.eq_nil_of_length_eq_zero (by have := hnil rfl; omega)
    subst h0
    refine (Any.slices_Clone_string_nil Tryd.laysClnS 0 cap w).mono ?_
    rintro e w' ⟨rfl, rfl⟩
    exact ⟨_, rfl, ⟨rfl, Or.inl ⟨rfl, rfl⟩⟩, Below.refl _ _⟩
  | some a =>
    by_cases h0 : K = []
    · subst h0
      refine (Any.slices_Clone_string_zero Tryd.laysClnS a cap w).mono ?_
      rintro e w' ⟨v', rfl, h1, _, h2⟩
      exact ⟨_, rfl, h1, h2⟩
    · have hp : 0 < K.length := List.length_pos_iff.2 h0
      obtain ⟨b, off, hb, _⟩ := hel 0 K[0] (by simp)
      cases hb
      refine (Any.slices_Clone_string Tryd.laysClnS b off K.length cap K w (Nat.le_refl _) (by omega) (fun j hj => ?_)).mono ?_
      · obtain ⟨b', off', e, hc⟩ := hel j K[j] (by simp [hj])
        cases e
        have := hc 0 _ rfl
        rw [List.getD_eq_getElem?_getD, List.getElem?_eq_getElem hj]
        simpa using this
      · rintro e w' ⟨v', rfl, h1, _, h2⟩
        rw [List.take_length] at h1
        exact ⟨_, rfl, h1, h2⟩
def DifP (w : World) (n : Nat) : Ending → World → Prop := fun e w' => e = .returned (.int .i64 (n : Int)) ∧ Below w.heap.size w w'
set_option maxRecDepth 100000 in
set_option maxHeartbeats 4000000 in
theorem different_any (w : World) (K : List ByteArray) (v : Value) (hl : Sl w 1 encS v K) (hn : K.length ≤ 1000) :
    Calls Tryd.prog 35 #[v] w (DifP w (difN K)) := by
  have H1 := Lib.hid (cloneS_any w K v hl hn)
  unfold ClnP at H1
  clear hl
  go_enter Tryd.func35, Tryd.ntmps35
  go_upto_region 2 with (go_at_call 79; refine H1.out.mono ?_; rintro e w1 ⟨v1, rfl, ho1, hb1⟩; have HO1 := Lib.hid ho1; have HB1 := Lib.hid hb1; clear ho1 hb1)
  clear H1
  by_cases h0 : K = []
  · subst h0
    have hd : Hid (difN [] = 0) := Lib.hid (by unfold difN srtS; simp [Lib.compact, Lib.compactUpTo])
    obtain ⟨p, cap, rfl⟩ : ∃ p cap, v1 = .slice p 0 cap := by
      rcases HO1.out.2 with ⟨rfl, _⟩ | ⟨g, cap, _, rfl, _⟩
      · exact ⟨none, 0, rfl⟩
      · exact ⟨_, cap, rfl⟩
    go_upto_region 3 with (go_at_call 80; refine (Any.slices_Sort_string_none Tryd.laysSortS p cap w1).mono ?_; rintro e w2 ⟨rfl, hw⟩; obtain rfl := hw)
    go_wp2_with fail
    refine (Any.slices_Compact_string_empty Tryd.laysCmpS p cap _).mono ?_
    rintro e w3 ⟨rfl, hw⟩
    have HB3 : Hid (Below w.heap.size w w3) := Lib.hid (by rw [hw]; exact HB1.out)
    clear hw
    go_wp2
    go_ret
    exact ⟨by rw [hd.out]; rfl, HB3.out⟩
  · obtain ⟨g, cap, cur, rfl, hg, hb, hc, hm, hs, ht⟩ : ∃ g cap cur, v1 = .slice (some ⟨g, 0, none⟩) K.length cap ∧ w.heap.size ≤ g ∧ w1.heap[g]? = some (.cells cur 9 (0, 0)) ∧ K.length ≤ cap ∧ cap ≤ maxLen ∧ cur.size = cap * 1 ∧ cur.toList.take (K.length * 1) = K.map Value.string := by
      rcases HO1.out.2 with ⟨_, h⟩ | ⟨g, cap, cur, h1, h2, h3, h4, h5, h6, h7⟩
      · exact absurd (List.eq_nil_of_length_eq_zero h) h0
      · exact ⟨g, cap, cur, h1, h2, h3, h4, h5, h6, h7⟩
    have hgl : g < w1.heap.size := (Array.getElem?_eq_some_iff.1 hb).1
    have hL : (K.map fun x => x.data.toList).length = K.length := List.length_map _
    have hH : Holds encStr w1 g 0 (K.map fun x => x.data.toList).toArray := holds_of_block hb (by rw [hL, Lib.map_encStr, ← ht, Nat.mul_one])
    have hS := Any.slices_Sort_string Tryd.laysSortS g 0 cap (K.map fun x => x.data.toList) w1 hH hgl (by rw [hL]; omega)
    rw [hL] at hS
    have HS := Lib.hid hS
    have HC : Hid (∀ nn os, Calls Tryd.prog 81 #[.slice (some ⟨g, 0, none⟩) K.length cap] (grow (putRow encStr (Sort.ahead w1 nn) g 0 (srtS K).toArray) os) fun e w' => e = .returned (.slice (some ⟨g, 0, none⟩) (difN K) cap) ∧ Below w.heap.size w w') := Lib.hid (fun nn os => by
      have hbel : Below w.heap.size w (grow (putRow encStr (Sort.ahead w1 nn) g 0 (srtS K).toArray) os) := HB1.out.grown (grownBy_sorted _) HB1.out.size (fun k hk => by cases hk; exact hg)
      have hH2 : Holds encStr (grow (putRow encStr (Sort.ahead w1 nn) g 0 (srtS K).toArray) os) g 0 (srtS K).toArray := holds_grow _ _ _ _ _ _ (by simpa using hgl) (holds_putRow _ _ _ _ _ _ (holds_ahead _ _ _ _ _ _ hH) (by simp [srtS_len]))
      have h := Any.slices_Compact_string Tryd.laysCmpS g 0 cap (srtS K) _ hH2 (by rw [srtS_len]; omega) (by rw [srtS_len]; exact hc)
      rw [srtS_len] at h
      refine h.mono ?_
      rintro e w' ⟨rfl, q, rfl⟩
      exact ⟨rfl, Lib.below_putRow hbel hg⟩)
    clear hS hH hb hs ht HO1 HB1
    go_upto_region 3 with (go_at_call 80; refine HS.out.mono ?_; rintro e w2 ⟨rfl, nn, os, hw⟩; obtain rfl := hw)
    have HC2 := Lib.hid (HC.out nn os)
    go_wp2_with (go_at_call 81; refine HC2.out.mono ?_; rintro e w3 ⟨rfl, hb3⟩; have HB3 := Lib.hid hb3; clear hb3)
    go_ret
    exact ⟨rfl, HB3.out⟩
end Go.Proofs.YtmgbmoiefgfemaaDoor

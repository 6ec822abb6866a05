/- More helpers: what the call owns, and slices of ints. Nothing of the program but its ints is used. -/
import Derived.Test.YteepbfpcdhdgfaaDoorG02
import Derived.Test.YteepbfpcdhdgfaaDoorProg
import Derived.OneCell
namespace Go.Proofs.YteepbfpcdhdgfaaDoor
open Go.RowKit

theorem take_next {α : Type} {l : List α} {k : Nat} {x : α} (hx : l[k]? = some x) : l.take (k + 1) = l.take k ++ [x] := by
  obtain ⟨hk, rfl⟩ := List.getElem?_eq_some_iff.1 hx
  rw [List.take_succ_eq_append_getElem hk]
theorem drop_next {α : Type} {l : List α} {k : Nat} {x : α} (hx : l[k]? = some x) : l.drop k = x :: l.drop (k + 1) := by
  obtain ⟨hk, rfl⟩ := List.getElem?_eq_some_iff.1 hx
  exact List.drop_eq_getElem_cons hk
theorem getD_of {α : Type} {l : List α} {k : Nat} {x d : α} (hx : l[k]? = some x) : l.getD k d = x := by rw [List.getD_eq_getElem?_getD, hx]; rfl

theorem Own.below {α : Type} {w w' : World} {base B : Nat} {E : TypeId} {k : Nat} {enc : α → List Value} {v : Value} {l : List α} (h : Own w base E k enc v l) (hb : Below B w w') (hB : w.heap.size ≤ B) : Own w' base E k enc v l := by
  have hlt := World.ownsRow.lt h
  obtain ⟨h1, h2⟩ := h
  refine ⟨h1, ?_⟩
  rcases h2 with h2 | ⟨g, cap, cur, rfl, hg, hh, r⟩
  · exact Or.inl h2
  · exact Or.inr ⟨g, cap, cur, rfl, hg, by rw [hb.block g (Nat.lt_of_lt_of_le (hlt g rfl).2 hB)]; exact hh, r⟩

theorem flatMap_set {α : Type} {enc : α → List Value} {k : Nat} (hk : ∀ x, (enc x).length = k) : ∀ (l : List α) (i j : Nat) (x y : α) (u : Value), l[i]? = some x → j < k → enc y = (enc x).set j u → (l.set i y).flatMap enc = (l.flatMap enc).set (i * k + j) u
  | [], i, j, x, y, u, h, _, _ => by simp at h
  | z :: r, 0, j, x, y, u, h, hj, hy => by
    simp at h; subst h
    simp only [List.set_cons_zero, List.flatMap_cons, Nat.zero_mul, Nat.zero_add]
    rw [List.set_append_left _ _ (by rw [hk]; exact hj), hy]
  | z :: r, i + 1, j, x, y, u, h, hj, hy => by
    simp only [List.set_cons_succ, List.flatMap_cons]
    have e : (i + 1) * k + j = k + (i * k + j) := by rw [Nat.succ_mul]; omega
    rw [e, List.set_append_right _ _ (by rw [hk]; omega), hk, Nat.add_sub_cancel_left, flatMap_set hk r i j x y u (by simpa using h) hj hy]

/-- One cell of an element written, in what the call owns. -/
theorem Own.store {α : Type} {w : World} {base : Nat} {E : TypeId} {k : Nat} {enc : α → List Value} {l : List α} {g cap n : Nat} (hk : ∀ x, (enc x).length = k) (h : Own w base E k enc (.slice (some ⟨g, 0, none⟩) n cap) l) (hn : n = l.length) {i j : Nat} {x y : α} {u : Value}
    (hx : l[i]? = some x) (hj : j < k) (hy : enc y = (enc x).set j u) : Own (w.setCell ⟨g, i * k + j, none⟩ u) base E k enc (.slice (some ⟨g, 0, none⟩) n cap) (l.set i y) := by
  subst hn
  have := (World.ownsRow.stored h (i * k + j) u).1
  unfold Own
  rw [List.length_set, flatMap_set hk l i j x y u hx hj hy]
  exact this

/-- The block of what the call owns, and its cells. -/
theorem Own.getk {α : Type} {w : World} {base : Nat} {E : TypeId} {k : Nat} {enc : α → List Value} {v : Value} {l : List α} (hk : ∀ x, (enc x).length = k) (h : Own w base E k enc v l) (hne : l ≠ []) :
    ∃ g cap, v = .slice (some ⟨g, 0, none⟩) l.length cap ∧ base ≤ g ∧ g < w.heap.size ∧ l.length ≤ cap ∧ cap ≤ maxLen ∧ (∀ i x j u, l[i]? = some x → (enc x)[j]? = some u → w.cell? ⟨g, i * k + j, none⟩ = some u) ∧ ∀ j, w.frozen? ⟨g, j, none⟩ = false := by
  have h0 := h
  obtain ⟨h1, h2⟩ := h
  rcases h2 with ⟨_, h2⟩ | ⟨g, cap, cur, rfl, hg, hh, hn, hm, hs, ht⟩
  · exact absurd (List.length_eq_zero_iff.1 h2) hne
  · refine ⟨g, cap, rfl, hg, (World.ownsRow.lt h0 g rfl).2, hn, hm, fun i x j u hx hu => ?_, fun j => World.ownsRow.frozenAt h0 j⟩
    have hi : i < l.length := (List.getElem?_eq_some_iff.1 hx).1
    have hj : j < k := by
      have := (List.getElem?_eq_some_iff.1 hu).1
      rwa [hk] at this
    have hle : i * k + k ≤ l.length * k := by
      have := Nat.mul_le_mul_right k (Nat.succ_le_of_lt hi)
      rwa [Nat.succ_mul] at this
    have h3 := World.ownsRow.cellAt h0 (i * k + j) (by omega)
    rw [h3, flatMap_get hk l i j x hx hj]
    exact hu
/-- What the call owns is a slice. -/
theorem Own.slv {α : Type} {w : World} {base : Nat} {E : TypeId} {k : Nat} {enc : α → List Value} {v : Value} {l : List α} (hk : ∀ x, (enc x).length = k) (h : Own w base E k enc v l) : ∃ ao L cap, v = .slice ao L cap := by
  obtain ⟨ao, cap, rfl, _⟩ := Own.sl h hk
  exact ⟨_, _, _, rfl⟩
theorem Own.blk {α : Type} {w : World} {base : Nat} {E : TypeId} {k : Nat} {enc : α → List Value} {l : List α} {g n cap : Nat} (h : Own w base E k enc (.slice (some ⟨g, 0, none⟩) n cap) l) : ∃ cur, w.heap[g]? = some (Obj.cells cur E (0, 0)) := by
  obtain ⟨_, h2⟩ := h
  rcases h2 with ⟨h2, _⟩ | ⟨g', cap', cur, hv, hg, hh, _⟩
  · cases h2
  · simp only [Value.slice.injEq, Option.some.injEq, Addr.mk.injEq, and_true] at hv
    obtain ⟨rfl, _⟩ := hv
    exact ⟨cur, hh⟩

def encI (n : Int) : List Value := [.int .i64 n]
theorem encI_len (n : Int) : (encI n).length = 1 := rfl
theorem infoI : (Tryd.prog.info? 3).map (fun i => (i.zero, i.size, i.bytes)) = some (some (.int .i64 0), 1, 8) := by kernel_rfl
def outB (n lo hi : Int) : Bool := decide (n < lo) || decide (hi < n)
theorem outB_no {n lo hi : Int} (h : outB n lo hi = false) : lo ≤ n ∧ n ≤ hi := by simp [outB] at h; omega
theorem outB_no' {n lo hi : Int} (h : ¬ outB n lo hi = true) : lo ≤ n ∧ n ≤ hi := outB_no (by simpa using h)

theorem out_any (n lo hi : Int) (w : World) :
    Calls Tryd.prog 22 #[.int .i64 n, .int .i64 lo, .int .i64 hi] w fun e w' => e = .returned (.bool (outB n lo hi)) ∧ w = w' := by
  by_cases h : n < lo
  · go_enter Tryd.func22, Tryd.ntmps22
    go_wp2
    go_ret
    exact ⟨by simp [outB, h], rfl⟩
  · go_enter Tryd.func22, Tryd.ntmps22
    go_wp2
    go_ret
    exact ⟨by simp [outB]; omega, rfl⟩
end Go.Proofs.YteepbfpcdhdgfaaDoor

/- Names: kit.IsName and the reference's isName, of chapter 5, answer nameB. -/
namespace Go.Proofs.YteepbfpcdhdgfaaDoor
open Go.RowKit

def letterI (n : Int) : Bool := decide (97 ≤ n) && decide (n ≤ 122)
def digitI (n : Int) : Bool := decide (48 ≤ n) && decide (n ≤ 57)
def okI (n : Int) : Bool := letterI n || digitI n || n == 45
/-- The byte at a place, as a number. -/
def chr (s : ByteArray) (i : Nat) : Int := (s[i]!.toNat : Int)
theorem chr_of {s : ByteArray} {i : Nat} (h : i < s.size) : ((s[i]'h).toNat : Int) = chr s i := by
  unfold chr
  rw [getElem!_pos s i h]
/-- Is it a name? -/
def nameB (s : ByteArray) : Bool := decide (0 < s.size) && decide (s.size ≤ 40) && letterI (chr s 0) && (List.range s.size).all fun i => okI (chr s i)

theorem nameB_no {s : ByteArray} {i : Nat} (h : i < s.size) (hi : okI (chr s i) = false) : nameB s = false := by
  unfold nameB
  have : ((List.range s.size).all fun i => okI (chr s i)) = false := by
    rw [List.all_eq_false]
    exact ⟨i, List.mem_range.2 h, by simp [hi]⟩
  simp [this]

theorem nameB_yes {s : ByteArray} (h0 : 0 < s.size) (h40 : s.size ≤ 40) (hl : letterI (chr s 0) = true) (h : ∀ i, i < s.size → okI (chr s i) = true) : nameB s = true := by
  unfold nameB
  have : ((List.range s.size).all fun i => okI (chr s i)) = true := List.all_eq_true.2 fun i hi => h i (List.mem_range.1 hi)
  simp [this, h0, h40, hl]

theorem letter_any (n : Int) (w : World) : Calls Tryd.prog 44 #[.int .u8 n] w fun e w' => e = .returned (.bool (letterI n)) ∧ w = w' := by
  by_cases h : 97 ≤ n
  · go_enter Tryd.func44, Tryd.ntmps44
    go_wp2
    go_ret
    exact ⟨ret_bool (by simp [letterI, h]), rfl⟩
  · have h' : decide (97 ≤ n) = false := by simp; omega
    go_enter Tryd.func44, Tryd.ntmps44
    go_wp2
    go_ret
    exact ⟨ret_bool (by simp [letterI, h']), rfl⟩

theorem digit_any (n : Int) (w : World) : Calls Tryd.prog 45 #[.int .u8 n] w fun e w' => e = .returned (.bool (digitI n)) ∧ w = w' := by
  by_cases h : 48 ≤ n
  · go_enter Tryd.func45, Tryd.ntmps45
    go_wp2
    go_ret
    exact ⟨ret_bool (by simp [digitI, h]), rfl⟩
  · have h' : decide (48 ≤ n) = false := by simp; omega
    go_enter Tryd.func45, Tryd.ntmps45
    go_wp2
    go_ret
    exact ⟨ret_bool (by simp [digitI, h']), rfl⟩

set_option maxHeartbeats 1000000 in
theorem isName_any (s : ByteArray) (w : World) (hs : s.size ≤ 9223372036854775807) :
    Calls Tryd.prog 28 #[.string s] w fun e w' => e = .returned (.bool (nameB s)) ∧ w = w' := by
  by_cases h0 : s.size = 0
  · have hv : Hid (false = nameB s) := Lib.hid (by simp [nameB, h0])
    have e0 : ((s.size : Int) == 0) = true := by simp [h0]
    clear h0
    go_enter Tryd.func28, Tryd.ntmps28
    go_wp2_with fail
    go_ret
    exact ⟨ret_bool hv.out, rfl⟩
  have e0 : ((s.size : Int) == 0) = false := by simp [h0]
  have hp : 0 < s.size := by omega
  by_cases h40 : 40 < s.size
  · have hv : Hid (false = nameB s) := Lib.hid (by simp [nameB]; omega)
    clear h0
    go_enter Tryd.func28, Tryd.ntmps28
    go_wp2_with fail
    go_ret
    exact ⟨ret_bool hv.out, rfl⟩
  have hc0 := chr_of hp
  cases hl : letterI (chr s 0)
  case false =>
    have hv : Hid (false = nameB s) := Lib.hid (by simp [nameB, hl])
    clear h0
    go_enter Tryd.func28, Tryd.ntmps28
    go_wp2_with (go_at_call 44; refine (letter_any _ _).mono ?_; rintro e w' ⟨rfl, rfl⟩)
    go_ret
    exact ⟨ret_bool hv.out, rfl⟩
  have HY := Lib.hid (nameB_yes hp (by omega) hl)
  have HN := Lib.hid (fun i h => @nameB_no s i h)
  clear h0
  go_enter Tryd.func28, Tryd.ntmps28
  go_wp2_with (go_at_call 44; refine (letter_any _ _).mono ?_; rintro e w' ⟨rfl, rfl⟩)
  clear hl hc0
  go_loop [20] (fun s20 => ∃ kk : Nat, kk ≤ s.size ∧ s20 = .int .i64 kk ∧ Aside (∀ j, j < kk → okI (chr s j) = true)) (fun i => s.size - (intOf i).toNat)
  case atStart => exact ⟨0, Nat.zero_le _, rfl, fun j hj => absurd hj (Nat.not_lt_zero _)⟩
  case round =>
    obtain ⟨kk, hkk, rfl, A⟩ := hrel
    by_cases hlt : kk < s.size
    · have hltz : (kk : Int) < (s.size : Int) := by omega
      have hc := chr_of hlt
      have hok : Hid (okI (chr s kk) = !(!letterI (chr s kk) && !digitI (chr s kk) && (chr s kk != 45))) := Lib.hid (by
        unfold okI
        cases letterI (chr s kk) <;> cases digitI (chr s kk) <;> simp [bne])
      go_upto_region 6 with (fail)
      go_cut [40] (fun s40 w2 => s40 = .bool (!letterI (chr s kk) && !digitI (chr s kk) && (chr s kk != 45)) ∧ w = w2)
      case first =>
        cases h1 : letterI (chr s kk) <;> cases h2 : digitI (chr s kk)
        all_goals
          go_wp2_with (first | (go_at_call 44; refine (letter_any _ _).mono ?_; rintro e w' ⟨rfl, rfl⟩) | (go_at_call 45; refine (digit_any _ _).mono ?_; rintro e w' ⟨rfl, rfl⟩))
          go_meet
          exact ⟨by simp [*], rfl⟩
      obtain ⟨rfl, rfl⟩ := hcut
      generalize hO : (!letterI (chr s kk) && !digitI (chr s kk) && (chr s kk != 45)) = O at hok
      have HO := Lib.hid hO
      clear hO
      cases O
      case true =>
        have hv : Hid (false = nameB s) := Lib.hid (HN.out kk hlt (by rw [hok.out]; rfl)).symm
        go_wp2
        go_ret
        exact ⟨ret_bool hv.out, rfl⟩
      case false =>
        go_wp2
        go_round
        case rel =>
          refine ⟨kk + 1, by omega, by go_num, (show Aside _ from fun j hj => ?_)⟩
          by_cases e : j = kk
          · rw [e, hok.out]; rfl
          · exact A.out j (by omega)
        case measure => simp [intOf]; omega
    · obtain rfl : kk = s.size := by omega
      have hv : Hid (true = nameB s) := Lib.hid (HY.out A.out).symm
      go_wp2
      go_ret
      exact ⟨ret_bool hv.out, rfl⟩

set_option maxHeartbeats 1000000 in
theorem isName5_any (s : ByteArray) (w : World) (hs : s.size ≤ 9223372036854775807) :
    Calls Tryd.prog 41 #[.string s] w fun e w' => e = .returned (.bool (nameB s)) ∧ w = w' := by
  by_cases h0 : s.size = 0
  · have hv : Hid (false = nameB s) := Lib.hid (by simp [nameB, h0])
    have e1 : s.toList = [] := by
      rw [ByteArray.toList_eq]
      exact List.length_eq_zero_iff.1 (by simpa using h0)
    have e2 : s.toList.isEmpty = true := by simp [e1]
    clear h0
    go_enter Tryd.func41, Tryd.ntmps41
    go_wp2
    go_ret
    exact ⟨ret_bool hv.out, rfl⟩
  have hp : 0 < s.size := by omega
  have e2 : s.toList.isEmpty = false := by
    rw [ByteArray.toList_eq]
    cases h : s.data.toList with
    | nil => exact absurd (by have := congrArg List.length h; simpa using this) h0
    | cons a r => rfl
  have e3 : ¬ s.toList = [] := by simpa using e2
  have hpz : (0 : Int) < (s.size : Int) := by omega
  have hc0 := chr_of hp
  by_cases h40 : 40 < s.size
  · have hv : Hid (false = nameB s) := Lib.hid (by simp [nameB]; omega)
    have h40z : (40 : Int) < (s.size : Int) := by omega
    clear h0
    go_enter Tryd.func41, Tryd.ntmps41
    go_wp2
    go_ret
    exact ⟨ret_bool hv.out, rfl⟩
  have h40z : ¬ (40 : Int) < (s.size : Int) := by omega
  by_cases hl1 : chr s 0 < 97
  · have hv : Hid (false = nameB s) := Lib.hid (by simp [nameB, letterI]; omega)
    clear h0
    go_enter Tryd.func41, Tryd.ntmps41
    go_wp2
    go_ret
    exact ⟨ret_bool hv.out, rfl⟩
  by_cases hl2 : 122 < chr s 0
  · have hv : Hid (false = nameB s) := Lib.hid (by simp [nameB, letterI]; omega)
    clear h0
    go_enter Tryd.func41, Tryd.ntmps41
    go_wp2
    go_ret
    exact ⟨ret_bool hv.out, rfl⟩
  have HY := Lib.hid (nameB_yes hp (by omega) (show letterI (chr s 0) = true by simp [letterI]; omega))
  have HN := Lib.hid (fun i h => @nameB_no s i h)
  clear h0
  go_enter Tryd.func41, Tryd.ntmps41
  go_wp2
  clear hc0
  go_loop [3, 4, 24] (fun _ _ s24 => ∃ kk : Nat, kk ≤ s.size ∧ s24 = .int .i64 kk ∧ Aside (∀ j, j < kk → okI (chr s j) = true)) (fun _ _ i => s.size - (intOf i).toNat)
  case atStart => exact ⟨0, Nat.zero_le _, rfl, fun j hj => absurd hj (Nat.not_lt_zero _)⟩
  case round =>
    obtain ⟨kk, hkk, rfl, A⟩ := hrel
    by_cases hlt : kk < s.size
    · have hltz : (kk : Int) < (s.size : Int) := by omega
      have hc := chr_of hlt
      have hok : Hid (okI (chr s kk) = !(!letterI (chr s kk) && !digitI (chr s kk) && (chr s kk != 45))) := Lib.hid (by
        unfold okI
        cases letterI (chr s kk) <;> cases digitI (chr s kk) <;> simp [bne])
      go_upto_region 7 with (fail)
      go_cut [47] (fun s47 w2 => s47 = .bool (!letterI (chr s kk) && !digitI (chr s kk) && (chr s kk != 45)) ∧ w = w2)
      case first =>
        by_cases a1 : chr s kk < 97
        · have b1 : letterI (chr s kk) = false := by simp [letterI]; omega
          by_cases a2 : chr s kk < 48
          · have b2 : digitI (chr s kk) = false := by simp [digitI]; omega
            go_wp2
            go_meet
            exact ⟨by rw [b1, b2]; rfl, rfl⟩
          · by_cases a3 : 57 < chr s kk
            · have b2 : digitI (chr s kk) = false := by simp [digitI]; omega
              go_wp2
              go_meet
              exact ⟨by rw [b1, b2]; rfl, rfl⟩
            · have b2 : digitI (chr s kk) = true := by simp [digitI]; omega
              go_wp2
              go_meet
              exact ⟨by rw [b1, b2]; rfl, rfl⟩
        · by_cases a4 : 122 < chr s kk
          · have b1 : letterI (chr s kk) = false := by simp [letterI]; omega
            have b2 : digitI (chr s kk) = false := by simp [digitI]; omega
            have a2 : ¬ chr s kk < 48 := by omega
            have a3 : 57 < chr s kk := by omega
            go_wp2
            go_meet
            exact ⟨by rw [b1, b2]; rfl, rfl⟩
          · have b1 : letterI (chr s kk) = true := by simp [letterI]; omega
            go_wp2
            go_meet
            exact ⟨by rw [b1]; rfl, rfl⟩
      obtain ⟨rfl, rfl⟩ := hcut
      generalize hO : (!letterI (chr s kk) && !digitI (chr s kk) && (chr s kk != 45)) = O at hok
      have HO := Lib.hid hO
      clear hO
      cases O
      case true =>
        have hv : Hid (false = nameB s) := Lib.hid (HN.out kk hlt (by rw [hok.out]; rfl)).symm
        go_wp2
        go_ret
        exact ⟨ret_bool hv.out, rfl⟩
      case false =>
        go_wp2
        go_round
        case rel =>
          refine ⟨kk + 1, by omega, by go_num, (show Aside _ from fun j hj => ?_)⟩
          by_cases e : j = kk
          · rw [e, hok.out]; rfl
          · exact A.out j (by omega)
        case measure => simp [intOf]; omega
    · obtain rfl : kk = s.size := by omega
      have hv : Hid (true = nameB s) := Lib.hid (HY.out A.out).symm
      go_wp2
      go_ret
      exact ⟨ret_bool hv.out, rfl⟩
end Go.Proofs.YteepbfpcdhdgfaaDoor

/- Requests: isRequest of edge and of the reference answer reqB. -/
namespace Go.Proofs.YteepbfpcdhdgfaaDoor
open Go.RowKit

def okQ (n : Int) : Bool := decide (33 ≤ n) && decide (n ≤ 126)
/-- Is it a request? -/
def reqB (s : ByteArray) : Bool := decide (0 < s.size) && decide (s.size ≤ 300) && (chr s 0 == 47) && (List.range s.size).all fun i => okQ (chr s i)

theorem reqB_no {s : ByteArray} {i : Nat} (h : i < s.size) (hi : okQ (chr s i) = false) : reqB s = false := by
  unfold reqB
  have : ((List.range s.size).all fun i => okQ (chr s i)) = false := by
    rw [List.all_eq_false]
    exact ⟨i, List.mem_range.2 h, by simp [hi]⟩
  simp [this]
theorem reqB_yes {s : ByteArray} (h0 : 0 < s.size) (h40 : s.size ≤ 300) (hl : chr s 0 = 47) (h : ∀ i, i < s.size → okQ (chr s i) = true) : reqB s = true := by
  unfold reqB
  have : ((List.range s.size).all fun i => okQ (chr s i)) = true := List.all_eq_true.2 fun i hi => h i (List.mem_range.1 hi)
  simp [this, h0, h40, hl]
theorem reqB_true {s : ByteArray} (h : reqB s = true) : 0 < s.size ∧ s.size ≤ 300 ∧ chr s 0 = 47 ∧ ∀ i, i < s.size → okQ (chr s i) = true := by
  unfold reqB at h
  simp only [Bool.and_eq_true, decide_eq_true_eq, beq_iff_eq, List.all_eq_true, List.mem_range] at h
  exact ⟨h.1.1.1, h.1.1.2, h.1.2, h.2⟩

set_option maxHeartbeats 1000000 in
theorem isReq_any (s : ByteArray) (w : World) (hs : s.size ≤ 9223372036854775807) :
    Calls Tryd.prog 21 #[.string s] w fun e w' => e = .returned (.bool (reqB s)) ∧ w = w' := by
  have ho := out_any (s.size : Int) 1 300 w
  by_cases h0 : s.size = 0
  · have hv : Hid (false = reqB s) := Lib.hid (by simp [reqB, h0])
    have e0 : outB (s.size : Int) 1 300 = true := by simp [outB, h0]
    rw [e0] at ho
    have HO := Lib.hid ho
    clear h0 ho e0
    go_enter Tryd.func21, Tryd.ntmps21
    go_wp2_with (go_at_call 22; refine HO.out.mono ?_; rintro e w' ⟨rfl, rfl⟩)
    go_ret
    exact ⟨ret_bool hv.out, rfl⟩
  have hp : 0 < s.size := by omega
  by_cases h40 : 300 < s.size
  · have hv : Hid (false = reqB s) := Lib.hid (by simp [reqB]; omega)
    have e0 : outB (s.size : Int) 1 300 = true := by simp [outB]; omega
    rw [e0] at ho
    have HO := Lib.hid ho
    clear h0 ho e0
    go_enter Tryd.func21, Tryd.ntmps21
    go_wp2_with (go_at_call 22; refine HO.out.mono ?_; rintro e w' ⟨rfl, rfl⟩)
    go_ret
    exact ⟨ret_bool hv.out, rfl⟩
  have e0 : outB (s.size : Int) 1 300 = false := by simp [outB]; omega
  rw [e0] at ho
  have HO := Lib.hid ho
  have hc0 := chr_of hp
  clear h0 ho e0
  by_cases hl : chr s 0 = 47
  case neg =>
    have hv : Hid (false = reqB s) := Lib.hid (by simp [reqB, hl])
    go_enter Tryd.func21, Tryd.ntmps21
    go_wp2_with (go_at_call 22; refine HO.out.mono ?_; rintro e w' ⟨rfl, rfl⟩)
    go_ret
    exact ⟨ret_bool hv.out, rfl⟩
  have HY := Lib.hid (reqB_yes hp (by omega) hl)
  have HN := Lib.hid (fun i h => @reqB_no s i h)
  go_enter Tryd.func21, Tryd.ntmps21
  go_wp2_with (go_at_call 22; refine HO.out.mono ?_; rintro e w' ⟨rfl, rfl⟩)
  clear hl hc0
  go_loopg [14] s.size (fun gg s14 w' => ∃ kk : Nat, kk ≤ s.size ∧ s.size - kk ≤ gg ∧ s14 = .int .i64 kk ∧ Aside (∀ j, j < kk → okQ (chr s j) = true) ∧ w = w')
  case atStart => exact ⟨0, Nat.zero_le _, by omega, by go_num, (fun j hj => absurd hj (Nat.not_lt_zero _)), rfl⟩
  case round =>
    obtain ⟨kk, hkk, hg, rfl, A, rfl⟩ := hrel
    have A := Lib.hid A.out
    by_cases hlt : kk < s.size
    · have hltz : (kk : Int) < (s.size : Int) := by omega
      have hc := chr_of hlt
      by_cases h1 : chr s kk < 33
      · have hv : Hid (false = reqB s) := Lib.hid (HN.out kk hlt (by simp [okQ]; omega)).symm
        go_wp2
        go_ret
        exact ⟨ret_bool hv.out, rfl⟩
      by_cases h2 : 126 < chr s kk
      · have hv : Hid (false = reqB s) := Lib.hid (HN.out kk hlt (by simp [okQ]; omega)).symm
        go_wp2
        go_ret
        exact ⟨ret_bool hv.out, rfl⟩
      have HQ : Hid (okQ (chr s kk) = true) := Lib.hid (by simp [okQ]; omega)
      go_wp2
      go_roundg (s.size - (kk + 1))
      case measure => omega
      case rel =>
        refine ⟨kk + 1, by omega, by omega, by go_num, (show Aside _ from fun j hj => ?_), rfl⟩
        by_cases e : j = kk
        · rw [e]; exact HQ.out
        · exact A.out j (by omega)
    · obtain rfl : kk = s.size := by omega
      have hltz : ¬ (s.size : Int) < (s.size : Int) := by omega
      have hv : Hid (true = reqB s) := Lib.hid (HY.out A.out).symm
      go_wp2
      go_ret
      exact ⟨ret_bool hv.out, rfl⟩

set_option maxHeartbeats 1000000 in
theorem isReqR_any (s : ByteArray) (w : World) (hs : s.size ≤ 9223372036854775807) :
    Calls Tryd.prog 25 #[.string s] w fun e w' => e = .returned (.bool (reqB s)) ∧ w = w' := by
  by_cases h0 : s.size = 0
  · have hv : Hid (false = reqB s) := Lib.hid (by simp [reqB, h0])
    have e1 : s.toList = [] := by
      rw [ByteArray.toList_eq]
      exact List.length_eq_zero_iff.1 (by simpa using h0)
    have e2 : s.toList.isEmpty = true := by simp [e1]
    clear h0
    go_enter Tryd.func25, Tryd.ntmps25
    go_wp2
    go_ret
    exact ⟨ret_bool hv.out, rfl⟩
  have hp : 0 < s.size := by omega
  have e2 : s.toList.isEmpty = false := by
    rw [ByteArray.toList_eq]
    cases h : s.data.toList with
    | nil => exact absurd (by have := congrArg List.length h; simpa using this) h0
    | cons a r => rfl
  have e3 : ¬ s.toList = [] := by simpa using e2
  by_cases h40 : 300 < s.size
  · have hv : Hid (false = reqB s) := Lib.hid (by simp [reqB]; omega)
    have h40z : (300 : Int) < (s.size : Int) := by omega
    clear h0
    go_enter Tryd.func25, Tryd.ntmps25
    go_wp2
    go_ret
    exact ⟨ret_bool hv.out, rfl⟩
  have h40z : ¬ (300 : Int) < (s.size : Int) := by omega
  have hc0 := chr_of hp
  clear h0
  by_cases hl : chr s 0 = 47
  case neg =>
    have hv : Hid (false = reqB s) := Lib.hid (by simp [reqB, hl])
    go_enter Tryd.func25, Tryd.ntmps25
    go_wp2
    go_ret
    exact ⟨ret_bool hv.out, rfl⟩
  have HY := Lib.hid (reqB_yes hp (by omega) hl)
  have HN := Lib.hid (fun i h => @reqB_no s i h)
  go_enter Tryd.func25, Tryd.ntmps25
  go_wp2
  clear hl hc0
  go_loopg [18] s.size (fun gg s18 w' => ∃ kk : Nat, kk ≤ s.size ∧ s.size - kk ≤ gg ∧ s18 = .int .i64 kk ∧ Aside (∀ j, j < kk → okQ (chr s j) = true) ∧ w = w')
  case atStart => exact ⟨0, Nat.zero_le _, by omega, by go_num, (fun j hj => absurd hj (Nat.not_lt_zero _)), rfl⟩
  case round =>
    obtain ⟨kk, hkk, hg, rfl, A, rfl⟩ := hrel
    have A := Lib.hid A.out
    by_cases hlt : kk < s.size
    · have hltz : (kk : Int) < (s.size : Int) := by omega
      have hc := chr_of hlt
      by_cases h1 : chr s kk < 33
      · have hv : Hid (false = reqB s) := Lib.hid (HN.out kk hlt (by simp [okQ]; omega)).symm
        go_wp2
        go_ret
        exact ⟨ret_bool hv.out, rfl⟩
      by_cases h2 : 126 < chr s kk
      · have hv : Hid (false = reqB s) := Lib.hid (HN.out kk hlt (by simp [okQ]; omega)).symm
        go_wp2
        go_ret
        exact ⟨ret_bool hv.out, rfl⟩
      have HQ : Hid (okQ (chr s kk) = true) := Lib.hid (by simp [okQ]; omega)
      go_wp2
      go_roundg (s.size - (kk + 1))
      case measure => omega
      case rel =>
        refine ⟨kk + 1, by omega, by omega, by go_num, (show Aside _ from fun j hj => ?_), rfl⟩
        by_cases e : j = kk
        · rw [e]; exact HQ.out
        · exact A.out j (by omega)
    · obtain rfl : kk = s.size := by omega
      have hltz : ¬ (s.size : Int) < (s.size : Int) := by omega
      have hv : Hid (true = reqB s) := Lib.hid (HY.out A.out).symm
      go_wp2
      go_ret
      exact ⟨ret_bool hv.out, rfl⟩
end Go.Proofs.YteepbfpcdhdgfaaDoor

/- Names: kit.IsName and the reference's isName, of chapter 5, answer nameB. -/
import Derived.Test.YtgohddfnhofjhaaGreatDoorK01
import Derived.Deep.RegionLaw
import Derived.Test.YtgohddfnhofjhaaGreatDoorProg
import Derived.OneCell
set_option maxRecDepth 100000
set_option maxHeartbeats 1000000
namespace Go.Proofs.YtgohddfnhofjhaaGreatDoor
open Go.RowKit
theorem Own.zq {α : Type} {w : World} {base : Nat} {E : TypeId} {k : Nat} {enc : α → List Value} {v : Value} {l : List α} (h : Own w base E k enc v l) : Own w.drew base E k enc v l := h
theorem cell_of_block {w : World} {b i : Nat} {c : Array Value} {T : TypeId} {fr : Nat × Nat} (h : w.heap[b]? = some (.cells c T fr)) : w.cell? ⟨b, i, none⟩ = c[i]? := by
 simp [World.cell?, h]
theorem ag (w : World) (o : Obj) : (w.alloc o).heap[w.heap.size]? = some o := by
 show (w.heap.push o)[w.heap.size]? = _
 simp
theorem bi {α : Type} {l : List α} {k : Nat} {x d : α} (hx : l[k]? = some x) : l.getD k d = x := by rw [Lt, hx]; rfl
theorem Own.below {α : Type} {w w' : World} {base B : Nat} {E : TypeId} {k : Nat} {enc : α → List Value} {v : Value} {l : List α} (h : Own w base E k enc v l) (hb : Below B w w') (hB : w.heap.size ≤ B) : Own w' base E k enc v l := by
 have hlt := World.ownsRow.lt h; obtain ⟨h1, h2⟩ := h; refine ⟨h1, ?_⟩; rcases h2 with h2 | ⟨g, cap, cur, rfl, hg, hh, r⟩
 ·exact Or.inl h2
 ·exact Or.inr ⟨g, cap, cur, rfl, hg, by rw [hb.block g (Nat.lt_of_lt_of_le (hlt g rfl).2 hB)]; exact hh, r⟩
theorem ou {α : Type} {enc : α → List Value} {k : Nat} (hk : ∀ x, (enc x).length = k) : ∀ (l : List α) (i j : Nat) (x y : α) (u : Value), l[i]? = some x → j < k → enc y = (enc x).set j u → (l.set i y).flatMap enc = (l.flatMap enc).set (i * k + j) u
 | [], i, j, x, y, u, h, _, _ => by simp at h
 | z :: r, 0, j, x, y, u, h, hj, hy => by
  simp at h; subst h
  simp only [List.set_cons_zero, List.flatMap_cons, Nat.zero_mul, Nat.zero_add]
  rw [List.set_append_left _ _ (by rw [hk]; exact hj), hy]
 | z :: r, i + 1, j, x, y, u, h, hj, hy => by
  simp only [List.set_cons_succ, List.flatMap_cons]
  have e : (i + 1) * k + j = k + (i * k + j) := by rw [Nat.succ_mul]; omega
  rw [e, List.set_append_right _ _ (by rw [hk]; omega), hk, Nat.add_sub_cancel_left, ou hk r i j x y u (by simpa using h) hj hy]
theorem Own.store {α : Type} {w : World} {base : Nat} {E : TypeId} {k : Nat} {enc : α → List Value} {l : List α} {g cap n : Nat} (hk : ∀ x, (enc x).length = k) (h : Own w base E k enc (.slice (some ⟨g, 0, none⟩) n cap) l) (hn : n = l.length) {i j : Nat} {x y : α} {u : Value}
 (hx : l[i]? = some x) (hj : j < k) (hy : enc y = (enc x).set j u) : Own (w.setCell ⟨g, i * k + j, none⟩ u) base E k enc (.slice (some ⟨g, 0, none⟩) n cap) (l.set i y) := by
 subst hn; have := (World.ownsRow.stored h (i * k + j) u).1; unfold Own; rw [List.length_set, ou hk l i j x y u hx hj hy]; exact this
theorem Own.gZ {α : Type} {w : World} {base : Nat} {E : TypeId} {k : Nat} {enc : α → List Value} {v : Value} {l : List α} (hk : ∀ x, (enc x).length = k) (h : Own w base E k enc v l) (hne : l ≠ []) :
 ∃ g cap, v = .slice (some ⟨g, 0, none⟩) l.length cap ∧ base ≤ g ∧ g < w.heap.size ∧ l.length ≤ cap ∧ cap ≤ maxLen ∧ (∀ i x j u, l[i]? = some x → (enc x)[j]? = some u → w.cell? ⟨g, i * k + j, none⟩ = some u) ∧ ∀ j, w.frozen? ⟨g, j, none⟩ = false := by
 have h0 := h; obtain ⟨h1, h2⟩ := h; rcases h2 with ⟨_, h2⟩ | ⟨g, cap, cur, rfl, hg, hh, hn, hm, hs, ht⟩
 ·exact absurd (List.length_eq_zero_iff.1 h2) hne
 ·refine ⟨g, cap, rfl, hg, (World.ownsRow.lt h0 g rfl).2, hn, hm, fun i x j u hx hu => ?_, fun j => World.ownsRow.frozenAt h0 j⟩; have hi : i < l.length := (List.getElem?_eq_some_iff.1 hx).1; have hj : j < k := by
   have := (List.getElem?_eq_some_iff.1 hu).1
   rwa [hk] at this
  have hle : i * k + k ≤ l.length * k := by
   have := Nat.mul_le_mul_right k (Nat.succ_le_of_lt hi)
   rwa [Nat.succ_mul] at this
  have h3 := World.ownsRow.cellAt h0 (i * k + j) (by omega); rw [h3, dZ hk l i j x hx hj]; exact hu
theorem Own.slv {α : Type} {w : World} {base : Nat} {E : TypeId} {k : Nat} {enc : α → List Value} {v : Value} {l : List α} (hk : ∀ x, (enc x).length = k) (h : Own w base E k enc v l) : ∃ ao L cap, v = .slice ao L cap := by
 obtain ⟨ao, cap, rfl, _⟩ := Own.sl h hk; exact ⟨_, _, _, rfl⟩
theorem Own.blk {α : Type} {w : World} {base : Nat} {E : TypeId} {k : Nat} {enc : α → List Value} {l : List α} {g n cap : Nat} (h : Own w base E k enc (.slice (some ⟨g, 0, none⟩) n cap) l) : ∃ cur, w.heap[g]? = some (Obj.cells cur E (0, 0)) := by
 obtain ⟨_, h2⟩ := h; rcases h2 with ⟨h2, _⟩ | ⟨g', cap', cur, hv, hg, hh, _⟩
 ·cases h2
 ·simp only [Value.slice.injEq, Option.some.injEq, Addr.mk.injEq, and_true] at hv
  obtain ⟨rfl, _⟩ := hv; exact ⟨cur, hh⟩
def encI (n : Int) : List Value := [.int .i64 n]
theorem jc (n : Int) : (encI n).length = 1 := rfl
theorem JU : (Tryz.prog.info? 3).map (fun i => (i.zero, i.size, i.bytes)) = some (some (.int .i64 0), 1, 8) := by kernel_rfl
theorem slI : SlT Tryz.prog 168 3 1 8 := by
 obtain ⟨i0, hi, hz0, hz1, hz2⟩ := info_parts JU; exact ⟨i0, _, Tryz.underlying168, hi, hz0, hz1, hz2, rfl, by decide, by decide⟩
def aN (n lo hi : Int) : Bool := decide (n < lo) || decide (hi < n)
theorem GM {n lo hi : Int} (h : aN n lo hi = false) : lo ≤ n ∧ n ≤ hi := by simp [aN] at h; omega
theorem eY {n lo hi : Int} (h : ¬ aN n lo hi = true) : lo ≤ n ∧ n ≤ hi := GM (by simpa using h)
theorem fJ (n lo hi : Int) (w : World) :
 Calls Tryz.prog 83 #[.int .i64 n, .int .i64 lo, .int .i64 hi] w fun e w' => e = .returned (.bool (aN n lo hi)) ∧ w = w' := by
 by_cases h : n < lo
 ·go_enter Tryz.func83, Tryz.ntmps83
  go_wp2
  go_ret
  exact ⟨by simp [aN, h], rfl⟩
 ·go_enter Tryz.func83, Tryz.ntmps83
  go_wp2
  go_ret
  exact ⟨by simp [aN]; omega, rfl⟩
def aV (n : Int) : Bool := decide (97 ≤ n) && decide (n ≤ 122)
def dE (n : Int) : Bool := decide (48 ≤ n) && decide (n ≤ 57)
def okI (n : Int) : Bool := aV n || dE n || n == 45
def chr (s : ByteArray) (i : Nat) : Int := (s[i]!.toNat : Int)
theorem jr {s : ByteArray} {i : Nat} (h : i < s.size) : ((s[i]'h).toNat : Int) = chr s i := by
 unfold chr; rw [getElem!_pos s i h]
def nameB (s : ByteArray) : Bool := decide (0 < s.size) && decide (s.size ≤ 40) && aV (chr s 0) && (List.range s.size).all fun i => okI (chr s i)
theorem wW {s : ByteArray} {i : Nat} (h : i < s.size) (hi : okI (chr s i) = false) : nameB s = false := by
 unfold nameB; have : ((List.range s.size).all fun i => okI (chr s i)) = false := by
  rw [List.all_eq_false]; exact ⟨i, List.mem_range.2 h, by simp [hi]⟩
 simp [this]
theorem tV {s : ByteArray} (h0 : 0 < s.size) (h40 : s.size ≤ 40) (hl : aV (chr s 0) = true) (h : ∀ i, i < s.size → okI (chr s i) = true) : nameB s = true := by
 unfold nameB; have : ((List.range s.size).all fun i => okI (chr s i)) = true := List.all_eq_true.2 fun i hi => h i (List.mem_range.1 hi)
 simp [this, h0, h40, hl]
theorem kU (n : Int) (w : World) : Calls Tryz.prog 162 #[.int .u8 n] w fun e w' => e = .returned (.bool (aV n)) ∧ w = w' := by
 by_cases h : 97 ≤ n
 ·go_enter Tryz.func162, Tryz.ntmps162
  go_wp2
  go_ret
  exact ⟨az (by simp [aV, h]), rfl⟩
 ·have h' : decide (97 ≤ n) = false := by simp; omega
  go_enter Tryz.func162, Tryz.ntmps162
  go_wp2
  go_ret
  exact ⟨az (by simp [aV, h']), rfl⟩
theorem Dj (n : Int) (w : World) : Calls Tryz.prog 132 #[.int .u8 n] w fun e w' => e = .returned (.bool (dE n)) ∧ w = w' := by
 by_cases h : 48 ≤ n
 ·go_enter Tryz.func132, Tryz.ntmps132
  go_wp2
  go_ret
  exact ⟨az (by simp [dE, h]), rfl⟩
 ·have h' : decide (48 ≤ n) = false := by simp; omega
  go_enter Tryz.func132, Tryz.ntmps132
  go_wp2
  go_ret
  exact ⟨az (by simp [dE, h']), rfl⟩
theorem yQ (s : ByteArray) (w : World) (hs : s.size ≤ 9223372036854775807) :
 Calls Tryz.prog 131 #[.string s] w fun e w' => e = .returned (.bool (nameB s)) ∧ w = w' := by
 by_cases h0 : s.size = 0
 ·have hv : Hid (false = nameB s) := Lr (by simp [nameB, h0]); have e0 : ((s.size : Int) == 0) = true := by simp [h0]
  clear h0
  go_enter Tryz.func131, Tryz.ntmps131
  go_wp2_with fail
  go_ret
  exact ⟨az hv.out, rfl⟩
 have e0 : ((s.size : Int) == 0) = false := by simp [h0]
 have hp : 0 < s.size := by omega
 by_cases h40 : 40 < s.size
 ·have hv : Hid (false = nameB s) := Lr (by simp [nameB]; omega); clear h0
  go_enter Tryz.func131, Tryz.ntmps131
  go_wp2_with fail
  go_ret
  exact ⟨az hv.out, rfl⟩
 have hc0 := jr hp; cases hl : aV (chr s 0)
 case false =>
  have hv : Hid (false = nameB s) := Lr (by simp [nameB, hl]); clear h0
  go_enter Tryz.func131, Tryz.ntmps131
  go_wp2_with (go_at_call 162; refine (kU _ _).mono ?_; rintro e w' ⟨rfl, rfl⟩)
  go_ret
  exact ⟨az hv.out, rfl⟩
 have HY := Lr (tV hp (by omega) hl); have HN := Lr (fun i h => @wW s i h); clear h0
 go_enter Tryz.func131, Tryz.ntmps131
 go_wp2_with (go_at_call 162; refine (kU _ _).mono ?_; rintro e w' ⟨rfl, rfl⟩)
 clear hl hc0
 go_loop [20] (fun s20 => ∃ kk : Nat, kk ≤ s.size ∧ s20 = .int .i64 kk ∧ Aside (∀ j, j < kk → okI (chr s j) = true)) (fun i => s.size - (intOf i).toNat)
 case atStart => exact ⟨0, Nat.zero_le _, rfl, fun j hj => absurd hj (Nat.not_lt_zero _)⟩
 case round =>
  obtain ⟨kk, hkk, rfl, A⟩ := hrel; by_cases hlt : kk < s.size
  ·have hltz : (kk : Int) < (s.size : Int) := by omega
   have hc := jr hlt; have hok : Hid (okI (chr s kk) = !(!aV (chr s kk) && !dE (chr s kk) && (chr s kk != 45))) := Lr (by
    unfold okI; cases aV (chr s kk) <;> cases dE (chr s kk) <;> simp [bne])
   go_upto_region 6 with (fail)
   go_cut [40] (fun s40 w2 => s40 = .bool (!aV (chr s kk) && !dE (chr s kk) && (chr s kk != 45)) ∧ w = w2)
   case first =>
    cases h1 : aV (chr s kk) <;> cases h2 : dE (chr s kk)
    all_goals
     go_wp2_with (first | (go_at_call 162; refine (kU _ _).mono ?_; rintro e w' ⟨rfl, rfl⟩) | (go_at_call 132; refine (Dj _ _).mono ?_; rintro e w' ⟨rfl, rfl⟩))
     go_meet
     exact ⟨by simp [*], rfl⟩
   obtain ⟨rfl, rfl⟩ := hcut; generalize hO : (!aV (chr s kk) && !dE (chr s kk) && (chr s kk != 45)) = O at hok; have HO := Lr hO; clear hO; cases O
   case true =>
    have hv : Hid (false = nameB s) := Lr (HN.out kk hlt (by rw [hok.out]; rfl)).symm
    go_wp2
    go_ret
    exact ⟨az hv.out, rfl⟩
   case false =>
    go_wp2
    go_round
    case rel =>
     refine ⟨kk + 1, by omega, by go_num, (show Aside _ from fun j hj => ?_)⟩; by_cases e : j = kk
     ·rw [e, hok.out]; rfl
     ·exact A.out j (by omega)
    case measure => simp [intOf]; omega
  ·obtain rfl : kk = s.size := by omega
   have hv : Hid (true = nameB s) := Lr (HY.out A.out).symm
   go_wp2
   go_ret
   exact ⟨az hv.out, rfl⟩
theorem uV (s : ByteArray) (w : World) (hs : s.size ≤ 9223372036854775807) :
 Calls Tryz.prog 143 #[.string s] w fun e w' => e = .returned (.bool (nameB s)) ∧ w = w' := by
 by_cases h0 : s.size = 0
 ·have hv : Hid (false = nameB s) := Lr (by simp [nameB, h0]); have e1 : s.toList = [] := by
   rw [ByteArray.toList_eq]; exact List.length_eq_zero_iff.1 (by simpa using h0)
  have e2 : s.toList.isEmpty = true := by simp [e1]
  clear h0
  go_enter Tryz.func143, Tryz.ntmps143
  go_wp2
  go_ret
  exact ⟨az hv.out, rfl⟩
 have hp : 0 < s.size := by omega
 have e2 : s.toList.isEmpty = false := by
  rw [ByteArray.toList_eq]; cases h : s.data.toList with
  | nil => exact absurd (by have := congrArg List.length h; simpa using this) h0
  | cons a r => rfl
 have e3 : ¬ s.toList = [] := by simpa using e2
 have hpz : (0 : Int) < (s.size : Int) := by omega
 have hc0 := jr hp; by_cases h40 : 40 < s.size
 ·have hv : Hid (false = nameB s) := Lr (by simp [nameB]; omega); have h40z : (40 : Int) < (s.size : Int) := by omega
  clear h0
  go_enter Tryz.func143, Tryz.ntmps143
  go_wp2
  go_ret
  exact ⟨az hv.out, rfl⟩
 have h40z : ¬ (40 : Int) < (s.size : Int) := by omega
 by_cases hl1 : chr s 0 < 97
 ·have hv : Hid (false = nameB s) := Lr (by simp [nameB, aV]; omega); clear h0
  go_enter Tryz.func143, Tryz.ntmps143
  go_wp2
  go_ret
  exact ⟨az hv.out, rfl⟩
 by_cases hl2 : 122 < chr s 0
 ·have hv : Hid (false = nameB s) := Lr (by simp [nameB, aV]; omega); clear h0
  go_enter Tryz.func143, Tryz.ntmps143
  go_wp2
  go_ret
  exact ⟨az hv.out, rfl⟩
 have HY := Lr (tV hp (by omega) (show aV (chr s 0) = true by simp [aV]; omega)); have HN := Lr (fun i h => @wW s i h); clear h0
 go_enter Tryz.func143, Tryz.ntmps143
 go_wp2
 clear hc0
 go_loop [3, 4, 24] (fun _ _ s24 => ∃ kk : Nat, kk ≤ s.size ∧ s24 = .int .i64 kk ∧ Aside (∀ j, j < kk → okI (chr s j) = true)) (fun _ _ i => s.size - (intOf i).toNat)
 case atStart => exact ⟨0, Nat.zero_le _, rfl, fun j hj => absurd hj (Nat.not_lt_zero _)⟩
 case round =>
  obtain ⟨kk, hkk, rfl, A⟩ := hrel; by_cases hlt : kk < s.size
  ·have hltz : (kk : Int) < (s.size : Int) := by omega
   have hc := jr hlt; have hok : Hid (okI (chr s kk) = !(!aV (chr s kk) && !dE (chr s kk) && (chr s kk != 45))) := Lr (by
    unfold okI; cases aV (chr s kk) <;> cases dE (chr s kk) <;> simp [bne])
   go_upto_region 7 with (fail)
   go_cut [47] (fun s47 w2 => s47 = .bool (!aV (chr s kk) && !dE (chr s kk) && (chr s kk != 45)) ∧ w = w2)
   case first =>
    by_cases a1 : chr s kk < 97
    ·have b1 : aV (chr s kk) = false := by simp [aV]; omega
     by_cases a2 : chr s kk < 48
     ·have b2 : dE (chr s kk) = false := by simp [dE]; omega
      go_wp2
      go_meet
      exact ⟨by rw [b1, b2]; rfl, rfl⟩
     ·by_cases a3 : 57 < chr s kk
      ·have b2 : dE (chr s kk) = false := by simp [dE]; omega
       go_wp2
       go_meet
       exact ⟨by rw [b1, b2]; rfl, rfl⟩
      ·have b2 : dE (chr s kk) = true := by simp [dE]; omega
       go_wp2
       go_meet
       exact ⟨by rw [b1, b2]; rfl, rfl⟩
    ·by_cases a4 : 122 < chr s kk
     ·have b1 : aV (chr s kk) = false := by simp [aV]; omega
      have b2 : dE (chr s kk) = false := by simp [dE]; omega
      have a2 : ¬ chr s kk < 48 := by omega
      have a3 : 57 < chr s kk := by omega
      go_wp2
      go_meet
      exact ⟨by rw [b1, b2]; rfl, rfl⟩
     ·have b1 : aV (chr s kk) = true := by simp [aV]; omega
      go_wp2
      go_meet
      exact ⟨by rw [b1]; rfl, rfl⟩
   obtain ⟨rfl, rfl⟩ := hcut; generalize hO : (!aV (chr s kk) && !dE (chr s kk) && (chr s kk != 45)) = O at hok; have HO := Lr hO; clear hO; cases O
   case true =>
    have hv : Hid (false = nameB s) := Lr (HN.out kk hlt (by rw [hok.out]; rfl)).symm
    go_wp2
    go_ret
    exact ⟨az hv.out, rfl⟩
   case false =>
    go_wp2
    go_round
    case rel =>
     refine ⟨kk + 1, by omega, by go_num, (show Aside _ from fun j hj => ?_)⟩; by_cases e : j = kk
     ·rw [e, hok.out]; rfl
     ·exact A.out j (by omega)
    case measure => simp [intOf]; omega
  ·obtain rfl : kk = s.size := by omega
   have hv : Hid (true = nameB s) := Lr (HY.out A.out).symm
   go_wp2
   go_ret
   exact ⟨az hv.out, rfl⟩
end Go.Proofs.YtgohddfnhofjhaaGreatDoor

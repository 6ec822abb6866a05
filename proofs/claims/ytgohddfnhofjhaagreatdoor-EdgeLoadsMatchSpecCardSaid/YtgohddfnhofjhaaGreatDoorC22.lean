/- The reference's day: what only reads it (purged, place, underway, total). -/
import Derived.Test.YtgohddfnhofjhaaGreatDoorC09
import Derived.Test.YtgohddfnhofjhaaGreatDoorC12
import Derived.Test.YtgohddfnhofjhaaGreatDoorC21
namespace Go.Proofs.YtgohddfnhofjhaaGreatDoor
open Go.RowKit
def numO : Option Nat → Int
 | none => -1
 | some j => j
set_option maxRecDepth 100000 in
set_option maxHeartbeats 4000000 in
theorem ruleOfR_any (w : World) (l : List Crl) (v : Value) (k : ByteArray) (hl : Sl w 4 encU v l) :
 Calls Tryz.prog 61 #[v, .string k] w fun e w' => e = .returned (.int .i64 (numO (ruI l k l.length))) ∧ Below w.heap.size w w' := by
 obtain ⟨ao, cap, rfl, hcap, hmax, hnil, hel⟩ := hl
 unfold maxLen at hmax
 have HEL := Lib.hid hel
 clear hel
 obtain ⟨Y, hY⟩ : ∃ Y, Y = numO (ruI l k l.length) := ⟨_, rfl⟩
 rw [← hY]
 have HY := Lib.hid hY
 clear hY
 go_enter Tryz.func61, Tryz.ntmps61
 go_wp2
 go_loopg [5, 6, 7, 10] l.length (fun gg s5 _ _ s10 wr => ∃ kk : Nat, kk ≤ l.length ∧ l.length - kk ≤ gg ∧ s10 = .int .i64 kk ∧ s5 = .int .i64 (numO (ruI l k kk)) ∧ Aside (Below w.heap.size w wr))
 case atStart => exact ⟨0, Nat.zero_le _, by omega, by go_num, rfl, Below.refl _ _⟩
 case round =>
  obtain ⟨kk, hkk, hg, rfl, rfl, BW⟩ := hrel
  have BW := Lib.hid BW.out
  by_cases hlt : kk < l.length
  ·have hltz : (kk : Int) < (l.length : Int) := by omega
   obtain ⟨x, hx⟩ : ∃ x, l[kk]? = some x := ⟨l[kk], by simp [hlt]⟩
   obtain ⟨b, off, rfl, hc⟩ := HEL.out kk x hx
   have hlt0 := World.block_lt_of_cell? w ⟨b, off + kk * 4 + 0, none⟩ (hc 0 _ rfl)
   have BL := BW.out
   have hszw := BL.size
   have hbw : b < wr.heap.size := Nat.lt_of_lt_of_le hlt0 hszw
   have c0 : wr.cell? ⟨b, off + kk * 4, none⟩ = some (.string x.pr) := (BL.cell (p := ⟨b, off + kk * 4 + 0, none⟩) hlt0).trans (hc 0 _ rfl)
   have c1 : wr.cell? ⟨b, off + kk * 4 + 1, none⟩ = some (.int .i64 x.li) := (BL.cell (p := ⟨b, off + kk * 4 + 1, none⟩) hlt0).trans (hc 1 _ rfl)
   have c2 : wr.cell? ⟨b, off + kk * 4 + 2, none⟩ = some (.int .i64 x.st) := (BL.cell (p := ⟨b, off + kk * 4 + 2, none⟩) hlt0).trans (hc 2 _ rfl)
   have c3 : wr.cell? ⟨b, off + kk * 4 + 3, none⟩ = some (.int .i64 x.go) := (BL.cell (p := ⟨b, off + kk * 4 + 3, none⟩) hlt0).trans (hc 3 _ rfl)
   have HNI := Lib.hid (ruI_next (k := k) hx)
   have HT1 := Lib.hid (fun h => @ruT_hp l k kk x h)
   have HT2 := Lib.hid (fun h ho => @ruT_none l k kk x h ho)
   have HT3 := Lib.hid (fun j h ho => @ruT_some l k kk j x h ho)
   have HLT := Lib.hid (fun j ho => @ruI_lt l k j kk ho)
   have HHP := Lib.hid (fun (W : World) => Tryz.strings_HasPrefix k x.pr W)
   obtain ⟨h, hh⟩ : ∃ h, h = hpB k x.pr := ⟨_, rfl⟩
   have HH := Lib.hid hh
   obtain ⟨o, ho⟩ : ∃ o, o = ruI l k kk := ⟨_, rfl⟩
   rw [← ho] at HNI HT2 HT3 HLT ⊢
   have HOI := Lib.hid ho
   have HB0 := Lib.hid (BL.alloc hszw (.cells #[.string x.pr, .int .i64 x.li, .int .i64 x.st, .int .i64 x.go] 126))
   clear hx hc BL hh ho
   have HHP2 : Hid (∀ W : World, Calls Tryz.prog 93 #[.string k, .string x.pr] W fun e w' => e = .returned (.bool h) ∧ w' = W) := Lib.hid (fun W => by rw [HH.out]; exact HHP.out W)
   cases h
   case false =>
    have HN : Hid (ruI l k (kk + 1) = o) := Lib.hid (by rw [HNI.out, HT1.out HH.out.symm]; rfl)
    go_upto_region 5 with (fail)
    go_quiet ((go_at_call 93; exact Calls.quiet_of_same (HHP2.out _)))
    go_wp2
    go_roundg (l.length - (kk + 1))
    case measure => omega
    case rel => exact ⟨kk + 1, by omega, by omega, by go_num, by rw [HN.out], below_drewN HB0.out _⟩
   case true =>
    cases o
    case none =>
     have HN : Hid (ruI l k (kk + 1) = some kk) := Lib.hid (by rw [HNI.out, HT2.out HH.out.symm rfl]; rfl)
     have hno : numO none = -1 := rfl
     rw [hno]
     go_upto_region 5 with (fail)
     go_quiet ((go_at_call 93; exact Calls.quiet_of_same (HHP2.out _)))
     go_wp2
     go_roundg (l.length - (kk + 1))
     case measure => omega
     case rel => exact ⟨kk + 1, by omega, by omega, by go_num, by rw [HN.out]; rfl, below_drewN HB0.out _⟩
    case some j =>
     have hj := HLT.out j rfl
     obtain ⟨y, hy⟩ : ∃ y, l[j]? = some y := ⟨l[j]'(by omega), by simp [show j < l.length by omega]⟩
     obtain ⟨b', off', hao', hc'⟩ := HEL.out j y hy
     simp only [Option.some.injEq, Addr.mk.injEq, and_true] at hao'
     obtain ⟨rfl, rfl⟩ := hao'
     have p0 : wr.cell? ⟨b, off + j * 4, none⟩ = some (.string y.pr) := (BW.out.cell (p := ⟨b, off + j * 4 + 0, none⟩) hlt0).trans (hc' 0 _ rfl)
     have HT4 := Lib.hid (HT3.out j HH.out.symm rfl)
     have e4 : outU l (some j) = y := by show l.getD j default = y; exact getD_of hy
     rw [e4] at HT4
     have hno : numO (some j) = j := rfl
     rw [hno]
     have hjl : j < l.length := by omega
     clear hy hc' e4 hno
     by_cases hs : y.pr.size < x.pr.size
     ·have HN : Hid (ruI l k (kk + 1) = some kk) := Lib.hid (by rw [HNI.out, HT4.out, decide_eq_true hs]; rfl)
      have hsz : (y.pr.size : Int) < (x.pr.size : Int) := by omega
      go_upto_region 5 with (fail)
      go_quiet ((go_at_call 93; exact Calls.quiet_of_same (HHP2.out _)))
      go_wp2
      go_roundg (l.length - (kk + 1))
      case measure => omega
      case rel => exact ⟨kk + 1, by omega, by omega, by go_num, by rw [HN.out]; rfl, below_drewN HB0.out _⟩
     ·have HN : Hid (ruI l k (kk + 1) = some j) := Lib.hid (by rw [HNI.out, HT4.out, decide_eq_false hs]; rfl)
      have hsz : ¬ (y.pr.size : Int) < (x.pr.size : Int) := by omega
      go_upto_region 5 with (fail)
      go_quiet ((go_at_call 93; exact Calls.quiet_of_same (HHP2.out _)))
      go_wp2
      go_roundg (l.length - (kk + 1))
      case measure => omega
      case rel => exact ⟨kk + 1, by omega, by omega, by go_num, by rw [HN.out]; rfl, below_drewN HB0.out _⟩
  ·obtain rfl : kk = l.length := by omega
   have hltz : ¬ (l.length : Int) < (l.length : Int) := by omega
   rw [← HY.out]
   go_wp2
   go_ret
   exact ⟨rfl, BW.out⟩
set_option maxRecDepth 100000 in
set_option maxHeartbeats 4000000 in
theorem versionAtR_any (w : World) (l : List Rel) (v : Value) (k : ByteArray) (t : Int) (hl : Sl w 4 encL v l) :
 Calls Tryz.prog 33 #[v, .string k, .int .i64 t] w fun e w' => e = .returned (.int .i64 (numO (veO l k t))) ∧ Below w.heap.size w w' := by
 obtain ⟨ao, cap, rfl, hcap, hmax, hnil, hel⟩ := hl
 unfold maxLen at hmax
 have HEL := Lib.hid hel
 clear hel
 have HVO : Hid (veO l k t = if (outL l (veI l k t l.length)).go = true then none else veI l k t l.length) := Lib.hid rfl
 obtain ⟨V, hV⟩ : ∃ V, V = veO l k t := ⟨_, rfl⟩
 rw [← hV] at HVO ⊢
 clear hV
 obtain ⟨Y, hY⟩ : ∃ Y, Y = numO V := ⟨_, rfl⟩
 rw [← hY]
 have HY := Lib.hid hY
 clear hY
 go_enter Tryz.func33, Tryz.ntmps33
 go_wp2
 go_loopg [7, 8, 9, 12] l.length (fun gg s7 _ _ s12 wr => ∃ kk : Nat, kk ≤ l.length ∧ l.length - kk ≤ gg ∧ s12 = .int .i64 kk ∧ s7 = .int .i64 (numO (veI l k t kk)) ∧ Aside (Below w.heap.size w wr))
 case atStart => exact ⟨0, Nat.zero_le _, by omega, by go_num, rfl, Below.refl _ _⟩
 case round =>
  obtain ⟨kk, hkk, hg, rfl, rfl, BW⟩ := hrel
  have BW := Lib.hid BW.out
  by_cases hlt : kk < l.length
  ·have hltz : (kk : Int) < (l.length : Int) := by omega
   obtain ⟨x, hx⟩ : ∃ x, l[kk]? = some x := ⟨l[kk], by simp [hlt]⟩
   obtain ⟨b, off, rfl, hc⟩ := HEL.out kk x hx
   have hlt0 := World.block_lt_of_cell? w ⟨b, off + kk * 4 + 0, none⟩ (hc 0 _ rfl)
   have BL := BW.out
   have hszw := BL.size
   have hbw : b < wr.heap.size := Nat.lt_of_lt_of_le hlt0 hszw
   have c0 : wr.cell? ⟨b, off + kk * 4, none⟩ = some (.string x.ke) := (BL.cell (p := ⟨b, off + kk * 4 + 0, none⟩) hlt0).trans (hc 0 _ rfl)
   have c1 : wr.cell? ⟨b, off + kk * 4 + 1, none⟩ = some (.int .i64 x.ti) := (BL.cell (p := ⟨b, off + kk * 4 + 1, none⟩) hlt0).trans (hc 1 _ rfl)
   have c2 : wr.cell? ⟨b, off + kk * 4 + 2, none⟩ = some (.int .i64 x.si) := (BL.cell (p := ⟨b, off + kk * 4 + 2, none⟩) hlt0).trans (hc 2 _ rfl)
   have c3 : wr.cell? ⟨b, off + kk * 4 + 3, none⟩ = some (.bool x.go) := (BL.cell (p := ⟨b, off + kk * 4 + 3, none⟩) hlt0).trans (hc 3 _ rfl)
   have HNI := Lib.hid (veI_next (k := k) (t := t) hx)
   obtain ⟨o, ho⟩ : ∃ o, o = veI l k t kk := ⟨_, rfl⟩
   rw [← ho] at HNI ⊢
   obtain ⟨no, hno⟩ : ∃ no, no = numO o := ⟨_, rfl⟩
   rw [← hno]
   have HNO := Lib.hid hno
   have HB0 := Lib.hid (BL.alloc hszw (.cells #[.string x.ke, .int .i64 x.ti, .int .i64 x.si, .bool x.go] 77))
   clear hx hc BL ho hno
   cases hq : (x.ke.toList == k.toList)
   case false =>
    have HN : Hid (veI l k t (kk + 1) = o) := Lib.hid (by rw [HNI.out, hq]; rfl)
    go_wp2
    go_roundg (l.length - (kk + 1))
    case measure => omega
    case rel => exact ⟨kk + 1, by omega, by omega, by go_num, by rw [HN.out, HNO.out], HB0.out⟩
   case true =>
    by_cases hs : x.ti ≤ t
    ·have HN : Hid (veI l k t (kk + 1) = some kk) := Lib.hid (by rw [HNI.out, hq, decide_eq_true hs]; rfl)
     go_wp2
     go_roundg (l.length - (kk + 1))
     case measure => omega
     case rel => exact ⟨kk + 1, by omega, by omega, by go_num, by rw [HN.out]; rfl, HB0.out⟩
    ·have HN : Hid (veI l k t (kk + 1) = o) := Lib.hid (by rw [HNI.out, hq, decide_eq_false hs]; rfl)
     go_wp2
     go_roundg (l.length - (kk + 1))
     case measure => omega
     case rel => exact ⟨kk + 1, by omega, by omega, by go_num, by rw [HN.out, HNO.out], HB0.out⟩
  ·obtain rfl : kk = l.length := by omega
   have hltz : ¬ (l.length : Int) < (l.length : Int) := by omega
   have HLT := Lib.hid (fun j ho => @veI_lt l k t j l.length ho)
   obtain ⟨o, ho⟩ : ∃ o, o = veI l k t l.length := ⟨_, rfl⟩
   rw [← ho] at HVO HLT ⊢
   clear ho
   cases o
   case none =>
    have hV : Hid (-1 = Y) := Lib.hid (by rw [HY.out, HVO.out]; split <;> rfl)
    have hno : numO none = -1 := rfl
    rw [hno]
    clear hno
    go_wp2
    go_ret
    exact ⟨ret_int hV.out, BW.out⟩
   case some j =>
    have hj := HLT.out j rfl
    obtain ⟨y, hy⟩ : ∃ y, l[j]? = some y := ⟨l[j]'(by omega), by simp [show j < l.length by omega]⟩
    obtain ⟨b, off, rfl, hc'⟩ := HEL.out j y hy
    have hlt0 := World.block_lt_of_cell? w ⟨b, off + j * 4 + 0, none⟩ (hc' 0 _ rfl)
    have p3 : wr.cell? ⟨b, off + j * 4 + 3, none⟩ = some (.bool y.go) := (BW.out.cell (p := ⟨b, off + j * 4 + 3, none⟩) hlt0).trans (hc' 3 _ rfl)
    have e4 : outL l (some j) = y := by show l.getD j default = y; exact getD_of hy
    rw [e4] at HVO
    have hno : numO (some j) = j := rfl
    rw [hno]
    clear hy hc' e4 hno
    cases hgo : y.go
    case true =>
     have hV : Hid (-1 = Y) := Lib.hid (by rw [HY.out, HVO.out, hgo]; rfl)
     rw [hgo] at p3
     go_wp2
     go_ret
     exact ⟨ret_int hV.out, BW.out⟩
    case false =>
     have hV : Hid ((j : Int) = Y) := Lib.hid (by rw [HY.out, HVO.out, hgo]; rfl)
     rw [hgo] at p3
     go_wp2
     go_ret
     exact ⟨ret_int hV.out, BW.out⟩
def pbI (P : List Pur) (k : ByteArray) (t : Int) : Nat → Int
 | 0 => -1
 | n + 1 => if (((P.getD n default).ke.toList == k.toList) && decide ((P.getD n default).ti ≤ t)) = true then (P.getD n default).ti else pbI P k t n
theorem pbI_next {P : List Pur} {k : ByteArray} {t : Int} {n : Nat} {x : Pur} (hx : P[n]? = some x) : pbI P k t (n + 1) = if ((x.ke.toList == k.toList) && decide (x.ti ≤ t)) = true then x.ti else pbI P k t n := by
 rw [pbI, getD_at hx]
theorem pbI_pur {P : List Pur} (hs : ∀ (i j : Nat) (x y : Pur), i ≤ j → P[i]? = some x → P[j]? = some y → x.ti ≤ y.ti) (h0 : ∀ x, x ∈ P → 0 ≤ x.ti) (k : ByteArray) (t : Int) : ∀ {n : Nat}, n ≤ P.length → pbI P k t n = purI P k t n
 | 0, _ => rfl
 | n + 1, hn => by
  have hx := List.getElem?_eq_getElem (by omega : n < P.length)
  rw [pbI_next hx, purI_next hx, pbI_pur hs h0 k t (n := n) (by omega)]
  split
  ·have h1 : purI P k t n ≤ P[n].ti := by
    refine purI_lt (by have := h0 _ (List.getElem_mem (by omega : n < P.length)); omega) (fun q y hq hy _ _ => hs q n y _ (by omega) hy hx) (by omega)
   omega
  ·rfl
where
 purI_lt {P : List Pur} {k : ByteArray} {t v : Int} {m : Nat} (hv : -1 ≤ v) (h : ∀ (q : Nat) (x : Pur), q < m → P[q]? = some x → x.ke = k → x.ti ≤ t → x.ti ≤ v) (hm : m ≤ P.length) : purI P k t m ≤ v := by
  induction m with
  | zero => exact hv
  | succ m ih =>
   have h1 := ih (fun q x hq => h q x (by omega)) (by omega)
   have hx := List.getElem?_eq_getElem (by omega : m < P.length)
   rw [purI_next hx]
   split
   ·rename_i hc
    simp only [Bool.and_eq_true, beq_iff_eq, decide_eq_true_eq] at hc
    have := h m _ (by omega) hx (ba_list hc.1) hc.2
    omega
   ·exact h1
def fstI {α : Type} (p : α → Bool) : List α → Option Nat
 | [] => none
 | a :: l => if p a = true then some 0 else (fstI p l).map (· + 1)
theorem fstI_hit {α : Type} {p : α → Bool} : ∀ {l : List α} {n : Nat} {x : α}, l[n]? = some x → p x = true → (∀ (j : Nat) (y : α), j < n → l[j]? = some y → p y = false) → fstI p l = some n
 | [], _, _, h, _, _ => by cases h
 | a :: l, 0, x, h, hp, _ => by
  have e : a = x := by simpa using h
  rw [fstI, e, if_pos hp]
 | a :: l, n + 1, x, h, hp, hn => by
  have h0 := hn 0 a (Nat.succ_pos _) rfl
  rw [fstI, h0, if_neg (by simp), fstI_hit (l := l) (n := n) (by simpa using h) hp (fun j y hj hy => hn (j + 1) y (by omega) (by simpa using hy))]
  rfl
theorem fstI_none {α : Type} {p : α → Bool} : ∀ {l : List α}, (∀ (j : Nat) (y : α), l[j]? = some y → p y = false) → fstI p l = none
 | [], _ => rfl
 | a :: l, h => by
  rw [fstI, h 0 a rfl, if_neg (by simp), fstI_none (l := l) (fun j y hy => h (j + 1) y (by simpa using hy))]
  rfl
theorem fstI_some {α : Type} {p : α → Bool} : ∀ {l : List α} {n : Nat}, fstI p l = some n → ∃ x, l[n]? = some x ∧ p x = true
 | [], _, h => by cases h
 | a :: l, n, h => by
  unfold fstI at h
  split at h
  ·cases h; exact ⟨a, rfl, by assumption⟩
  ·cases hf : fstI p l with
   | none => rw [hf] at h; cases h
   | some m =>
    rw [hf] at h
    cases h
    obtain ⟨x, h1, h2⟩ := fstI_some hf
    exact ⟨x, by simpa using h1, h2⟩
theorem fstI_isNone {α : Type} {p : α → Bool} : ∀ {l : List α}, fstI p l = none → ∀ x, x ∈ l → p x = false
 | [], _, _, h => by cases h
 | a :: l, h, x, hx => by
  unfold fstI at h
  split at h
  ·cases h
  ·rename_i ha
   cases hf : fstI p l with
   | some m => rw [hf] at h; cases h
   | none =>
    rcases List.mem_cons.1 hx with rfl | hx
    ·simpa using ha
    ·exact fstI_isNone hf x hx
theorem fstI_range {α : Type} [Inhabited α] (p : α → Bool) (l : List α) : (List.range l.length).find? (fun j => p (l.getD j default)) = fstI p l := by
 cases h : fstI p l with
 | some n =>
  obtain ⟨x, h1, h2⟩ := fstI_some h
  have hn := (List.getElem?_eq_some_iff.1 h1).1
  rw [List.find?_range_eq_some]
  refine ⟨by rw [getD_at h1]; exact h2, List.mem_range.2 hn, fun j hj => ?_⟩
  cases hp : p (l.getD j default)
  ·rfl
  ·exfalso
   have hj2 : l[j]? = some (l.getD j default) := by rw [List.getD_eq_getElem?_getD, List.getElem?_eq_getElem (by omega)]; rfl
   have : ∀ (m : List α) (a b : Nat) (y : α), fstI p m = some b → a < b → m[a]? = some y → p y = false := by
    intro m
    induction m with
    | nil => intro a b y h; cases h
    | cons c m ih =>
     intro a b y h hab hy
     unfold fstI at h
     split at h
     ·cases h; omega
     ·rename_i hc
      cases hf : fstI p m with
      | none => rw [hf] at h; cases h
      | some d =>
       rw [hf] at h
       cases h
       cases a with
       | zero =>
        have e : c = y := by simpa using hy
        rw [← e]; simpa using hc
       | succ a => exact ih a d y hf (by show a < d; have : a + 1 < d + 1 := hab; omega) (by simpa using hy)
   rw [this l j n _ h hj hj2] at hp
   cases hp
 | none =>
  rw [List.find?_eq_none]
  intro j hj
  have hj := List.mem_range.1 hj
  have := fstI_isNone h (l.getD j default) (by rw [getD_at (List.getElem?_eq_getElem hj)]; exact List.getElem_mem hj)
  rw [this]; simp
def plI (l : List Xh) (k : ByteArray) : Option Nat := fstI (fun h => h.ke.toList == k.toList) l
def wyT (i : Nat) (key : ByteArray) (last : Int) (k : Xk) : Bool := (((decide (k.ca = i) && (k.ke.toList == key.toList)) && !k.dn) && !k.al) && decide (last ≤ k.ma)
theorem wyI_way (X : Xd) (i : Nat) (key : ByteArray) (last : Int) : X.wayX i key last = fstI (wyT i key last) X.ak := by
 rw [← fstI_range]
 unfold Xd.wayX
 congr 1
 funext j
 unfold wyT
 show _ = _
 have e : X.ak.getD j default = X.K j := rfl
 rw [e]
 cases decide ((X.K j).ca = i) <;> cases (X.K j).dn <;> cases ((X.K j).ke.toList == key.toList) <;> cases (X.K j).al <;> cases decide (last ≤ (X.K j).ma) <;> rfl
set_option maxRecDepth 100000 in
set_option maxHeartbeats 4000000 in
theorem purgedX_any (w : World) (B : Nat) (A : Rdr) (X : Xd) (h : RD w B A X) (P : List Pur) (k : ByteArray) (hp : Sl w 2 encG A.d3 P) :
 Calls Tryz.prog 146 #[.pointer (some ⟨A.q, 0, none⟩), .string k] w fun e w' => e = .returned (.int .i64 (pbI P k X.no P.length)) ∧ Below w.heap.size w w' := by
 have hqb := h.qb.2
 obtain ⟨ao, cap, e3, hcap, hmax, -, hel⟩ := hp
 have q3 : w.cell? ⟨A.q, 3, none⟩ = some (.slice ao P.length cap) := by rw [cellF hqb 3 rfl, ← e3]; rfl
 have q11 : w.cell? ⟨A.q, 11, none⟩ = some (.int .i64 X.no) := cellF hqb 11 rfl
 have hql := World.block_lt_of_cell? w _ q11
 unfold maxLen at hmax
 have HEL := Lib.hid hel
 generalize X.no = t at q11 ⊢
 clear hel h hqb e3
 go_enter Tryz.func146, Tryz.ntmps146
 go_wp2_with fail
 go_loopg [5, 7, 14] P.length (fun gg s5 s7 s14 wr => ∃ kk : Nat, kk ≤ P.length ∧ P.length - kk ≤ gg ∧ s14 = .int .i64 kk ∧ s5 = .int .i64 (pbI P k t kk) ∧ Aside (Below w.heap.size w wr))
 case atStart => exact ⟨0, Nat.zero_le _, by omega, rfl, rfl, Below.refl _ _⟩
 case round =>
  obtain ⟨kk, hkk, hg, rfl, rfl, BW⟩ := hrel
  by_cases hlt : kk < P.length
  ·have hltz : (kk : Int) < (P.length : Int) := by omega
   obtain ⟨x, hx⟩ : ∃ x, P[kk]? = some x := ⟨_, List.getElem?_eq_getElem hlt⟩
   obtain ⟨b, off, rfl, hc⟩ := HEL.out kk x hx
   have hl2 := World.block_lt_of_cell? w _ (hc 0 _ rfl)
   have c0 : wr.cell? ⟨b, off + kk * 2, none⟩ = some (.int .i64 x.ti) := by have h := (BW.out.cell (p := ⟨b, off + kk * 2 + 0, none⟩) hl2).trans (hc 0 _ rfl); simpa using h
   have c1 : wr.cell? ⟨b, off + kk * 2 + 1, none⟩ = some (.string x.ke) := (BW.out.cell (p := ⟨b, off + kk * 2 + 1, none⟩) hl2).trans (hc 1 _ rfl)
   have HNX := Lib.hid (pbI_next (k := k) (t := t) hx)
   obtain ⟨m1, hm1⟩ : ∃ m1, m1 = pbI P k t (kk + 1) := ⟨_, rfl⟩
   rw [← hm1] at HNX
   have HM1 := Lib.hid hm1
   generalize pbI P k t kk = m0 at HNX ⊢
   have hsz := BW.out.size
   obtain ⟨wq, hwq⟩ : ∃ wq, wq = wr.alloc (.cells #[.int .i64 x.ti, .string x.ke] 74) := ⟨_, rfl⟩
   have HB : Hid (Below w.heap.size w wq) := Lib.hid (by rw [hwq]; exact BW.out.alloc hsz _)
   obtain ⟨N, hN⟩ : ∃ N, N = wr.heap.size := ⟨_, rfl⟩
   have hnb : wq.heap[N]? = some (.cells #[.int .i64 x.ti, .string x.ke] 74 (0, 0)) := by rw [hN, hwq]; exact block_new wr _
   have n0 : wq.cell? ⟨N, 0, none⟩ = some (.int .i64 x.ti) := cellF hnb 0 rfl
   have n1 : wq.cell? ⟨N, 1, none⟩ = some (.string x.ke) := cellF hnb 1 rfl
   have r11 := (HB.out.cell (p := ⟨A.q, 11, none⟩) hql).trans q11
   have HWQ := Lib.hid hwq
   have HN := Lib.hid hN
   clear hc hx hm1 hwq hN hnb q11 q3
   go_upto_region 5 with (fail)
   rw [← HWQ.out, ← HN.out]
   cases h1 : (x.ke.toList == k.toList)
   ·have hv : Hid (m1 = m0) := Lib.hid (by rw [HNX.out, h1]; rfl)
    go_quiet (fail)
    go_wp2_with fail
    go_roundg (P.length - (kk + 1))
    case measure => omega
    case rel => exact ⟨kk + 1, by omega, by omega, by go_num, by rw [← HM1.out, hv.out], below_drewN HB.out _⟩
   ·by_cases h2 : x.ti ≤ t
    ·have hv : Hid (m1 = x.ti) := Lib.hid (by rw [HNX.out, h1, decide_eq_true h2]; rfl)
     go_quiet (fail)
     go_wp2_with fail
     go_roundg (P.length - (kk + 1))
     case measure => omega
     case rel => exact ⟨kk + 1, by omega, by omega, by go_num, by rw [← HM1.out, hv.out], below_drewN HB.out _⟩
    ·have hv : Hid (m1 = m0) := Lib.hid (by rw [HNX.out, h1, decide_eq_false h2]; rfl)
     go_quiet (fail)
     go_wp2_with fail
     go_roundg (P.length - (kk + 1))
     case measure => omega
     case rel => exact ⟨kk + 1, by omega, by omega, by go_num, by rw [← HM1.out, hv.out], below_drewN HB.out _⟩
  ·obtain rfl : kk = P.length := by omega
   have hltz : ¬ (P.length : Int) < (P.length : Int) := by omega
   go_wp2_with fail
   go_ret
   exact ⟨rfl, BW.out⟩
set_option maxRecDepth 100000 in
set_option maxHeartbeats 4000000 in
theorem placeX_any (w : World) (B : Nat) (A : Rdr) (X : Xd) (h : RD w B A X) (i : Nat) (key : ByteArray) (hi : i < X.he.length) :
 Calls Tryz.prog 98 #[.pointer (some ⟨A.q, 0, none⟩), .int .i64 (i : Nat), .string key] w fun e w' => e = .returned (.int .i64 (numO (plI (X.H i) key))) ∧ Below w.heap.size w w' := by
 have hqb := h.qb.2
 obtain ⟨v, hv⟩ : ∃ v, A.hs[i]? = some v := ⟨_, List.getElem?_eq_getElem (by rw [h.hl]; exact hi)⟩
 obtain ⟨so, sc, e8, -, -, -, hel8⟩ := h.rows.sl encV_len
 have q8 : w.cell? ⟨A.q, 8, none⟩ = some (.slice so A.hs.length sc) := by rw [cellF hqb 8 rfl, ← e8]; rfl
 obtain ⟨sb, soff, rfl, hc8⟩ := hel8 i v hv
 have s0 : w.cell? ⟨sb, soff + i, none⟩ = some v := by have h := hc8 0 _ rfl; simpa using h
 obtain ⟨ao, cap, rfl, hcap, hmax, -, hel⟩ := (h.held hv).sl encH_len
 unfold maxLen at hmax
 have hiz : (i : Int) < (A.hs.length : Int) := by rw [h.hl]; omega
 have HEL := Lib.hid hel
 have HH := Lib.hid (fun n x h1 h2 h3 => @fstI_hit _ (fun h : Xh => h.ke.toList == key.toList) (X.H i) n x h1 h2 h3)
 have HN := Lib.hid (@fstI_none _ (fun h : Xh => h.ke.toList == key.toList) (X.H i))
 obtain ⟨F, hF⟩ : ∃ F, F = plI (X.H i) key := ⟨_, rfl⟩
 have hF' : F = fstI (fun h : Xh => h.ke.toList == key.toList) (X.H i) := hF
 rw [← hF'] at HH HN
 rw [← hF]
 clear hF hF' hel hel8 hc8 hv h hqb e8
 generalize X.H i = l at HEL HH HN hcap q8 s0 ⊢
 go_enter Tryz.func98, Tryz.ntmps98
 go_wp2_with fail
 go_loopg [7, 8, 17] l.length (fun gg s7 s8 s17 wr => ∃ kk : Nat, kk ≤ l.length ∧ l.length - kk ≤ gg ∧ s17 = .int .i64 kk ∧ Aside (Below w.heap.size w wr) ∧ Aside (∀ (j : Nat) (y : Xh), j < kk → l[j]? = some y → (y.ke.toList == key.toList) = false))
 case atStart => exact ⟨0, Nat.zero_le _, by omega, rfl, Below.refl _ _, fun j y hj => absurd hj (Nat.not_lt_zero _)⟩
 case round =>
  obtain ⟨kk, hkk, hg, rfl, BW, AL⟩ := hrel
  by_cases hlt : kk < l.length
  ·have hltz : (kk : Int) < (l.length : Int) := by omega
   obtain ⟨x, hx⟩ : ∃ x, l[kk]? = some x := ⟨_, List.getElem?_eq_getElem hlt⟩
   obtain ⟨b, off, rfl, hc⟩ := HEL.out kk x hx
   have hl2 := World.block_lt_of_cell? w _ (hc 0 _ rfl)
   have c0 : wr.cell? ⟨b, off + kk * 6, none⟩ = some (.string x.ke) := by have h := (BW.out.cell (p := ⟨b, off + kk * 6 + 0, none⟩) hl2).trans (hc 0 _ rfl); simpa using h
   have c1 : wr.cell? ⟨b, off + kk * 6 + 1, none⟩ = some (.int .i64 x.an.ve) := (BW.out.cell (p := ⟨b, off + kk * 6 + 1, none⟩) hl2).trans (hc 1 _ rfl)
   have c2 : wr.cell? ⟨b, off + kk * 6 + 2, none⟩ = some (.int .i64 x.an.bo) := (BW.out.cell (p := ⟨b, off + kk * 6 + 2, none⟩) hl2).trans (hc 2 _ rfl)
   have c3 : wr.cell? ⟨b, off + kk * 6 + 3, none⟩ = some (.int .i64 x.an.si) := (BW.out.cell (p := ⟨b, off + kk * 6 + 3, none⟩) hl2).trans (hc 3 _ rfl)
   have c4 : wr.cell? ⟨b, off + kk * 6 + 4, none⟩ = some (.string x.an.fr) := (BW.out.cell (p := ⟨b, off + kk * 6 + 4, none⟩) hl2).trans (hc 4 _ rfl)
   have c5 : wr.cell? ⟨b, off + kk * 6 + 5, none⟩ = some (.int .i64 x.us) := (BW.out.cell (p := ⟨b, off + kk * 6 + 5, none⟩) hl2).trans (hc 5 _ rfl)
   have hsz := BW.out.size
   have HB := Lib.hid (BW.out.alloc hsz (.cells #[.string x.ke, .int .i64 x.an.ve, .int .i64 x.an.bo, .int .i64 x.an.si, .string x.an.fr, .int .i64 x.us] 107))
   have HX := Lib.hid hx
   clear hc hx
   cases h1 : (x.ke.toList == key.toList)
   ·have HAL : Hid (∀ (j : Nat) (y : Xh), j < kk + 1 → l[j]? = some y → (y.ke.toList == key.toList) = false) := Lib.hid fun j y hj hy => by
     by_cases e : j = kk
     ·subst e; rw [HX.out] at hy; cases hy; exact h1
     ·exact AL.out j y (by omega) hy
    go_wp2_with fail
    go_roundg (l.length - (kk + 1))
    case measure => omega
    case rel => exact ⟨kk + 1, by omega, by omega, by go_num, HB.out, HAL.out⟩
   ·have hv : Hid (numO F = (kk : Int)) := Lib.hid (by rw [HH.out kk x HX.out h1 AL.out]; rfl)
    clear AL HX HH HN
    go_wp2_with fail
    go_ret
    exact ⟨by rw [hv.out]; rfl, HB.out⟩
  ·obtain rfl : kk = l.length := by omega
   have hltz : ¬ (l.length : Int) < (l.length : Int) := by omega
   have hv : Hid (numO F = -1) := Lib.hid (by rw [HN.out fun j y hy => AL.out j y (List.getElem?_eq_some_iff.1 hy).1 hy]; rfl)
   have HB := Lib.hid BW.out
   clear AL HH HN
   go_wp2_with fail
   go_ret
   exact ⟨by rw [hv.out]; rfl, HB.out⟩
set_option maxRecDepth 100000 in
set_option maxHeartbeats 4000000 in
theorem totalX_any (w : World) (v : Value) (l : List Xh) (hl : Sl w 6 encH v l) (hb : ∀ x, x ∈ l → (0 ≤ x.an.si ∧ x.an.si ≤ 1000000000)) (hn : ∀ x, x ∈ l → needA x.an = max x.an.si 1) (hlen : l.length ≤ 1000000) :
 Calls Tryz.prog 147 #[v] w fun e w' => e = .returned (.int .i64 (totH l)) ∧ Below w.heap.size w w' := by
 obtain ⟨ao, cap, rfl, hcap, hmax, -, hel⟩ := hl
 unfold maxLen at hmax
 have HEL := Lib.hid hel
 have HBB := Lib.hid hb
 have HTS : Hid (∀ k x, l[k]? = some x → totH (l.take (k + 1)) = totH (l.take k) + max x.an.si 1) := Lib.hid fun k x hx => by
  rw [List.take_add_one, hx, totH_app, ← hn x (List.mem_of_getElem? hx)]
  show totH (l.take k) + (needA x.an + 0) = _
  omega
 have HTB : Hid (∀ k, k ≤ l.length → 0 ≤ totH (l.take k) ∧ totH (l.take k) ≤ k * 1000000000) := Lib.hid fun k => by
  induction k with
  | zero => intro _; exact ⟨Int.le_refl _, Int.le_refl _⟩
  | succ k ih =>
   intro hk
   have h1 := ih (by omega)
   have hx := List.getElem?_eq_getElem (by omega : k < l.length)
   have h2 := hb _ (List.getElem_mem (by omega : k < l.length))
   rw [HTS.out k _ hx]
   omega
 have HT1 : Hid (totH (l.take l.length) = totH l) := Lib.hid (by rw [List.take_length])
 clear hel hb hn
 go_enter Tryz.func147, Tryz.ntmps147
 go_wp2_with fail
 go_loopg [3, 5, 8] l.length (fun gg s3 s5 s8 wr => ∃ kk : Nat, kk ≤ l.length ∧ l.length - kk ≤ gg ∧ s8 = .int .i64 kk ∧ s3 = .int .i64 (totH (l.take kk)) ∧ Aside (Below w.heap.size w wr))
 case atStart => exact ⟨0, Nat.zero_le _, by omega, rfl, rfl, Below.refl _ _⟩
 case round =>
  obtain ⟨kk, hkk, hg, rfl, rfl, BW⟩ := hrel
  by_cases hlt : kk < l.length
  ·have hltz : (kk : Int) < (l.length : Int) := by omega
   obtain ⟨x, hx⟩ : ∃ x, l[kk]? = some x := ⟨_, List.getElem?_eq_getElem hlt⟩
   obtain ⟨b, off, rfl, hc⟩ := HEL.out kk x hx
   have hl2 := World.block_lt_of_cell? w _ (hc 0 _ rfl)
   have c0 : wr.cell? ⟨b, off + kk * 6, none⟩ = some (.string x.ke) := by have h := (BW.out.cell (p := ⟨b, off + kk * 6 + 0, none⟩) hl2).trans (hc 0 _ rfl); simpa using h
   have c1 : wr.cell? ⟨b, off + kk * 6 + 1, none⟩ = some (.int .i64 x.an.ve) := (BW.out.cell (p := ⟨b, off + kk * 6 + 1, none⟩) hl2).trans (hc 1 _ rfl)
   have c2 : wr.cell? ⟨b, off + kk * 6 + 2, none⟩ = some (.int .i64 x.an.bo) := (BW.out.cell (p := ⟨b, off + kk * 6 + 2, none⟩) hl2).trans (hc 2 _ rfl)
   have c3 : wr.cell? ⟨b, off + kk * 6 + 3, none⟩ = some (.int .i64 x.an.si) := (BW.out.cell (p := ⟨b, off + kk * 6 + 3, none⟩) hl2).trans (hc 3 _ rfl)
   have c4 : wr.cell? ⟨b, off + kk * 6 + 4, none⟩ = some (.string x.an.fr) := (BW.out.cell (p := ⟨b, off + kk * 6 + 4, none⟩) hl2).trans (hc 4 _ rfl)
   have c5 : wr.cell? ⟨b, off + kk * 6 + 5, none⟩ = some (.int .i64 x.us) := (BW.out.cell (p := ⟨b, off + kk * 6 + 5, none⟩) hl2).trans (hc 5 _ rfl)
   have hsz := BW.out.size
   have HB := Lib.hid (BW.out.alloc hsz (.cells #[.string x.ke, .int .i64 x.an.ve, .int .i64 x.an.bo, .int .i64 x.an.si, .string x.an.fr, .int .i64 x.us] 107))
   have HNX := Lib.hid (HTS.out kk x hx)
   obtain ⟨b1, b2⟩ := HTB.out kk hkk
   obtain ⟨b3, b4⟩ := HBB.out x (List.mem_of_getElem? hx)
   generalize totH (l.take kk) = m at HNX b1 b2 ⊢
   have hww : IntKind.i64.wrap (m + max x.an.si 1) = m + max x.an.si 1 := IntWalk.i64_in _ (by omega)
   clear hc hx
   go_wp2_with fail
   go_roundg (l.length - (kk + 1))
   case measure => omega
   case rel => exact ⟨kk + 1, by omega, by omega, by go_num, by rw [HNX.out], HB.out⟩
  ·obtain rfl : kk = l.length := by omega
   have hltz : ¬ (l.length : Int) < (l.length : Int) := by omega
   rw [HT1.out]
   go_wp2_with fail
   go_ret
   exact ⟨rfl, BW.out⟩
end Go.Proofs.YtgohddfnhofjhaaGreatDoor

/- Blocks of four cells; the rule of a key and the release of a key, plain. -/
import Derived.Test.YtehbmnkbmgnkfaaGreatDoorB03
import Derived.Test.YtehbmnkbmgnkfaaGreatDoorB09
import Derived.Lib.Strings
import Derived.Test.YtehbmnkbmgnkfaaGreatDoorB06
namespace Go.Proofs.YtehbmnkbmgnkfaaGreatDoor
open Go.RowKit

theorem froz_of_blk {w : World} {b i : Nat} {c : Array Value} {T : TypeId} (h : w.heap[b]? = some (.cells c T (0, 0))) : w.frozen? ⟨b, i, none⟩ = false := by simp [World.frozen?, h]
/-- A block of four cells. -/
def Bk4 (w : World) (g : Nat) (t : TypeId) (a b c d : Value) : Prop := w.heap[g]? = some (.cells #[a, b, c, d] t (0, 0))
theorem Bk4.lt {w : World} {g : Nat} {t : TypeId} {a b c d : Value} (h : Bk4 w g t a b c d) : g < w.heap.size := lt_of_blk h
theorem Bk4.below {w w' : World} {g B : Nat} {t : TypeId} {a b c d : Value} (h : Bk4 w g t a b c d) (hb : Below B w w') (hB : g < B) : Bk4 w' g t a b c d := (hb.block g hB).trans h
theorem Bk4.cells {w : World} {g : Nat} {t : TypeId} {a b c d : Value} (h : Bk4 w g t a b c d) : w.cell? ⟨g, 0, none⟩ = some a ∧ w.cell? ⟨g, 1, none⟩ = some b ∧ w.cell? ⟨g, 2, none⟩ = some c ∧ w.cell? ⟨g, 3, none⟩ = some d :=
  ⟨(cell_of_block (i := 0) h).trans rfl, (cell_of_block (i := 1) h).trans rfl, (cell_of_block (i := 2) h).trans rfl, (cell_of_block (i := 3) h).trans rfl⟩
theorem Bk4.frz {w : World} {g : Nat} {t : TypeId} {a b c d : Value} (h : Bk4 w g t a b c d) (i : Nat) : w.frozen? ⟨g, i, none⟩ = false := froz_of_blk h
/-- All four cells written. -/
abbrev set4 (w : World) (g : Nat) (a b c d : Value) : World := (((w.setCell ⟨g, 0, none⟩ a).setCell ⟨g, 1, none⟩ b).setCell ⟨g, 2, none⟩ c).setCell ⟨g, 3, none⟩ d
theorem Bk4.set {w : World} {g : Nat} {t : TypeId} {a b c d : Value} (h : Bk4 w g t a b c d) (a' b' c' d' : Value) : Bk4 (set4 w g a' b' c' d') g t a' b' c' d' := by
  have h1 := heap_setCell_same w g 0 _ _ a' h
  have h2 := heap_setCell_same _ g 1 _ _ b' h1
  have h3 := heap_setCell_same _ g 2 _ _ c' h2
  have h4 := heap_setCell_same _ g 3 _ _ d' h3
  unfold Bk4
  rw [h4]
  rfl
theorem Bk4.other {w : World} {g k : Nat} {t : TypeId} {a b c d a' b' c' d' : Value} (h : Bk4 w k t a b c d) (hne : k ≠ g) : Bk4 (set4 w g a' b' c' d') k t a b c d :=
  (Below.heap_setCell _ ⟨g, 3, none⟩ _ k hne).trans ((Below.heap_setCell _ ⟨g, 2, none⟩ _ k hne).trans ((Below.heap_setCell _ ⟨g, 1, none⟩ _ k hne).trans ((Below.heap_setCell w ⟨g, 0, none⟩ _ k hne).trans h)))
theorem below_set4 {B g : Nat} {w w' : World} (h : Below B w w') (hB : B ≤ g) (a b c d : Value) : Below B w (set4 w' g a b c d) :=
  (((h.setCell (p := ⟨g, 0, none⟩) hB _).setCell (p := ⟨g, 1, none⟩) hB _).setCell (p := ⟨g, 2, none⟩) hB _).setCell (p := ⟨g, 3, none⟩) hB _

def hpB (k p : ByteArray) : Bool := Lib.hasPrefix k.data.toList p.data.toList
/-- The number of the rule of a key among the first n. -/
def ruI (l : List Crl) (k : ByteArray) : Nat → Option Nat
  | 0 => none
  | n + 1 => if hpB k (l.getD n default).pr && (match ruI l k n with | none => true | some j => decide ((l.getD j default).pr.size < (l.getD n default).pr.size)) then some n else ruI l k n
def outU (l : List Crl) : Option Nat → Crl
  | none => default
  | some j => l.getD j default
/-- Its test. -/
def ruT (l : List Crl) (k : ByteArray) (n : Nat) (x : Crl) : Bool := hpB k x.pr && (match ruI l k n with | none => true | some j => decide ((l.getD j default).pr.size < x.pr.size))
theorem ruI_lt {l : List Crl} {k : ByteArray} {j : Nat} : ∀ {n : Nat}, ruI l k n = some j → j < n
  | 0, h => by simp [ruI] at h
  | n + 1, h => by
    have e : ruI l k (n + 1) = if ruT l k n (l.getD n default) then some n else ruI l k n := rfl
    rw [e] at h
    cases hT : ruT l k n (l.getD n default)
    · rw [hT] at h
      exact Nat.lt_succ_of_lt (ruI_lt h)
    · rw [hT] at h
      simp at h; omega
theorem ruI_next {l : List Crl} {k : ByteArray} {n : Nat} {x : Crl} (hx : l[n]? = some x) : ruI l k (n + 1) = if ruT l k n x then some n else ruI l k n := by
  rw [ruI, getD_of hx]; rfl
theorem ruT_hp {l : List Crl} {k : ByteArray} {n : Nat} {x : Crl} (h : hpB k x.pr = false) : ruT l k n x = false := by simp [ruT, h]
theorem ruT_none {l : List Crl} {k : ByteArray} {n : Nat} {x : Crl} (h : hpB k x.pr = true) (ho : ruI l k n = none) : ruT l k n x = true := by simp [ruT, h, ho]
theorem ruT_some {l : List Crl} {k : ByteArray} {n j : Nat} {x : Crl} (h : hpB k x.pr = true) (ho : ruI l k n = some j) : ruT l k n x = decide ((outU l (ruI l k n)).pr.size < x.pr.size) := by simp [ruT, h, ho, outU]

/-- The number of the release of a key at a time, among the first n. -/
def veI (l : List Rel) (k : ByteArray) (t : Int) : Nat → Option Nat
  | 0 => none
  | n + 1 => if ((l.getD n default).ke.toList == k.toList) && decide ((l.getD n default).ti ≤ t) then some n else veI l k t n
def outL (l : List Rel) : Option Nat → Rel
  | none => default
  | some j => l.getD j default
/-- What is there: nothing if it is gone. -/
def veO (l : List Rel) (k : ByteArray) (t : Int) : Option Nat := if (outL l (veI l k t l.length)).go = true then none else veI l k t l.length
theorem veI_lt {l : List Rel} {k : ByteArray} {t : Int} {j : Nat} : ∀ {n : Nat}, veI l k t n = some j → j < n
  | 0, h => by simp [veI] at h
  | n + 1, h => by
    unfold veI at h
    split at h
    · simp at h; omega
    · exact Nat.lt_succ_of_lt (veI_lt h)
theorem veI_next {l : List Rel} {k : ByteArray} {t : Int} {n : Nat} {x : Rel} (hx : l[n]? = some x) : veI l k t (n + 1) = if (x.ke.toList == k.toList) && decide (x.ti ≤ t) then some n else veI l k t n := by
  rw [veI, getD_of hx]
end Go.Proofs.YtehbmnkbmgnkfaaGreatDoor

/- ruleOf of the program. -/
namespace Go.Proofs.YtehbmnkbmgnkfaaGreatDoor
open Go.RowKit

abbrev aggU (x : Crl) : Value := .agg #[.string x.pr, .int .i64 x.li, .int .i64 x.st, .int .i64 x.go]
abbrev BkU (w : World) (g : Nat) (x : Crl) : Prop := Bk4 w g 27 (.string x.pr) (.int .i64 x.li) (.int .i64 x.st) (.int .i64 x.go)
structure RuS (w wr : World) (x : Crl) : Prop where
  bel : Below w.heap.size w wr
  zero : BkU wr w.heap.size default
  out : BkU wr (w.heap.size + 1) x
theorem RuS.start (w : World) : RuS w ((w.alloc (.cells #[.string ⟨#[]⟩, .int .i64 0, .int .i64 0, .int .i64 0] 27)).alloc (.cells #[.string ⟨#[]⟩, .int .i64 0, .int .i64 0, .int .i64 0] 27)) default := by
  refine ⟨((Below.refl _ _).alloc (Nat.le_refl _) _).alloc (by simp) _, ?_, ?_⟩
  · have h : BkU (w.alloc (.cells #[.string ⟨#[]⟩, .int .i64 0, .int .i64 0, .int .i64 0] 27)) w.heap.size default := block_new w _
    exact h.below (B := (w.alloc (.cells #[.string ⟨#[]⟩, .int .i64 0, .int .i64 0, .int .i64 0] 27)).heap.size) ((Below.refl _ _).alloc (Nat.le_refl _) _) (by simp)
  · have e : w.heap.size + 1 = (w.alloc (.cells #[.string ⟨#[]⟩, .int .i64 0, .int .i64 0, .int .i64 0] 27)).heap.size := by simp
    rw [e]
    exact block_new _ _
theorem RuS.al {w wr : World} {x : Crl} (h : RuS w wr x) (z : Obj) : RuS w (wr.alloc z) x :=
  ⟨h.bel.alloc h.bel.size z, h.zero.below ((Below.refl _ _).alloc (Nat.le_refl _) z) h.zero.lt, h.out.below ((Below.refl _ _).alloc (Nat.le_refl _) z) h.out.lt⟩
theorem RuS.st {w wr : World} {x : Crl} (h : RuS w wr x) (y : Crl) : RuS w (set4 wr (w.heap.size + 1) (.string y.pr) (.int .i64 y.li) (.int .i64 y.st) (.int .i64 y.go)) y :=
  ⟨below_set4 h.bel (Nat.le_succ _) _ _ _ _, h.zero.other (by omega), h.out.set _ _ _ _⟩

set_option maxRecDepth 100000 in
set_option maxHeartbeats 4000000 in
theorem ruleOf_any (w : World) (l : List Crl) (v : Value) (k : ByteArray) (hl : Sl w 4 encU v l) :
    Calls Tryz.prog 90 #[v, .string k] w fun e w' => e = .returned (.tuple #[aggU (outU l (ruI l k l.length)), .bool (ruI l k l.length).isSome]) ∧ Below w.heap.size w w' := by
  obtain ⟨ao, cap, rfl, hcap, hmax, hnil, hel⟩ := hl
  unfold maxLen at hmax
  have HEL := Lib.hid hel
  clear hel
  have HS0 := Lib.hid (RuS.start w)
  obtain ⟨Y, hY⟩ : ∃ Y, Y = outU l (ruI l k l.length) := ⟨_, rfl⟩
  obtain ⟨OB, hOB⟩ : ∃ OB, OB = (ruI l k l.length).isSome := ⟨_, rfl⟩
  rw [← hY, ← hOB]
  have HY := Lib.hid hY
  have HOB := Lib.hid hOB
  clear hY hOB
  go_enter Tryz.func90, Tryz.ntmps90
  go_wp2
  go_loopg [7, 9, 12] l.length (fun gg s7 _ s12 wr => ∃ kk : Nat, kk ≤ l.length ∧ l.length - kk ≤ gg ∧ s12 = .int .i64 kk ∧ s7 = .bool (ruI l k kk).isSome ∧ Aside (RuS w wr (outU l (ruI l k kk))))
  case atStart => exact ⟨0, Nat.zero_le _, by omega, by go_num, rfl, HS0.out⟩
  case round =>
    obtain ⟨kk, hkk, hg, rfl, rfl, RS⟩ := hrel
    have RS := Lib.hid RS.out
    by_cases hlt : kk < l.length
    · have hltz : (kk : Int) < (l.length : Int) := by omega
      obtain ⟨x, hx⟩ : ∃ x, l[kk]? = some x := ⟨l[kk], by simp [hlt]⟩
      obtain ⟨b, off, rfl, hc⟩ := HEL.out kk x hx
      have hlt0 := World.block_lt_of_cell? w ⟨b, off + kk * 4 + 0, none⟩ (hc 0 _ rfl)
      have BL := RS.out.bel
      have c0 : wr.cell? ⟨b, off + kk * 4, none⟩ = some (.string x.pr) := (BL.cell (p := ⟨b, off + kk * 4 + 0, none⟩) hlt0).trans (hc 0 _ rfl)
      have c1 : wr.cell? ⟨b, off + kk * 4 + 1, none⟩ = some (.int .i64 x.li) := (BL.cell (p := ⟨b, off + kk * 4 + 1, none⟩) hlt0).trans (hc 1 _ rfl)
      have c2 : wr.cell? ⟨b, off + kk * 4 + 2, none⟩ = some (.int .i64 x.st) := (BL.cell (p := ⟨b, off + kk * 4 + 2, none⟩) hlt0).trans (hc 2 _ rfl)
      have c3 : wr.cell? ⟨b, off + kk * 4 + 3, none⟩ = some (.int .i64 x.go) := (BL.cell (p := ⟨b, off + kk * 4 + 3, none⟩) hlt0).trans (hc 3 _ rfl)
      obtain ⟨y, hy⟩ : ∃ y, y = outU l (ruI l k kk) := ⟨_, rfl⟩
      have HO := Lib.hid RS.out.out
      have HZ := Lib.hid RS.out.zero
      have HNI := Lib.hid (ruI_next (k := k) hx)
      have HT1 := Lib.hid (fun h => @ruT_hp l k kk x h)
      have HT2 := Lib.hid (fun h ho => @ruT_none l k kk x h ho)
      have HT3 := Lib.hid (fun j h ho => @ruT_some l k kk j x h ho)
      have HOK : Hid (outU l (some kk) = x) := Lib.hid (by show l.getD kk default = x; exact getD_of hx)
      rw [← hy] at HO HT3
      have HOY := Lib.hid hy
      have hzs := HZ.out.lt
      have hos := HO.out.lt
      obtain ⟨y0, y1, y2, y3⟩ := HO.out.cells
      have yf0 := HO.out.frz 0
      have yf1 := HO.out.frz 1
      have yf2 := HO.out.frz 2
      have yf3 := HO.out.frz 3
      have HBA := Lib.hid (fun (z : Obj) => (BL.alloc BL.size z))
      have HHP := Lib.hid (fun (W : World) => Tryz.strings_HasPrefix k x.pr W)
      obtain ⟨h, hh⟩ : ∃ h, h = hpB k x.pr := ⟨_, rfl⟩
      have HH := Lib.hid hh
      obtain ⟨o, ho⟩ : ∃ o, o = ruI l k kk := ⟨_, rfl⟩
      rw [← ho] at HNI HT2 HT3 ⊢
      have HOI := Lib.hid ho
      clear hx hc BL hy hh ho
      have HHP2 : Hid (∀ W : World, Calls Tryz.prog 47 #[.string k, .string x.pr] W fun e w' => e = .returned (.bool h) ∧ w' = W) := Lib.hid (fun W => by rw [HH.out]; exact HHP.out W)
      have HX1 := Lib.hid (fun z => (RS.out.st x).al z)
      have HX := Lib.hid (RS.out.al (.cells #[.string x.pr, .int .i64 x.li, .int .i64 x.st, .int .i64 x.go] 27))
      rw [← HOY.out] at HX
      cases h
      case false =>
        have HN : Hid (ruI l k (kk + 1) = o) := Lib.hid (by rw [HNI.out, HT1.out HH.out.symm]; rfl)
        go_wp2_with (go_at_call 47; refine (HHP2.out _).mono ?_; rintro e w' ⟨rfl, rfl⟩)
        go_roundg (l.length - (kk + 1))
        case measure => omega
        case rel => exact ⟨kk + 1, by omega, by omega, by go_num, by rw [HN.out], by rw [HN.out, HOI.out, ← HOY.out]; exact HX.out⟩
      case true =>
        cases o
        case none =>
          have HN : Hid (ruI l k (kk + 1) = some kk) := Lib.hid (by rw [HNI.out, HT2.out HH.out.symm rfl]; rfl)
          go_wp2_with (go_at_call 47; refine (HHP2.out _).mono ?_; rintro e w' ⟨rfl, rfl⟩)
          go_roundg (l.length - (kk + 1))
          case measure => omega
          case rel => exact ⟨kk + 1, by omega, by omega, by go_num, by rw [HN.out]; rfl, by rw [HN.out, HOK.out]; exact HX1.out _⟩
        case some j =>
          by_cases hs : y.pr.size < x.pr.size
          · have HN : Hid (ruI l k (kk + 1) = some kk) := Lib.hid (by rw [HNI.out, HT3.out j HH.out.symm rfl, decide_eq_true hs]; rfl)
            have hsz : (y.pr.size : Int) < (x.pr.size : Int) := by omega
            go_wp2_with (go_at_call 47; refine (HHP2.out _).mono ?_; rintro e w' ⟨rfl, rfl⟩)
            go_roundg (l.length - (kk + 1))
            case measure => omega
            case rel => exact ⟨kk + 1, by omega, by omega, by go_num, by rw [HN.out]; rfl, by rw [HN.out, HOK.out]; exact HX1.out _⟩
          · have HN : Hid (ruI l k (kk + 1) = some j) := Lib.hid (by rw [HNI.out, HT3.out j HH.out.symm rfl, decide_eq_false hs]; rfl)
            have hsz : ¬ (y.pr.size : Int) < (x.pr.size : Int) := by omega
            go_wp2_with (go_at_call 47; refine (HHP2.out _).mono ?_; rintro e w' ⟨rfl, rfl⟩)
            go_roundg (l.length - (kk + 1))
            case measure => omega
            case rel => exact ⟨kk + 1, by omega, by omega, by go_num, by rw [HN.out]; rfl, by rw [HN.out, HOI.out, ← HOY.out]; exact HX.out⟩
    · obtain rfl : kk = l.length := by omega
      have hltz : ¬ (l.length : Int) < (l.length : Int) := by omega
      rw [← HY.out] at RS
      rw [← HOB.out]
      have HO := Lib.hid RS.out.out
      have HZ := Lib.hid RS.out.zero
      have HBX := Lib.hid RS.out.bel
      have hzs := HZ.out.lt
      have hos := HO.out.lt
      obtain ⟨y0, y1, y2, y3⟩ := HO.out.cells
      obtain ⟨z0, z1, z2, z3⟩ := HZ.out.cells
      have zf0 := HZ.out.frz 0
      have zf1 := HZ.out.frz 1
      have zf2 := HZ.out.frz 2
      have zf3 := HZ.out.frz 3
      go_upto_region 9 with (fail)
      repeat (first | go_values | go_skip | go_guarded | go_step | go_upon)
      exact bodyPost_ret (v := .tuple #[aggU Y, .bool OB]) (by simp [results, Tryz.results90, go_sem, z0, z1, z2, z3]) rfl ⟨rfl, below_set4 HBX.out (Nat.le_refl _) _ _ _ _⟩
end Go.Proofs.YtehbmnkbmgnkfaaGreatDoor

/- Caches and purges, deliveries; plain. -/
namespace Go.Proofs.YtehbmnkbmgnkfaaGreatDoor
open Go.RowKit

structure Cch where
  na : ByteArray
  pa : ByteArray
  de : Int
  ro : Int
instance : Inhabited Cch := ⟨⟨ByteArray.empty, ByteArray.empty, 0, 0⟩⟩
def encC (x : Cch) : List Value := [.string x.na, .string x.pa, .int .i64 x.de, .int .i64 x.ro]
theorem encC_len (x : Cch) : (encC x).length = 4 := rfl
def WfC (x : Cch) : Prop := x.na.size ≤ 9223372036854775807 ∧ x.pa.size ≤ 9223372036854775807
def isC (o : Cch) (n : ByteArray) : Bool := o.na.toList == n.toList
/-- Is there a cache with a name? -/
def hasC (l : List Cch) (n : ByteArray) : Bool := l.any fun o => isC o n
def parB (x : Cch) (hp : Bool) : Bool := !decide (x.pa = ⟨#[]⟩) && !hp
def ccOf (x : Cch) (tw hp : Bool) : Int :=
  if (!nameB x.na) = true then 5 else if tw = true then 7 else if (parB x hp) = true then 9 else if (outB x.de 1 100000 || outB x.ro 0 1000000000000) = true then 1 else 0
def ccAt (l : List Cch) (i : Nat) : Int := ccOf (l.getD i default) (hasC (l.take i) (l.getD i default).na) (hasC (l.take i) (l.getD i default).pa)
/-- The fault of caches. -/
def checkC (l : List Cch) : Int := if l.length = 0 then 9 else if 30 < l.length then 2 else FF (ccAt l) l.length

structure Pur where
  ti : Int
  ke : ByteArray
instance : Inhabited Pur := ⟨⟨0, ByteArray.empty⟩⟩
def encG (x : Pur) : List Value := [.int .i64 x.ti, .string x.ke]
theorem encG_len (x : Pur) : (encG x).length = 2 := rfl
def WfG (x : Pur) : Prop := x.ke.size ≤ 9223372036854775807
def ordG (x p : Pur) (i : Nat) : Bool := decide (0 < i) && (decide (x.ti < p.ti) || (x.ti == p.ti && sleB x.ke p.ke))
def cgOf (x p : Pur) (i : Nat) : Int :=
  if (outB x.ti 0 1000000000000) = true then 1 else if (!reqB x.ke) = true then 3 else if (ordG x p i) = true then 8 else 0
def cgAt (l : List Pur) (i : Nat) : Int := cgOf (l.getD i default) (l.getD (i - 1) default) i
/-- The fault of purges. -/
def checkG (l : List Pur) : Int := if 200 < l.length then 2 else FF (cgAt l) l.length
/-- The fault of a delivery. -/
def checkD (c : List Cch) (r : List Crl) (e : List Rel) (p : List Pur) : Int :=
  if checkC c ≠ 0 then checkC c else if checkU r ≠ 0 then checkU r else if checkL e ≠ 0 then checkL e else checkG p
theorem str_emp {x : ByteArray} (h : ¬ x = ⟨#[]⟩) : (x.toList == []) = false ∧ x.toList.isEmpty = false ∧ ¬ x.toList = [] := by
  have h1 : ¬ x.toList = [] := by
    rw [ByteArray.toList_eq]
    intro e
    apply h
    cases x with
    | mk d =>
      have : d = #[] := Array.toList_eq_nil_iff.1 e
      rw [this]
  exact ⟨by simp [h1], by simp [h1], h1⟩
end Go.Proofs.YtehbmnkbmgnkfaaGreatDoor

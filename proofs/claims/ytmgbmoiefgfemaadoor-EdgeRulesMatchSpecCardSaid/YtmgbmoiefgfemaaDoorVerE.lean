/- versionAt of the program. -/
import Derived.Test.YtmgbmoiefgfemaaDoorEdL
namespace Go.Proofs.YtmgbmoiefgfemaaDoor
open Go.RowKit

abbrev aggL (x : Rel) : Value := .agg #[.string x.ke, .int .i64 x.ti, .int .i64 x.si, .bool x.go]
abbrev BkL (w : World) (g : Nat) (x : Rel) : Prop := Bk4 w g 32 (.string x.ke) (.int .i64 x.ti) (.int .i64 x.si) (.bool x.go)
structure RlS (w wr : World) (x : Rel) : Prop where
  bel : Below w.heap.size w wr
  zero : BkL wr w.heap.size default
  out : BkL wr (w.heap.size + 1) x
theorem RlS.start (w : World) : RlS w ((w.alloc (.cells #[.string ⟨#[]⟩, .int .i64 0, .int .i64 0, .bool false] 32)).alloc (.cells #[.string ⟨#[]⟩, .int .i64 0, .int .i64 0, .bool false] 32)) default := by
  refine ⟨((Below.refl _ _).alloc (Nat.le_refl _) _).alloc (by simp) _, ?_, ?_⟩
  · have h : BkL (w.alloc (.cells #[.string ⟨#[]⟩, .int .i64 0, .int .i64 0, .bool false] 32)) w.heap.size default := block_new w _
    exact h.below (B := (w.alloc (.cells #[.string ⟨#[]⟩, .int .i64 0, .int .i64 0, .bool false] 32)).heap.size) ((Below.refl _ _).alloc (Nat.le_refl _) _) (by simp)
  · have e : w.heap.size + 1 = (w.alloc (.cells #[.string ⟨#[]⟩, .int .i64 0, .int .i64 0, .bool false] 32)).heap.size := by simp
    rw [e]
    exact block_new _ _
theorem RlS.al {w wr : World} {x : Rel} (h : RlS w wr x) (z : Obj) : RlS w (wr.alloc z) x :=
  ⟨h.bel.alloc h.bel.size z, h.zero.below ((Below.refl _ _).alloc (Nat.le_refl _) z) h.zero.lt, h.out.below ((Below.refl _ _).alloc (Nat.le_refl _) z) h.out.lt⟩
theorem RlS.st {w wr : World} {x : Rel} (h : RlS w wr x) (y : Rel) : RlS w (set4 wr (w.heap.size + 1) (.string y.ke) (.int .i64 y.ti) (.int .i64 y.si) (.bool y.go)) y :=
  ⟨below_set4 h.bel (Nat.le_succ _) _ _ _ _, h.zero.other (by omega), h.out.set _ _ _ _⟩

set_option maxRecDepth 100000 in
set_option maxHeartbeats 4000000 in
theorem versionAt_any (w : World) (l : List Rel) (v : Value) (k : ByteArray) (t : Int) (hl : Sl w 4 encL v l) :
    Calls Tryd.prog 42 #[v, .string k, .int .i64 t] w fun e w' => e = .returned (.tuple #[aggL (outL l (veO l k t)), .bool (veO l k t).isSome]) ∧ Below w.heap.size w w' := by
  obtain ⟨ao, cap, rfl, hcap, hmax, hnil, hel⟩ := hl
  unfold maxLen at hmax
  have HEL := Lib.hid hel
  clear hel
  have HS0 := Lib.hid (RlS.start w)
  have HVO : Hid (veO l k t = if (outL l (veI l k t l.length)).go = true then none else veI l k t l.length) := Lib.hid rfl
  obtain ⟨V, hV⟩ : ∃ V, V = veO l k t := ⟨_, rfl⟩
  rw [← hV] at HVO ⊢
  clear hV
  obtain ⟨Y, hY⟩ : ∃ Y, Y = outL l V := ⟨_, rfl⟩
  obtain ⟨OB, hOB⟩ : ∃ OB, OB = V.isSome := ⟨_, rfl⟩
  rw [← hY, ← hOB]
  have HY := Lib.hid hY
  have HOB := Lib.hid hOB
  clear hY hOB
  go_enter Tryd.func42, Tryd.ntmps42
  go_wp2
  go_loopg [9, 11, 14] l.length (fun gg s9 _ s14 wr => ∃ kk : Nat, kk ≤ l.length ∧ l.length - kk ≤ gg ∧ s14 = .int .i64 kk ∧ s9 = .bool (veI l k t kk).isSome ∧ Aside (RlS w wr (outL l (veI l k t kk))))
  case atStart => exact ⟨0, Nat.zero_le _, by omega, by go_num, rfl, HS0.out⟩
  case round =>
    obtain ⟨kk, hkk, hg, rfl, rfl, RS⟩ := hrel
    have RS := Lib.hid RS.out
    by_cases hlt : kk < l.length
    · have hltz : (kk : Int) < (l.length : Int) := by omega
      obtain ⟨x, hx⟩ : ∃ x, l[kk]? = some x := ⟨l[kk], by simp [hlt]⟩
      obtain ⟨b, off, rfl, hc⟩ := HEL.out kk x hx
      have hlt0 := World.block_lt_of_cell? w ⟨b, off + kk * 4 + 0, none⟩ (hc 0 _ rfl)
      have BL := RS.out.bel
      have c0 : wr.cell? ⟨b, off + kk * 4, none⟩ = some (.string x.ke) := (BL.cell (p := ⟨b, off + kk * 4 + 0, none⟩) hlt0).trans (hc 0 _ rfl)
      have c1 : wr.cell? ⟨b, off + kk * 4 + 1, none⟩ = some (.int .i64 x.ti) := (BL.cell (p := ⟨b, off + kk * 4 + 1, none⟩) hlt0).trans (hc 1 _ rfl)
      have c2 : wr.cell? ⟨b, off + kk * 4 + 2, none⟩ = some (.int .i64 x.si) := (BL.cell (p := ⟨b, off + kk * 4 + 2, none⟩) hlt0).trans (hc 2 _ rfl)
      have c3 : wr.cell? ⟨b, off + kk * 4 + 3, none⟩ = some (.bool x.go) := (BL.cell (p := ⟨b, off + kk * 4 + 3, none⟩) hlt0).trans (hc 3 _ rfl)
      obtain ⟨y, hy⟩ : ∃ y, y = outL l (veI l k t kk) := ⟨_, rfl⟩
      have HO := Lib.hid RS.out.out
      have HZ := Lib.hid RS.out.zero
      have HNI := Lib.hid (veI_next (k := k) (t := t) hx)
      have HOK : Hid (outL l (some kk) = x) := Lib.hid (by show l.getD kk default = x; exact getD_of hx)
      rw [← hy] at HO
      have HOY := Lib.hid hy
      have hzs := HZ.out.lt
      have hos := HO.out.lt
      obtain ⟨y0, y1, y2, y3⟩ := HO.out.cells
      have yf0 := HO.out.frz 0
      have yf1 := HO.out.frz 1
      have yf2 := HO.out.frz 2
      have yf3 := HO.out.frz 3
      obtain ⟨o, ho⟩ : ∃ o, o = veI l k t kk := ⟨_, rfl⟩
      rw [← ho] at HNI ⊢
      have HOI := Lib.hid ho
      clear hx hc BL hy ho
      have HX1 := Lib.hid (fun z => (RS.out.st x).al z)
      have HX := Lib.hid (RS.out.al (.cells #[.string x.ke, .int .i64 x.ti, .int .i64 x.si, .bool x.go] 32))
      rw [← HOY.out] at HX
      cases hq : (x.ke.toList == k.toList)
      case false =>
        have HN : Hid (veI l k t (kk + 1) = o) := Lib.hid (by rw [HNI.out, hq]; rfl)
        go_wp2
        go_roundg (l.length - (kk + 1))
        case measure => omega
        case rel => exact ⟨kk + 1, by omega, by omega, by go_num, by rw [HN.out], by rw [HN.out, HOI.out, ← HOY.out]; exact HX.out⟩
      case true =>
        by_cases hs : x.ti ≤ t
        · have HN : Hid (veI l k t (kk + 1) = some kk) := Lib.hid (by rw [HNI.out, hq, decide_eq_true hs]; rfl)
          go_wp2
          go_roundg (l.length - (kk + 1))
          case measure => omega
          case rel => exact ⟨kk + 1, by omega, by omega, by go_num, by rw [HN.out]; rfl, by rw [HN.out, HOK.out]; exact HX1.out _⟩
        · have HN : Hid (veI l k t (kk + 1) = o) := Lib.hid (by rw [HNI.out, hq, decide_eq_false hs]; rfl)
          go_wp2
          go_roundg (l.length - (kk + 1))
          case measure => omega
          case rel => exact ⟨kk + 1, by omega, by omega, by go_num, by rw [HN.out], by rw [HN.out, HOI.out, ← HOY.out]; exact HX.out⟩
    · obtain rfl : kk = l.length := by omega
      have hltz : ¬ (l.length : Int) < (l.length : Int) := by omega
      obtain ⟨y, hy⟩ : ∃ y, y = outL l (veI l k t l.length) := ⟨_, rfl⟩
      obtain ⟨o, ho⟩ : ∃ o, o = veI l k t l.length := ⟨_, rfl⟩
      rw [← hy] at RS HVO
      rw [← ho] at HVO ⊢
      have HOY : Hid (y = outL l o) := Lib.hid (by rw [hy, ho])
      have HO := Lib.hid RS.out.out
      have HZ := Lib.hid RS.out.zero
      have HBX := Lib.hid RS.out.bel
      have hzs := HZ.out.lt
      have hos := HO.out.lt
      obtain ⟨y0, y1, y2, y3⟩ := HO.out.cells
      obtain ⟨z0, z1, z2, z3⟩ := HZ.out.cells
      have zf0 := HZ.out.frz 0
      have zf1 := HZ.out.frz 1
      have zf2 := HZ.out.frz 2
      have zf3 := HZ.out.frz 3
      clear hy ho RS
      have RZ : Hid (Y = default → OB = false → (fun (e : Ending) (w' : World) => e = .returned (.tuple #[aggL Y, .bool OB]) ∧ Below w.heap.size w w') (.returned (.tuple #[.agg #[.string ⟨#[]⟩, .int .i64 0, .int .i64 0, .bool false], .bool false])) (set4 wr w.heap.size (.string ⟨#[]⟩) (.int .i64 0) (.int .i64 0) (.bool false))) := Lib.hid (fun h1 h2 => ⟨by rw [h1, h2]; rfl, below_set4 HBX.out (Nat.le_refl _) _ _ _ _⟩)
      cases o
      case none =>
        have hV : V = none := by rw [HVO.out]; split <;> rfl
        have h1 : Y = default := by rw [HY.out, hV]; rfl
        have h2 : OB = false := by rw [HOB.out, hV]; rfl
        have RZ2 := Lib.hid (RZ.out h1 h2)
        clear hV h1 h2 RZ
        go_upto_region 10 with (fail)
        repeat (first | go_values | go_skip | go_guarded | go_step | go_upon)
        exact bodyPost_ret (v := .tuple #[.agg #[.string ⟨#[]⟩, .int .i64 0, .int .i64 0, .bool false], .bool false]) (by simp [results, Tryd.results42, go_sem, z0, z1, z2, z3]) rfl RZ2.out
      case some j =>
        cases hgo : y.go
        case true =>
          have hV : V = none := by rw [HVO.out, hgo]; rfl
          have h1 : Y = default := by rw [HY.out, hV]; rfl
          have h2 : OB = false := by rw [HOB.out, hV]; rfl
          have RZ2 := Lib.hid (RZ.out h1 h2)
          rw [hgo] at y3
          clear hV h1 h2 RZ
          go_upto_region 10 with (fail)
          repeat (first | go_values | go_skip | go_guarded | go_step | go_upon)
          exact bodyPost_ret (v := .tuple #[.agg #[.string ⟨#[]⟩, .int .i64 0, .int .i64 0, .bool false], .bool false]) (by simp [results, Tryd.results42, go_sem, z0, z1, z2, z3]) rfl RZ2.out
        case false =>
          have hV : V = some j := by rw [HVO.out, hgo]; rfl
          have h1 : Y = y := by rw [HY.out, hV, HOY.out]
          have h2 : OB = true := by rw [HOB.out, hV]; rfl
          subst h1
          subst h2
          rw [hgo] at y3
          have ha : Hid (aggL Y = .agg #[.string Y.ke, .int .i64 Y.ti, .int .i64 Y.si, .bool false]) := Lib.hid (by simp [aggL, hgo])
          clear hV RZ HY HOB
          go_upto_region 11 with (fail)
          repeat (first | go_values | go_skip | go_guarded | go_step | go_upon)
          exact bodyPost_ret (v := .tuple #[.agg #[.string Y.ke, .int .i64 Y.ti, .int .i64 Y.si, .bool false], .bool true]) (by simp [results, Tryd.results42, go_sem, z0, z1, z2, z3]) rfl ⟨by rw [ha.out], below_set4 HBX.out (Nat.le_refl _) _ _ _ _⟩
end Go.Proofs.YtmgbmoiefgfemaaDoor

/- ruleOf of the program. -/
import Derived.Test.YtmgbmoiefgfemaaDoorEdL
import Derived.Test.YtmgbmoiefgfemaaDoorShfE
namespace Go.Proofs.YtmgbmoiefgfemaaDoor
open Go.RowKit

abbrev aggU (x : Crl) : Value := .agg #[.string x.pr, .int .i64 x.li, .int .i64 x.st, .int .i64 x.go]
abbrev BkU (w : World) (g : Nat) (x : Crl) : Prop := Bk4 w g 25 (.string x.pr) (.int .i64 x.li) (.int .i64 x.st) (.int .i64 x.go)
structure RuS (w wr : World) (x : Crl) : Prop where
  bel : Below w.heap.size w wr
  zero : BkU wr w.heap.size default
  out : BkU wr (w.heap.size + 1) x
theorem RuS.start (w : World) : RuS w ((w.alloc (.cells #[.string ⟨#[]⟩, .int .i64 0, .int .i64 0, .int .i64 0] 25)).alloc (.cells #[.string ⟨#[]⟩, .int .i64 0, .int .i64 0, .int .i64 0] 25)) default := by
  refine ⟨((Below.refl _ _).alloc (Nat.le_refl _) _).alloc (by simp) _, ?_, ?_⟩
  · have h : BkU (w.alloc (.cells #[.string ⟨#[]⟩, .int .i64 0, .int .i64 0, .int .i64 0] 25)) w.heap.size default := block_new w _
    exact h.below (B := (w.alloc (.cells #[.string ⟨#[]⟩, .int .i64 0, .int .i64 0, .int .i64 0] 25)).heap.size) ((Below.refl _ _).alloc (Nat.le_refl _) _) (by simp)
  · have e : w.heap.size + 1 = (w.alloc (.cells #[.string ⟨#[]⟩, .int .i64 0, .int .i64 0, .int .i64 0] 25)).heap.size := by simp
    rw [e]
    exact block_new _ _
theorem RuS.al {w wr : World} {x : Crl} (h : RuS w wr x) (z : Obj) : RuS w (wr.alloc z) x :=
  ⟨h.bel.alloc h.bel.size z, h.zero.below ((Below.refl _ _).alloc (Nat.le_refl _) z) h.zero.lt, h.out.below ((Below.refl _ _).alloc (Nat.le_refl _) z) h.out.lt⟩
theorem RuS.st {w wr : World} {x : Crl} (h : RuS w wr x) (y : Crl) : RuS w (set4 wr (w.heap.size + 1) (.string y.pr) (.int .i64 y.li) (.int .i64 y.st) (.int .i64 y.go)) y :=
  ⟨below_set4 h.bel (Nat.le_succ _) _ _ _ _, h.zero.other (by omega), h.out.set _ _ _ _⟩

set_option maxRecDepth 100000 in
set_option maxHeartbeats 4000000 in
theorem ruleOf_any (w : World) (l : List Crl) (v : Value) (k : ByteArray) (hl : Sl w 4 encU v l) :
    Calls Tryd.prog 37 #[v, .string k] w fun e w' => e = .returned (.tuple #[aggU (outU l (ruI l k l.length)), .bool (ruI l k l.length).isSome]) ∧ Below w.heap.size w w' := by
  obtain ⟨ao, cap, rfl, hcap, hmax, hnil, hel⟩ := hl
  unfold maxLen at hmax
  have HEL := Lib.hid hel
  clear hel
  have HS0 := Lib.hid (RuS.start w)
  obtain ⟨Y, hY⟩ : ∃ Y, Y = outU l (ruI l k l.length) := ⟨_, rfl⟩
  obtain ⟨OB, hOB⟩ : ∃ OB, OB = (ruI l k l.length).isSome := ⟨_, rfl⟩
  rw [← hY, ← hOB]
  have HY := Lib.hid hY
  have HOB := Lib.hid hOB
  clear hY hOB
  go_enter Tryd.func37, Tryd.ntmps37
  go_wp2
  go_loopg [7, 9, 12] l.length (fun gg s7 _ s12 wr => ∃ kk : Nat, kk ≤ l.length ∧ l.length - kk ≤ gg ∧ s12 = .int .i64 kk ∧ s7 = .bool (ruI l k kk).isSome ∧ Aside (RuS w wr (outU l (ruI l k kk))))
  case atStart => exact ⟨0, Nat.zero_le _, by omega, by go_num, rfl, HS0.out⟩
  case round =>
    obtain ⟨kk, hkk, hg, rfl, rfl, RS⟩ := hrel
    have RS := Lib.hid RS.out
    by_cases hlt : kk < l.length
    · have hltz : (kk : Int) < (l.length : Int) := by omega
      obtain ⟨x, hx⟩ : ∃ x, l[kk]? = some x := ⟨l[kk], by simp [hlt]⟩
      obtain ⟨b, off, rfl, hc⟩ := HEL.out kk x hx
      have hlt0 := World.block_lt_of_cell? w ⟨b, off + kk * 4 + 0, none⟩ (hc 0 _ rfl)
      have BL := RS.out.bel
      have c0 : wr.cell? ⟨b, off + kk * 4, none⟩ = some (.string x.pr) := (BL.cell (p := ⟨b, off + kk * 4 + 0, none⟩) hlt0).trans (hc 0 _ rfl)
      have c1 : wr.cell? ⟨b, off + kk * 4 + 1, none⟩ = some (.int .i64 x.li) := (BL.cell (p := ⟨b, off + kk * 4 + 1, none⟩) hlt0).trans (hc 1 _ rfl)
      have c2 : wr.cell? ⟨b, off + kk * 4 + 2, none⟩ = some (.int .i64 x.st) := (BL.cell (p := ⟨b, off + kk * 4 + 2, none⟩) hlt0).trans (hc 2 _ rfl)
      have c3 : wr.cell? ⟨b, off + kk * 4 + 3, none⟩ = some (.int .i64 x.go) := (BL.cell (p := ⟨b, off + kk * 4 + 3, none⟩) hlt0).trans (hc 3 _ rfl)
      obtain ⟨y, hy⟩ : ∃ y, y = outU l (ruI l k kk) := ⟨_, rfl⟩
      have HO := Lib.hid RS.out.out
      have HZ := Lib.hid RS.out.zero
      have HNI := Lib.hid (ruI_next (k := k) hx)
      have HT1 := Lib.hid (fun h => @ruT_hp l k kk x h)
      have HT2 := Lib.hid (fun h ho => @ruT_none l k kk x h ho)
      have HT3 := Lib.hid (fun j h ho => @ruT_some l k kk j x h ho)
      have HOK : Hid (outU l (some kk) = x) := Lib.hid (by show l.getD kk default = x; exact getD_of hx)
      rw [← hy] at HO HT3
      have HOY := Lib.hid hy
      have hzs := HZ.out.lt
      have hos := HO.out.lt
      obtain ⟨y0, y1, y2, y3⟩ := HO.out.cells
      have yf0 := HO.out.frz 0
      have yf1 := HO.out.frz 1
      have yf2 := HO.out.frz 2
      have yf3 := HO.out.frz 3
      have HBA := Lib.hid (fun (z : Obj) => (BL.alloc BL.size z))
      have HHP := Lib.hid (fun (W : World) => Tryd.strings_HasPrefix k x.pr W)
      obtain ⟨h, hh⟩ : ∃ h, h = hpB k x.pr := ⟨_, rfl⟩
      have HH := Lib.hid hh
      obtain ⟨o, ho⟩ : ∃ o, o = ruI l k kk := ⟨_, rfl⟩
      rw [← ho] at HNI HT2 HT3 ⊢
      have HOI := Lib.hid ho
      clear hx hc BL hy hh ho
      have HHP2 : Hid (∀ W : World, Calls Tryd.prog 82 #[.string k, .string x.pr] W fun e w' => e = .returned (.bool h) ∧ w' = W) := Lib.hid (fun W => by rw [HH.out]; exact HHP.out W)
      have HX1 := Lib.hid (fun z => (RS.out.st x).al z)
      have HX := Lib.hid (RS.out.al (.cells #[.string x.pr, .int .i64 x.li, .int .i64 x.st, .int .i64 x.go] 25))
      rw [← HOY.out] at HX
      cases h
      case false =>
        have HN : Hid (ruI l k (kk + 1) = o) := Lib.hid (by rw [HNI.out, HT1.out HH.out.symm]; rfl)
        go_wp2_with (go_at_call 82; refine (HHP2.out _).mono ?_; rintro e w' ⟨rfl, rfl⟩)
        go_roundg (l.length - (kk + 1))
        case measure => omega
        case rel => exact ⟨kk + 1, by omega, by omega, by go_num, by rw [HN.out], by rw [HN.out, HOI.out, ← HOY.out]; exact HX.out⟩
      case true =>
        cases o
        case none =>
          have HN : Hid (ruI l k (kk + 1) = some kk) := Lib.hid (by rw [HNI.out, HT2.out HH.out.symm rfl]; rfl)
          go_wp2_with (go_at_call 82; refine (HHP2.out _).mono ?_; rintro e w' ⟨rfl, rfl⟩)
          go_roundg (l.length - (kk + 1))
          case measure => omega
          case rel => exact ⟨kk + 1, by omega, by omega, by go_num, by rw [HN.out]; rfl, by rw [HN.out, HOK.out]; exact HX1.out _⟩
        case some j =>
          by_cases hs : y.pr.size < x.pr.size
          · have HN : Hid (ruI l k (kk + 1) = some kk) := Lib.hid (by rw [HNI.out, HT3.out j HH.out.symm rfl, decide_eq_true hs]; rfl)
            have hsz : (y.pr.size : Int) < (x.pr.size : Int) := by omega
            go_wp2_with (go_at_call 82; refine (HHP2.out _).mono ?_; rintro e w' ⟨rfl, rfl⟩)
            go_roundg (l.length - (kk + 1))
            case measure => omega
            case rel => exact ⟨kk + 1, by omega, by omega, by go_num, by rw [HN.out]; rfl, by rw [HN.out, HOK.out]; exact HX1.out _⟩
          · have HN : Hid (ruI l k (kk + 1) = some j) := Lib.hid (by rw [HNI.out, HT3.out j HH.out.symm rfl, decide_eq_false hs]; rfl)
            have hsz : ¬ (y.pr.size : Int) < (x.pr.size : Int) := by omega
            go_wp2_with (go_at_call 82; refine (HHP2.out _).mono ?_; rintro e w' ⟨rfl, rfl⟩)
            go_roundg (l.length - (kk + 1))
            case measure => omega
            case rel => exact ⟨kk + 1, by omega, by omega, by go_num, by rw [HN.out]; rfl, by rw [HN.out, HOI.out, ← HOY.out]; exact HX.out⟩
    · obtain rfl : kk = l.length := by omega
      have hltz : ¬ (l.length : Int) < (l.length : Int) := by omega
      rw [← HY.out] at RS
      rw [← HOB.out]
      have HO := Lib.hid RS.out.out
      have HZ := Lib.hid RS.out.zero
      have HBX := Lib.hid RS.out.bel
      have hzs := HZ.out.lt
      have hos := HO.out.lt
      obtain ⟨y0, y1, y2, y3⟩ := HO.out.cells
      obtain ⟨z0, z1, z2, z3⟩ := HZ.out.cells
      have zf0 := HZ.out.frz 0
      have zf1 := HZ.out.frz 1
      have zf2 := HZ.out.frz 2
      have zf3 := HZ.out.frz 3
      go_upto_region 9 with (fail)
      repeat (first | go_values | go_skip | go_guarded | go_step | go_upon)
      exact bodyPost_ret (v := .tuple #[aggU Y, .bool OB]) (by simp [results, Tryd.results37, go_sem, z0, z1, z2, z3]) rfl ⟨rfl, below_set4 HBX.out (Nat.le_refl _) _ _ _ _⟩
end Go.Proofs.YtmgbmoiefgfemaaDoor

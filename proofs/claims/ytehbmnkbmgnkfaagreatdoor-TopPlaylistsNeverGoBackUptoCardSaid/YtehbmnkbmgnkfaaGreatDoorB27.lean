/- Playlists as values: entries with further lines, lists; what their faults are (plain). -/
import Derived.Test.YtehbmnkbmgnkfaaGreatDoorB06
import Derived.Test.YtehbmnkbmgnkfaaGreatDoorB10
import Derived.Test.YtehbmnkbmgnkfaaGreatDoorB01
namespace Go.Proofs.YtehbmnkbmgnkfaaGreatDoor
open Go.RowKit

structure Ent where
  ur : ByteArray
  mi : Int
  br : Bool
  da : Int
  ke : ByteArray
  ga : Bool
  ex : List ByteArray
structure Lst where
  ta : Int
  fi : Int
  br : Int
  en : List Ent
  ed : Bool
/-- An entry, with the slice of its further lines. -/
abbrev EnV := Ent × Value
abbrev aggE (x : Ent) (v : Value) : Value := .agg #[.string x.ur, .int .i64 x.mi, .bool x.br, .int .i64 x.da, .string x.ke, .bool x.ga, v]
abbrev agLs (l : Lst) (v : Value) : Value := .agg #[.int .i64 l.ta, .int .i64 l.fi, .int .i64 l.br, v, .bool l.ed]
abbrev litE (x : Ent) (v : Value) : Obj := .cells #[.string x.ur, .int .i64 x.mi, .bool x.br, .int .i64 x.da, .string x.ke, .bool x.ga, v] 47
abbrev litL (l : Lst) (v : Value) : Obj := .cells #[.int .i64 l.ta, .int .i64 l.fi, .int .i64 l.br, v, .bool l.ed] 24
def encEn (p : EnV) : List Value := [.string p.1.ur, .int .i64 p.1.mi, .bool p.1.br, .int .i64 p.1.da, .string p.1.ke, .bool p.1.ga, p.2]
theorem encEn_len (p : EnV) : (encEn p).length = 7 := rfl
theorem infoEn : (Tryz.prog.info? 47).map (fun i => (i.zero, i.size, i.bytes)) = some (some (.agg #[.string ⟨#[]⟩, .int .i64 0, .bool false, .int .i64 0, .string ⟨#[]⟩, .bool false, .slice none 0 0]), 7, 88) := by kernel_rfl
theorem slEn : SlT Tryz.prog 22 47 7 88 := by
  obtain ⟨i0, hi, hz0, hz1, hz2⟩ := info_parts infoEn
  exact ⟨i0, _, Tryz.underlying22, hi, hz0, hz1, hz2, rfl, by decide, by decide⟩
/-- Each entry's further lines are a slice. -/
def ExO (w : World) (q : List EnV) : Prop := ∀ p, p ∈ q → Sl w 1 encS p.2 p.1.ex
/-- The value v is a slice that reads as these entries. -/
def EnS (w : World) (v : Value) (l : List Ent) : Prop := ∃ q : List EnV, Sl w 7 encEn v q ∧ q.map Prod.fst = l ∧ ExO w q
theorem ExO.below {w w' : World} {q : List EnV} (h : ExO w q) (hb : Below w.heap.size w w') : ExO w' q := fun p hp => (h p hp).below hb (Nat.le_refl _)
theorem EnS.below {w w' : World} {v : Value} {l : List Ent} (h : EnS w v l) (hb : Below w.heap.size w w') : EnS w' v l := by
  obtain ⟨q, h1, h2, h3⟩ := h
  exact ⟨q, h1.below hb (Nat.le_refl _), h2, h3.below hb⟩
theorem EnS.nil {w : World} : EnS w (.slice none 0 0) [] := ⟨[], Sl.nil, rfl, fun p hp => by cases hp⟩
/-- The cells of an entry. -/
def CellsE (w : World) (b o : Nat) (x : Ent) (xv : Value) : Prop := w.cell? ⟨b, o, none⟩ = some (.string x.ur) ∧ w.cell? ⟨b, o + 1, none⟩ = some (.int .i64 x.mi) ∧ w.cell? ⟨b, o + 2, none⟩ = some (.bool x.br) ∧ w.cell? ⟨b, o + 3, none⟩ = some (.int .i64 x.da) ∧ w.cell? ⟨b, o + 4, none⟩ = some (.string x.ke) ∧ w.cell? ⟨b, o + 5, none⟩ = some (.bool x.ga) ∧ w.cell? ⟨b, o + 6, none⟩ = some xv
theorem CellsE.below {w w' : World} {b o : Nat} {x : Ent} {xv : Value} (h : CellsE w b o x xv) (hb : Below w.heap.size w w') : CellsE w' b o x xv := by
  have hlt := World.block_lt_of_cell? w ⟨b, o, none⟩ h.1
  obtain ⟨h0, h1, h2, h3, h4, h5, h6⟩ := h
  exact ⟨(hb.cell (p := ⟨b, o, none⟩) hlt).trans h0, (hb.cell (p := ⟨b, o + 1, none⟩) hlt).trans h1, (hb.cell (p := ⟨b, o + 2, none⟩) hlt).trans h2, (hb.cell (p := ⟨b, o + 3, none⟩) hlt).trans h3, (hb.cell (p := ⟨b, o + 4, none⟩) hlt).trans h4, (hb.cell (p := ⟨b, o + 5, none⟩) hlt).trans h5, (hb.cell (p := ⟨b, o + 6, none⟩) hlt).trans h6⟩
theorem CellsE.new (w : World) (x : Ent) (xv : Value) : CellsE (w.alloc (litE x xv)) w.heap.size 0 x xv := by
  have h := block_new w (litE x xv)
  exact ⟨(cell_of_block (i := 0) h).trans rfl, (cell_of_block (i := 1) h).trans rfl, (cell_of_block (i := 2) h).trans rfl, (cell_of_block (i := 3) h).trans rfl, (cell_of_block (i := 4) h).trans rfl, (cell_of_block (i := 5) h).trans rfl, (cell_of_block (i := 6) h).trans rfl⟩
/-- An element of a slice of entries. -/
theorem EnS.op {w : World} {v : Value} {l : List Ent} (h : EnS w v l) : ∃ ao cap, v = .slice ao l.length cap ∧ l.length ≤ cap ∧ cap ≤ maxLen ∧ (ao = none → cap = 0) ∧ ∀ i x, l[i]? = some x → ∃ b off xv, ao = some ⟨b, off, none⟩ ∧ CellsE w b (off + i * 7) x xv ∧ Sl w 1 encS xv x.ex := by
  obtain ⟨q, ⟨ao, cap, h1, h2, h3, h4, h5⟩, rfl, h6⟩ := h
  refine ⟨ao, cap, by rw [List.length_map]; exact h1, by rw [List.length_map]; exact h2, h3, h4, fun i x hx => ?_⟩
  rw [List.getElem?_map, Option.map_eq_some_iff] at hx
  obtain ⟨p, hp, rfl⟩ := hx
  obtain ⟨b, off, ha, hc⟩ := h5 i p hp
  exact ⟨b, off, p.2, ha, ⟨hc 0 _ rfl, hc 1 _ rfl, hc 2 _ rfl, hc 3 _ rfl, hc 4 _ rfl, hc 5 _ rfl, hc 6 _ rfl⟩, h6 p (List.mem_of_getElem? hp)⟩

def visI (lo n : Int) : Bool := decide (lo ≤ n) && decide (n ≤ 126)
/-- Are all bytes visible? -/
def visB (s : ByteArray) (lo : Int) : Bool := (List.range s.size).all fun i => visI lo (chr s i)
theorem visB_no {s : ByteArray} {lo : Int} {i : Nat} (h : i < s.size) (hi : visI lo (chr s i) = false) : visB s lo = false := by
  unfold visB
  rw [List.all_eq_false]
  exact ⟨i, List.mem_range.2 h, by simp [hi]⟩
theorem visB_yes {s : ByteArray} {lo : Int} (h : ∀ i, i < s.size → visI lo (chr s i) = true) : visB s lo = true := List.all_eq_true.2 fun i hi => h i (List.mem_range.1 hi)
def uriF (s : ByteArray) : Int := if outB s.size 1 200 = true then 3 else if chr s 0 = 35 then 3 else if visB s 33 = false then 3 else 0
def hpX (s : ByteArray) : Bool := hpB s ⟨#[35, 88]⟩
def exF (s : ByteArray) : Int := if hpX s = false then 3 else if visB s 32 = false then 3 else if 300 < s.size then 2 else 0
def exA (l : List ByteArray) (i : Nat) : Int := exF (l.getD i ⟨#[]⟩)
def entF (x : Ent) (ta : Int) : Int :=
  if uriF x.ur ≠ 0 then uriF x.ur else if outB x.mi 1 3600000 = true then 1 else if ta < (x.mi + 500) / 1000 then 2 else if outB x.da (-1) 253402300799999 = true then 1
  else if x.ke ≠ ⟨#[]⟩ ∧ nameB x.ke = false then 5 else if 20 < x.ex.length then 2 else FF (exA x.ex) x.ex.length
instance : Inhabited Ent := ⟨⟨⟨#[]⟩, 0, false, 0, ⟨#[]⟩, false, []⟩⟩
def entA (l : List Ent) (ta : Int) (i : Nat) : Int := entF (l.getD i default) ta
/-- The fault of a list. -/
def chkL (l : Lst) : Int := if (outB l.ta 1 3600 || outB l.fi 0 999999999999000 || outB l.br 0 1000000000000000) = true then 1 else if 1000 < l.en.length then 2 else FF (entA l.en l.ta) l.en.length

/-- What is known of any entry. -/
structure WfE (x : Ent) : Prop where
  ur : x.ur.size ≤ 1048576
  ke : x.ke.size ≤ 1048576
  mi : -9223372036854775808 ≤ x.mi ∧ x.mi ≤ 9223372036854775807
  da : -9223372036854775808 ≤ x.da ∧ x.da ≤ 9223372036854775807
  ex : x.ex.length ≤ 1048576
  es : ∀ s, s ∈ x.ex → s.size ≤ 1048576
structure WfLs (l : Lst) : Prop where
  ta : -9223372036854775808 ≤ l.ta ∧ l.ta ≤ 9223372036854775807
  fi : -9223372036854775808 ≤ l.fi ∧ l.fi ≤ 9223372036854775807
  br : -9223372036854775808 ≤ l.br ∧ l.br ≤ 9223372036854775807
  ln : l.en.length ≤ 1048576
  en : ∀ x, x ∈ l.en → WfE x
/-- What is known of an entry that is right. -/
structure GdE (x : Ent) : Prop where
  ur : x.ur.size ≤ 200
  mi : 1 ≤ x.mi ∧ x.mi ≤ 3600000
  da : -1 ≤ x.da ∧ x.da ≤ 253402300799999
  ke : x.ke.size ≤ 40
  ex : x.ex.length ≤ 20
  es : ∀ s, s ∈ x.ex → s.size ≤ 300
structure GdL (l : Lst) : Prop where
  ta : 1 ≤ l.ta ∧ l.ta ≤ 3600
  fi : 0 ≤ l.fi ∧ l.fi ≤ 999999999999000
  br : 0 ≤ l.br ∧ l.br ≤ 1000000000000000
  ln : l.en.length ≤ 1000
  en : ∀ x, x ∈ l.en → GdE x
theorem nameB_size {s : ByteArray} (h : nameB s = true) : s.size ≤ 40 := by
  unfold nameB at h
  simp only [Bool.and_eq_true, decide_eq_true_eq] at h
  exact h.1.1.2
theorem entF_zero {x : Ent} {ta : Int} (h : entF x ta = 0) : GdE x := by
  unfold entF at h
  split at h
  · rename_i h1; exact absurd h h1
  rename_i h1
  have h1 : uriF x.ur = 0 := Classical.not_not.1 h1
  split at h
  · cases h
  rename_i h2
  split at h
  · cases h
  split at h
  · cases h
  rename_i h4
  split at h
  · cases h
  rename_i h5
  split at h
  · cases h
  rename_i h6
  have hu : x.ur.size ≤ 200 := by
    unfold uriF at h1
    split at h1
    · cases h1
    · rename_i h7
      have := (outB_no' h7).2
      omega
  refine ⟨hu, outB_no' h2, outB_no' h4, ?_, by omega, fun s hs => ?_⟩
  · by_cases e : x.ke = ⟨#[]⟩
    · rw [e]; decide
    · cases hn : nameB x.ke
      · exact absurd ⟨e, hn⟩ h5
      · exact nameB_size hn
  · obtain ⟨i, hi⟩ := List.mem_iff_getElem?.1 hs
    have hl := (List.getElem?_eq_some_iff.1 hi).1
    have hz := FF_eq_zero h i hl
    unfold exA at hz
    rw [getD_of hi] at hz
    unfold exF at hz
    split at hz
    · cases hz
    · split at hz
      · cases hz
      · split at hz
        · cases hz
        · omega
theorem chkL_zero {l : Lst} (h : chkL l = 0) : GdL l := by
  unfold chkL at h
  split at h
  · cases h
  rename_i h1
  split at h
  · cases h
  rename_i h2
  simp only [Bool.or_eq_true, not_or] at h1
  refine ⟨outB_no' h1.1.1, outB_no' h1.1.2, outB_no' h1.2, by omega, fun x hx => ?_⟩
  obtain ⟨i, hi⟩ := List.mem_iff_getElem?.1 hx
  have hl := (List.getElem?_eq_some_iff.1 hi).1
  have hz := FF_eq_zero h i hl
  unfold entA at hz
  rw [getD_of hi] at hz
  exact entF_zero hz
end Go.Proofs.YtehbmnkbmgnkfaaGreatDoor

/- visible, uriFault, entryFault, Check of playlists. -/
namespace Go.Proofs.YtehbmnkbmgnkfaaGreatDoor
open Go.RowKit

set_option maxHeartbeats 1000000 in
theorem visible_any (s : ByteArray) (lo : Int) (w : World) (hs : s.size ≤ 9223372036854775807) :
    Calls Tryz.prog 48 #[.string s, .int .u8 lo] w fun e w' => e = .returned (.bool (visB s lo)) ∧ w = w' := by
  have HY := Lib.hid (@visB_yes s lo)
  have HN := Lib.hid (fun i h => @visB_no s lo i h)
  go_enter Tryz.func48, Tryz.ntmps48
  go_wp2_with fail
  go_loopg [8] s.size (fun gg s8 w' => ∃ kk : Nat, kk ≤ s.size ∧ s.size - kk ≤ gg ∧ s8 = .int .i64 kk ∧ Aside (∀ j, j < kk → visI lo (chr s j) = true) ∧ w = w')
  case atStart => exact ⟨0, Nat.zero_le _, by omega, by go_num, (fun j hj => absurd hj (Nat.not_lt_zero _)), rfl⟩
  case round =>
    obtain ⟨kk, hkk, hg, rfl, A, rfl⟩ := hrel
    have A := Lib.hid A.out
    by_cases hlt : kk < s.size
    · have hltz : (kk : Int) < (s.size : Int) := by omega
      have hc := chr_of hlt
      by_cases h1 : chr s kk < lo
      · have hv : Hid (false = visB s lo) := Lib.hid (HN.out kk hlt (by simp [visI]; omega)).symm
        go_wp2
        go_ret
        exact ⟨ret_bool hv.out, rfl⟩
      by_cases h2 : 126 < chr s kk
      · have hv : Hid (false = visB s lo) := Lib.hid (HN.out kk hlt (by simp [visI]; omega)).symm
        go_wp2
        go_ret
        exact ⟨ret_bool hv.out, rfl⟩
      have HQ : Hid (visI lo (chr s kk) = true) := Lib.hid (by simp [visI]; omega)
      go_wp2
      go_roundg (s.size - (kk + 1))
      case measure => omega
      case rel =>
        refine ⟨kk + 1, by omega, by omega, by go_num, (show Aside _ from fun j hj => ?_), rfl⟩
        by_cases e : j = kk
        · rw [e]; exact HQ.out
        · exact A.out j (by omega)
    · obtain rfl : kk = s.size := by omega
      have hltz : ¬ (s.size : Int) < (s.size : Int) := by omega
      have hv : Hid (true = visB s lo) := Lib.hid (HY.out A.out).symm
      go_wp2
      go_ret
      exact ⟨ret_bool hv.out, rfl⟩

set_option maxHeartbeats 1000000 in
theorem uriFault_any (s : ByteArray) (w : World) (hs : s.size ≤ 1048576) :
    Calls Tryz.prog 45 #[.string s] w fun e w' => e = .returned (.int .i64 (uriF s)) ∧ w = w' := by
  have HO := Lib.hid (out_any (s.size : Int) 1 200 w)
  have HV := Lib.hid (visible_any s 33 w (by omega))
  have HF : Hid (uriF s = if outB s.size 1 200 = true then 3 else if chr s 0 = 35 then 3 else if visB s 33 = false then 3 else 0) := Lib.hid rfl
  obtain ⟨F, hF⟩ : ∃ F, F = uriF s := ⟨_, rfl⟩
  rw [← hF] at HF ⊢
  clear hF
  cases ho : outB (s.size : Int) 1 200
  case true =>
    have hv : Hid (3 = F) := Lib.hid (by rw [HF.out, ho, if_pos rfl])
    rw [ho] at HO
    clear ho
    go_enter Tryz.func45, Tryz.ntmps45
    go_wp2_with (go_at_call 20; refine HO.out.mono ?_; rintro e w' ⟨rfl, rfl⟩)
    go_ret
    exact ⟨ret_int hv.out, rfl⟩
  case false =>
    have hp : 0 < s.size := by have := outB_no ho; omega
    have hpz : 0 < (s.size : Int) := by omega
    rw [ho, if_neg (by simp)] at HF
    rw [ho] at HO
    clear ho
    have hc0 := chr_of hp
    by_cases hl : chr s 0 = 35
    · have hv : Hid (3 = F) := Lib.hid (by rw [HF.out, if_pos hl])
      go_enter Tryz.func45, Tryz.ntmps45
      go_wp2_with (go_at_call 20; refine HO.out.mono ?_; rintro e w' ⟨rfl, rfl⟩)
      go_ret
      exact ⟨ret_int hv.out, rfl⟩
    · rw [if_neg hl] at HF
      cases hb : visB s 33
      · have hv : Hid (3 = F) := Lib.hid (by rw [HF.out, hb, if_pos rfl])
        rw [hb] at HV
        clear hb
        go_enter Tryz.func45, Tryz.ntmps45
        go_wp2_with (first | (go_at_call 20; (with_reducible refine HO.out.mono ?_); rintro e w' ⟨rfl, rfl⟩) | (go_at_call 48; (with_reducible refine HV.out.mono ?_); rintro e w' ⟨rfl, rfl⟩))
        go_ret
        exact ⟨ret_int hv.out, rfl⟩
      · have hv : Hid (0 = F) := Lib.hid (by rw [HF.out, hb, if_neg (by simp)])
        rw [hb] at HV
        clear hb
        go_enter Tryz.func45, Tryz.ntmps45
        go_wp2_with (first | (go_at_call 20; (with_reducible refine HO.out.mono ?_); rintro e w' ⟨rfl, rfl⟩) | (go_at_call 48; (with_reducible refine HV.out.mono ?_); rintro e w' ⟨rfl, rfl⟩))
        go_ret
        exact ⟨ret_int hv.out, rfl⟩

set_option maxRecDepth 100000 in
set_option maxHeartbeats 4000000 in
theorem entryFault_any (w : World) (x : Ent) (xv : Value) (ta : Int) (hx : Sl w 1 encS xv x.ex) (hw : WfE x) :
    Calls Tryz.prog 21 #[aggE x xv, .int .i64 ta] w fun e w' => e = .returned (.int .i64 (entF x ta)) ∧ Below w.heap.size w w' := by
  have HW := Lib.hid hw
  have HF : Hid (entF x ta = if uriF x.ur ≠ 0 then uriF x.ur else if outB x.mi 1 3600000 = true then 1 else if ta < (x.mi + 500) / 1000 then 2 else if outB x.da (-1) 253402300799999 = true then 1
    else if x.ke ≠ ⟨#[]⟩ ∧ nameB x.ke = false then 5 else if 20 < x.ex.length then 2 else FF (exA x.ex) x.ex.length) := Lib.hid rfl
  obtain ⟨F, hF⟩ : ∃ F, F = entF x ta := ⟨_, rfl⟩
  rw [← hF] at HF ⊢
  clear hF
  obtain ⟨ao, cap, rfl, hcap, hmax, hnil, hel⟩ := hx
  unfold maxLen at hmax
  obtain ⟨w1, hw1⟩ : ∃ w1, w1 = w.alloc (litE x (.slice ao x.ex.length cap)) := ⟨_, rfl⟩
  have HB1 : Hid (Below w.heap.size w w1) := Lib.hid (by rw [hw1]; exact (Below.refl _ w).alloc (Nat.le_refl _) _)
  have hcel : CellsE w1 w.heap.size 0 x (.slice ao x.ex.length cap) := by rw [hw1]; exact CellsE.new w x _
  have HW1 := Lib.hid hw1
  have HEL := Lib.hid hel
  have HU := Lib.hid (uriFault_any x.ur w1 hw.ur)
  have HM := Lib.hid (out_any x.mi 1 3600000 w1)
  have HD := Lib.hid (out_any x.da (-1) 253402300799999 w1)
  have HK := Lib.hid (isName_any x.ke w1 (by have := hw.ke; omega))
  have HBM := Lib.hid (@outB_no x.mi 1 3600000)
  have hkz := hw.ke
  clear hw1 hel hw hnil
  obtain ⟨c0, c1, c2, c3, c4, c5, c6⟩ := hcel
  simp only [Nat.zero_add] at c1 c2 c3 c4 c5 c6
  generalize uriF x.ur = U at HU HF
  generalize outB x.mi 1 3600000 = OM at HM HBM HF
  generalize outB x.da (-1) 253402300799999 = OD at HD HF
  generalize nameB x.ke = NK at HK HF
  go_enter Tryz.func21, Tryz.ntmps21
  go_upto_region 1 with (fail)
  rw [← HW1.out]
  clear HW1
  by_cases hU : U = 0
  rotate_left
  next =>
    have hv : Hid (U = F) := Lib.hid (by rw [HF.out, if_pos hU])
    go_wp2_with (go_at_call 45; (with_reducible refine HU.out.mono ?_); rintro e w' ⟨rfl, rfl⟩)
    go_ret
    exact ⟨ret_int hv.out, HB1.out⟩
  rw [if_neg (by rw [hU]; simp)] at HF
  subst hU
  go_wp2_with (go_at_call 45; (with_reducible refine HU.out.mono ?_); rintro e w' ⟨rfl, rfl⟩)
  cases OM
  rotate_left
  next =>
    have hv : Hid (1 = F) := Lib.hid (by rw [HF.out, if_pos rfl])
    go_wp2_with (go_at_call 20; (with_reducible refine HM.out.mono ?_); rintro e w' ⟨rfl, rfl⟩)
    go_ret
    exact ⟨ret_int hv.out, HB1.out⟩
  rw [if_neg (by simp)] at HF
  obtain ⟨hm1, hm2⟩ := HBM.out rfl
  clear HBM
  by_cases hq : ta < (x.mi + 500) / 1000
  · have hv : Hid (2 = F) := Lib.hid (by rw [HF.out, if_pos hq])
    go_wp2_with (go_at_call 20; (with_reducible refine HM.out.mono ?_); rintro e w' ⟨rfl, rfl⟩)
    go_ret
    exact ⟨ret_int hv.out, HB1.out⟩
  rw [if_neg hq] at HF
  go_wp2_with (go_at_call 20; (with_reducible refine HM.out.mono ?_); rintro e w' ⟨rfl, rfl⟩)
  clear hq hm1 hm2
  cases OD
  rotate_left
  next =>
    have hv : Hid (1 = F) := Lib.hid (by rw [HF.out, if_pos rfl])
    go_wp2_with (go_at_call 20; (with_reducible refine HD.out.mono ?_); rintro e w' ⟨rfl, rfl⟩)
    go_ret
    exact ⟨ret_int hv.out, HB1.out⟩
  rw [if_neg (by simp)] at HF
  obtain ⟨kq, hkq⟩ : ∃ kq : Bool, kq = (decide (x.ke ≠ ⟨#[]⟩) && !NK) := ⟨_, rfl⟩
  have HKQ := Lib.hid hkq
  have HF : Hid (F = if kq = true then 5 else if 20 < x.ex.length then 2 else FF (exA x.ex) x.ex.length) := Lib.hid (by rw [HF.out, hkq]; simp)
  clear hkq
  go_upto_region 10 with (go_at_call 20; (with_reducible refine HD.out.mono ?_); rintro e w' ⟨rfl, rfl⟩)
  clear HD
  go_cut [29] (fun s w2 => s = .bool kq ∧ w1 = w2)
  case first =>
    by_cases hke : x.ke = ⟨#[]⟩
    · have hk0 : kq = false := by rw [HKQ.out, hke]; simp
      subst hk0
      rw [hke] at c4
      go_wp2_with fail
      go_meet
      exact ⟨rfl, rfl⟩
    · obtain ⟨f1, f2, f3⟩ := str_emp hke
      have hk0 : kq = !NK := by rw [HKQ.out, decide_eq_true hke]; simp
      subst hk0
      clear hke
      go_wp2_with (go_at_call 46; (with_reducible refine HK.out.mono ?_); rintro e w' ⟨rfl, rfl⟩)
      go_meet
      exact ⟨rfl, rfl⟩
  obtain ⟨rfl, rfl⟩ := hcut
  clear HKQ HK
  cases kq
  case true =>
    have hv : Hid (5 = F) := Lib.hid (by rw [HF.out, if_pos rfl])
    go_wp2_with fail
    go_ret
    exact ⟨ret_int hv.out, HB1.out⟩
  rw [if_neg (by simp)] at HF
  by_cases hbig : 20 < x.ex.length
  · have hv : Hid (2 = F) := Lib.hid (by rw [HF.out, if_pos hbig])
    have hbz : (20 : Int) < (x.ex.length : Int) := by omega
    go_wp2_with fail
    go_ret
    exact ⟨ret_int hv.out, HB1.out⟩
  rw [if_neg hbig] at HF
  have hbz : ¬ (20 : Int) < (x.ex.length : Int) := by omega
  have hlz : (x.ex.length : Int) ≤ 20 := by omega
  go_wp2_with fail
  go_loopg [47] x.ex.length (fun gg s47 wr => ∃ kk : Nat, kk ≤ x.ex.length ∧ x.ex.length - kk ≤ gg ∧ s47 = .int .i64 kk ∧ Aside (∀ j, j < kk → exA x.ex j = 0) ∧ w1 = wr)
  case atStart => exact ⟨0, Nat.zero_le _, by omega, by go_num, (fun j hj => absurd hj (Nat.not_lt_zero _)), rfl⟩
  case round =>
    obtain ⟨kk, hkk, hg, rfl, AZ, rfl⟩ := hrel
    have HAZ := Lib.hid AZ.out
    clear AZ
    by_cases hlt : kk < x.ex.length
    · have hltz : (kk : Int) < (x.ex.length : Int) := by omega
      obtain ⟨s, hs⟩ : ∃ s, x.ex[kk]? = some s := ⟨x.ex[kk], by simp [hlt]⟩
      obtain ⟨b, off, rfl, hc⟩ := HEL.out kk s hs
      have hlt0 := World.block_lt_of_cell? w ⟨b, off + kk * 1 + 0, none⟩ (hc 0 _ rfl)
      have e0 : w1.cell? ⟨b, off + kk, none⟩ = some (.string s) := by
        have := (HB1.out.cell (p := ⟨b, off + kk * 1 + 0, none⟩) hlt0).trans (hc 0 _ rfl)
        rwa [Nat.mul_one, Nat.add_zero] at this
      have hsz := HW.out.es s (List.mem_of_getElem? hs)
      have HE : Hid (exA x.ex kk = exF s) := Lib.hid (by unfold exA; rw [getD_of hs])
      have HFN : Hid (exF s ≠ 0 → F = exF s) := Lib.hid (fun h => by rw [HF.out, FF_hit hlt HAZ.out (by rw [HE.out]; exact h), HE.out])
      have HA1 : Hid (exF s = 0 → ∀ j, j < kk + 1 → exA x.ex j = 0) := Lib.hid (fun h j hj => by
        by_cases e : j = kk
        · rw [e, HE.out]; exact h
        · exact HAZ.out j (by omega))
      have HEF : Hid (exF s = if hpX s = false then 3 else if visB s 32 = false then 3 else if 300 < s.size then 2 else 0) := Lib.hid rfl
      have HHP : Hid (Calls Tryz.prog 47 #[.string s, .string ⟨#[35, 88]⟩] w1 fun e w' => e = .returned (.bool (hpX s)) ∧ w1 = w') := Lib.hid ((Tryz.strings_HasPrefix s ⟨#[35, 88]⟩ w1).mono fun _ _ h => ⟨h.1, h.2.symm⟩)
      have HV := Lib.hid (visible_any s 32 w1 (by omega))
      generalize exF s = G at HE HFN HA1 HEF
      generalize hpX s = hp at HHP HEF
      generalize visB s 32 = vb at HV HEF
      clear hs hc hlt0
      obtain ⟨bq, hbq⟩ : ∃ bq : Bool, bq = !(hp && vb) := ⟨_, rfl⟩
      have HBQ := Lib.hid hbq
      have HEF : Hid (G = if bq = true then 3 else if 300 < s.size then 2 else 0) := Lib.hid (by rw [HEF.out, hbq]; cases hp <;> cases vb <;> simp)
      clear hbq
      go_upto_region 17 with (fail)
      go_cut [51] (fun t w2 => t = .bool bq ∧ w1 = w2)
      case first =>
        cases hp
        · have hk0 : bq = true := by rw [HBQ.out]; rfl
          subst hk0
          go_wp2_with (go_at_call 47; (with_reducible refine HHP.out.mono ?_); rintro e w' ⟨rfl, rfl⟩)
          go_meet
          exact ⟨rfl, rfl⟩
        · have hk0 : bq = !vb := by rw [HBQ.out]; simp
          subst hk0
          go_wp2_with (first | (go_at_call 47; (with_reducible refine HHP.out.mono ?_); rintro e w' ⟨rfl, rfl⟩) | (go_at_call 48; (with_reducible refine HV.out.mono ?_); rintro e w' ⟨rfl, rfl⟩))
          go_meet
          exact ⟨rfl, rfl⟩
      obtain ⟨rfl, rfl⟩ := hcut
      clear HBQ HHP HV
      cases bq
      case true =>
        have hv : Hid (3 = F) := Lib.hid (by have hG : G = 3 := by rw [HEF.out, if_pos rfl]
                                             rw [HFN.out (by rw [hG]; simp), hG])
        go_wp2_with fail
        go_ret
        exact ⟨ret_int hv.out, HB1.out⟩
      rw [if_neg (by simp)] at HEF
      by_cases hl : 300 < s.size
      · have hv : Hid (2 = F) := Lib.hid (by have hG : G = 2 := by rw [HEF.out, if_pos hl]
                                             rw [HFN.out (by rw [hG]; simp), hG])
        have hlq : (300 : Int) < (s.size : Int) := by omega
        go_wp2_with fail
        go_ret
        exact ⟨ret_int hv.out, HB1.out⟩
      · have HA2 := Lib.hid (HA1.out (by rw [HEF.out, if_neg hl]))
        have hlq : ¬ (300 : Int) < (s.size : Int) := by omega
        go_wp2_with fail
        go_roundg (x.ex.length - (kk + 1))
        case measure => omega
        case rel => exact ⟨kk + 1, by omega, by omega, by go_num, HA2.out, rfl⟩
    · obtain rfl : kk = x.ex.length := by omega
      have hltz : ¬ (x.ex.length : Int) < (x.ex.length : Int) := by omega
      have hv : Hid (0 = F) := Lib.hid (by rw [HF.out, FF_zero HAZ.out])
      go_wp2_with fail
      go_ret
      exact ⟨ret_int hv.out, HB1.out⟩

set_option maxRecDepth 100000 in
set_option maxHeartbeats 4000000 in
theorem chkLs_any (w : World) (l : Lst) (v : Value) (hl : EnS w v l.en) (hw : WfLs l) :
    Calls Tryz.prog 9 #[agLs l v] w fun e w' => e = .returned (.int .i64 (chkL l)) ∧ Below w.heap.size w w' := by
  have HW := Lib.hid hw
  obtain ⟨bq, hbq⟩ : ∃ bq, bq = (outB l.ta 1 3600 || outB l.fi 0 999999999999000 || outB l.br 0 1000000000000000) := ⟨_, rfl⟩
  have HBQ := Lib.hid hbq
  have HF : Hid (chkL l = if bq = true then 1 else if 1000 < l.en.length then 2 else FF (entA l.en l.ta) l.en.length) := Lib.hid (by rw [hbq]; rfl)
  obtain ⟨F, hF⟩ : ∃ F, F = chkL l := ⟨_, rfl⟩
  rw [← hF] at HF ⊢
  clear hF hbq
  obtain ⟨ao, cap, rfl, hcap, hmax, hnil, hel⟩ := hl.op
  unfold maxLen at hmax
  obtain ⟨w1, hw1⟩ : ∃ w1, w1 = w.alloc (litL l (.slice ao l.en.length cap)) := ⟨_, rfl⟩
  have HB1 : Hid (Below w.heap.size w w1) := Lib.hid (by rw [hw1]; exact (Below.refl _ w).alloc (Nat.le_refl _) _)
  have hblk : w1.heap[w.heap.size]? = some (.cells #[.int .i64 l.ta, .int .i64 l.fi, .int .i64 l.br, .slice ao l.en.length cap, .bool l.ed] 24 (0, 0)) := by rw [hw1]; exact block_new w _
  have HBLK := Lib.hid hblk
  have c0 : w1.cell? ⟨w.heap.size, 0, none⟩ = some (.int .i64 l.ta) := (cell_of_block (i := 0) hblk).trans rfl
  have c1 : w1.cell? ⟨w.heap.size, 1, none⟩ = some (.int .i64 l.fi) := (cell_of_block (i := 1) hblk).trans rfl
  have c2 : w1.cell? ⟨w.heap.size, 2, none⟩ = some (.int .i64 l.br) := (cell_of_block (i := 2) hblk).trans rfl
  have c3 : w1.cell? ⟨w.heap.size, 3, none⟩ = some (.slice ao l.en.length cap) := (cell_of_block (i := 3) hblk).trans rfl
  have HW1 := Lib.hid hw1
  have HEL := Lib.hid hel
  have HT := Lib.hid (out_any l.ta 1 3600 w1)
  have HI := Lib.hid (out_any l.fi 0 999999999999000 w1)
  have HR := Lib.hid (out_any l.br 0 1000000000000000 w1)
  clear hw1 hel hw hnil hblk hl
  generalize outB l.ta 1 3600 = o1 at HT HBQ
  generalize outB l.fi 0 999999999999000 = o2 at HI HBQ
  generalize outB l.br 0 1000000000000000 = o3 at HR HBQ
  go_enter Tryz.func9, Tryz.ntmps9
  go_upto_region 1 with (fail)
  rw [← HW1.out]
  clear HW1
  go_cut [6] (fun s w2 => s = .bool bq ∧ w1 = w2)
  case first =>
    cases o1 <;> cases o2
    all_goals
      go_wp2_with (go_at_call 20; first | (with_reducible refine HT.out.mono ?_); rintro e w' ⟨rfl, rfl⟩ | (with_reducible refine HI.out.mono ?_); rintro e w' ⟨rfl, rfl⟩ | (with_reducible refine HR.out.mono ?_); rintro e w' ⟨rfl, rfl⟩)
      go_meet
      exact ⟨by rw [HBQ.out]; simp, rfl⟩
  obtain ⟨rfl, rfl⟩ := hcut
  clear HBQ HT HI HR
  cases bq
  case true =>
    have hv : Hid (1 = F) := Lib.hid (by rw [HF.out, if_pos rfl])
    go_wp2_with fail
    go_ret
    exact ⟨ret_int hv.out, HB1.out⟩
  rw [if_neg (by simp)] at HF
  by_cases hbig : 1000 < l.en.length
  · have hv : Hid (2 = F) := Lib.hid (by rw [HF.out, if_pos hbig])
    have hbz : (1000 : Int) < (l.en.length : Int) := by omega
    go_wp2_with fail
    go_ret
    exact ⟨ret_int hv.out, HB1.out⟩
  rw [if_neg hbig] at HF
  have hbz : ¬ (1000 : Int) < (l.en.length : Int) := by omega
  have hlz : (l.en.length : Int) ≤ 1000 := by omega
  go_wp2_with fail
  clear c0 c1 c2 c3
  go_loopg [28] l.en.length (fun gg s28 wr => ∃ kk : Nat, kk ≤ l.en.length ∧ l.en.length - kk ≤ gg ∧ s28 = .int .i64 kk ∧ Aside (∀ j, j < kk → entA l.en l.ta j = 0) ∧ Aside (Below w1.heap.size w1 wr))
  case atStart => exact ⟨0, Nat.zero_le _, by omega, by go_num, (fun j hj => absurd hj (Nat.not_lt_zero _)), Below.refl _ _⟩
  case round =>
    obtain ⟨kk, hkk, hg, rfl, AZ, BW⟩ := hrel
    have HAZ := Lib.hid AZ.out
    have HBW := Lib.hid BW.out
    have HB2 := Lib.hid (HB1.out.thru BW.out)
    clear AZ BW
    by_cases hlt : kk < l.en.length
    · have hltz : (kk : Int) < (l.en.length : Int) := by omega
      obtain ⟨x, hx⟩ : ∃ x, l.en[kk]? = some x := ⟨l.en[kk], by simp [hlt]⟩
      obtain ⟨b, off, xv, rfl, hce, hxs⟩ := HEL.out kk x hx
      obtain ⟨xa, xc, hxv, -, -, -, -⟩ := id hxs
      subst hxv
      obtain ⟨c0, c1, c2, c3, c4, c5, c6⟩ := hce.below HB2.out
      have hlb := Nat.lt_of_lt_of_le (lt_of_blk HBLK.out) HBW.out.size
      have hblk := (HBW.out.block _ (lt_of_blk HBLK.out)).trans HBLK.out
      have HB3 := Lib.hid (HB2.out.alloc HB2.out.size (litE x (.slice xa x.ex.length xc)))
      have HBN : Hid (Below w1.heap.size w1 (wr.alloc (litE x (.slice xa x.ex.length xc)))) := Lib.hid (HBW.out.alloc HBW.out.size _)
      have t0 : (wr.alloc (litE x (.slice xa x.ex.length xc))).cell? ⟨w.heap.size, 0, none⟩ = some (.int .i64 l.ta) := (cell_of_block (i := 0) (((Below.refl _ wr).alloc (Nat.le_refl _) (litE x (.slice xa x.ex.length xc))).block _ hlb |>.trans hblk)).trans rfl
      have HE := Lib.hid (entryFault_any (wr.alloc (litE x (.slice xa x.ex.length xc))) x (.slice xa x.ex.length xc) l.ta (hxs.below HB3.out (Nat.le_refl _)) (HW.out.en x (List.mem_of_getElem? hx)))
      have HEA : Hid (entA l.en l.ta kk = entF x l.ta) := Lib.hid (by unfold entA; rw [getD_of hx])
      have HFN : Hid (entF x l.ta ≠ 0 → F = entF x l.ta) := Lib.hid (fun h => by rw [HF.out, FF_hit hlt HAZ.out (by rw [HEA.out]; exact h), HEA.out])
      have HA1 : Hid (entF x l.ta = 0 → ∀ j, j < kk + 1 → entA l.en l.ta j = 0) := Lib.hid (fun h j hj => by
        by_cases e : j = kk
        · rw [e, HEA.out]; exact h
        · exact HAZ.out j (by omega))
      generalize entF x l.ta = G at HE HEA HFN HA1
      clear hx hce hxs hblk
      by_cases hG : G = 0
      rotate_left
      next =>
        have hv : Hid (G = F) := Lib.hid (HFN.out hG).symm
        go_wp2_with (go_at_call 21; (with_reducible refine HE.out.mono ?_); rintro e w5 ⟨rfl, hb5⟩; have HB5 := Lib.hid hb5; clear hb5)
        go_ret
        exact ⟨ret_int hv.out, HB3.out.thru HB5.out⟩
      have HA2 := Lib.hid (HA1.out hG)
      subst hG
      go_wp2_with (go_at_call 21; (with_reducible refine HE.out.mono ?_); rintro e w5 ⟨rfl, hb5⟩; have HB5 := Lib.hid hb5; clear hb5)
      go_roundg (l.en.length - (kk + 1))
      case measure => omega
      case rel => exact ⟨kk + 1, by omega, by omega, by go_num, HA2.out, HBN.out.thru HB5.out⟩
    · obtain rfl : kk = l.en.length := by omega
      have hltz : ¬ (l.en.length : Int) < (l.en.length : Int) := by omega
      have hv : Hid (0 = F) := Lib.hid (by rw [HF.out, FF_zero HAZ.out])
      go_wp2_with fail
      go_ret
      exact ⟨ret_int hv.out, HB2.out⟩
end Go.Proofs.YtehbmnkbmgnkfaaGreatDoor

/- append of a slice in a guarded place. -/
namespace Go.Proofs.YtehbmnkbmgnkfaaGreatDoor
open Go.RowKit

/-- append in a guarded place. -/
theorem wpList_extendG {α : Type} {P : Program} {ops : Array Oper} {rest : List Oper} {o : Oper} {a : Act} {Q : Exit → Act → World → Prop} (hgd : Region.wanted o (yielded ops a.tmps) = true) (s x : Operand) (t : TypeId)
    (ho : o.op = .call { callee := .builtin .append, args := #[s, x], argTypes := #[t, t] })
    {E : TypeId} {k bytes : Nat} (hT : SlT P t E k bytes) {enc : α → List Value} (hk : ∀ x, (enc x).length = k) (h1 : ∀ y, (enc y).all Value.oneCell' = true) {base : Nat} {v u : Value} {l m : List α} {W : World} (hs : a.eval s = v)
    (hx : a.eval x = u) (hown : Own W base E k enc v l) (hm : Sl W k enc u m) (hn : (l.length + m.length) * bytes ≤ 140737488355328) (hbase : base ≤ W.heap.size)
    (h : ∀ v' w', Own w' base E k enc v' (l ++ m) → Below base W w' → wpList P ops Q rest (a.put o.dst v') w') : wpList P ops Q (o :: rest) a W := by
  have key := wpList_extend (P := P) (ops := ops) (rest := rest) (o := { o with guard := none }) (a := a) (Q := Q) rfl s x t ho hT hk h1 hs hx hown hm hn hbase h
  unfold wpList at key ⊢
  rw [if_pos hgd]
  rw [if_pos (by simp [Region.wanted])] at key
  exact key
end Go.Proofs.YtehbmnkbmgnkfaaGreatDoor

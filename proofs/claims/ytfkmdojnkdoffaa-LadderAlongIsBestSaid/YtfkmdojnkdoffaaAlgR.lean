/- Along of the reference: the walk. -/
import Derived.Test.YtfkmdojnkdoffaaAlgW
import Derived.Test.YtfkmdojnkdoffaaWofW
import Derived.Deep.RegionHeld3
namespace Go.Proofs.Ytfkmdojnkdoffaa
open Go.RowKit

/-- The gain after p rounds; the value under way. -/
def gP (l : List Rng) (c : List Vw) : Nat → Nat → Int
  | 0 => fun _ => 0
  | p + 1 => gnF l c p
def gS (l : List Rng) (c : List Vw) (p i k : Nat) : Int := match p with
  | 0 => wg c (raA l i) 1000000001 * quA l i
  | p + 1 => gnB l c (gnF l c p) i k
theorem gS_end (l : List Rng) (c : List Vw) (p i : Nat) : gS l c p i l.length = gnF l c p i := by cases p <;> rfl
theorem gnB_low (l : List Rng) (c : List Vw) (last : Nat → Int) (i : Nat) : ∀ m, m ≤ i + 1 → gnB l c last i m = wg c (raA l i) 1000000001 * quA l i
  | 0, _ => rfl
  | m + 1, h => by
    show gnT l c last i m (gnB l c last i m) = _
    rw [gnB_low l c last i m (by omega)]
    unfold gnT
    rw [if_neg (by omega)]
theorem gS_start (l : List Rng) (c : List Vw) (p i : Nat) : gS l c p i (i + 1) = wg c (raA l i) 1000000001 * quA l i := by
  cases p with
  | zero => rfl
  | succ p => exact gnB_low l c _ i (i + 1) (Nat.le_refl _)
theorem gS_next {l : List Rng} {c : List Vw} {p i k : Nat} (hik : i < k) : gS l c p i (k + 1) = if ¬ (quA l k ≤ quA l i ∨ raA l k = raA l i) ∧ gS l c p i k < wg c (raA l i) (raA l k) * quA l i + gP l c p k ∧ 0 < p then wg c (raA l i) (raA l k) * quA l i + gP l c p k else gS l c p i k := by
  cases p with
  | zero => rw [if_neg (fun h => absurd h.2.2 (Nat.lt_irrefl _))]; rfl
  | succ p =>
    by_cases h : ¬ (quA l k ≤ quA l i ∨ raA l k = raA l i) ∧ gnB l c (gnF l c p) i k < wg c (raA l i) (raA l k) * quA l i + gnF l c p k
    · exact (if_pos ⟨hik, h⟩).trans (if_pos ⟨h.1, h.2, by omega⟩).symm
    · exact (if_neg (fun h2 => h h2.2)).trans (if_neg (fun h2 => h ⟨h2.1, h2.2.1⟩)).symm
theorem base_bd {l : List Rng} {c : List Vw} (h : QuOk l) (hc : ∀ v, v ∈ c → 1 ≤ v.we ∧ v.we ≤ 1000000) (hl : c.length ≤ 200) {i : Nat} (hi : i < l.length) (lo hi2 : Int) : 0 ≤ wg c lo hi2 * quA l i ∧ wg c lo hi2 * quA l i ≤ 200000000000000 := by
  obtain ⟨h1, h2⟩ := quA_bd h hi
  obtain ⟨h3, h4⟩ := wg_bd (lo := lo) (hi := hi2) hc hl
  have := prod_bd h3 h4 h1 h2
  exact this
theorem gP_bd {l : List Rng} {c : List Vw} (h : QuOk l) (hc : ∀ v, v ∈ c → 1 ≤ v.we ∧ v.we ≤ 1000000) (hl : c.length ≤ 200) {p : Nat} (hp : p ≤ 100) {k : Nat} (hk : k < l.length) : 0 ≤ gP l c p k ∧ gP l c p k ≤ 20200000000000000 := by
  cases p with
  | zero => exact ⟨Int.le_refl 0, by show (0 : Int) ≤ _; omega⟩
  | succ p =>
    have h1 := gnF_le l c p k hk
    have h2 := (layF_bd h hc hl p k hk).2
    have h3 := gnF_up' l c hk (Nat.zero_le p)
    have h4 : 0 ≤ gnF l c 0 k := (base_bd h hc hl hk (raA l k) 1000000001).1
    show 0 ≤ gnF l c p k ∧ gnF l c p k ≤ _
    omega
theorem gS_bd {l : List Rng} {c : List Vw} (h : QuOk l) (hc : ∀ v, v ∈ c → 1 ≤ v.we ∧ v.we ≤ 1000000) (hl : c.length ≤ 200) {p : Nat} (hp : p ≤ 99) {i : Nat} (hi : i < l.length) {k : Nat} (hk : k ≤ l.length) : 0 ≤ gS l c p i k ∧ gS l c p i k ≤ 20200000000000000 := by
  have hb := base_bd h hc hl hi (raA l i) 1000000001
  cases p with
  | zero => show 0 ≤ wg c (raA l i) 1000000001 * quA l i ∧ wg c (raA l i) 1000000001 * quA l i ≤ _; omega
  | succ p =>
    have h1 := gnB_mono' l c (gnF l c p) i (Nat.zero_le k)
    have h2 := gnB_mono' l c (gnF l c p) i hk
    have h3 : gnB l c (gnF l c p) i l.length ≤ 20200000000000000 := (gP_bd h hc hl (p := p + 2) (by omega) hi).2
    have h0 : gnB l c (gnF l c p) i 0 = wg c (raA l i) 1000000001 * quA l i := rfl
    show 0 ≤ gnB l c (gnF l c p) i k ∧ gnB l c (gnF l c p) i k ≤ _
    omega
theorem rfN_gP (l : List Rng) (c : List Vw) (R : Nat) : rfN l c R = (topG (gP l c R) l.length).2 := by
  cases R with
  | zero =>
    have : ∀ n, topG (gP l c 0) n = (-1, 0) := by
      intro n
      induction n with
      | zero => rfl
      | succ n ih =>
        unfold topG
        rw [ih, if_neg (fun h => absurd h.1 (by show ¬ (0 : Int) < 0; omega))]
    rw [this]
    rfl
  | succ R => rfl
/-- An array of ints in a block: the first n say f. -/
def Gain (W : World) (b n : Nat) (f : Nat → Int) : Prop := ∃ m, Arr W b m ∧ ∀ k, k < n → m[k]? = some (f k)
/-- The ways that are kept. -/
def Ways (W : World) (p n : Nat) (LV : List Value) : Prop := LV.length = p ∧ ∀ j, j < p → ∃ b m, LV[j]? = some (.slice (some ⟨b, 0, none⟩) n n) ∧ Arr W b m ∧ m.length = n ∧ ∀ x, x ∈ m → -1 ≤ x ∧ x < (n : Int)
theorem Gain.belowB {W W' : World} {b n B : Nat} {f : Nat → Int} (h : Gain W b n f) (hb : Below B W W') (hB : W.heap.size ≤ B) : Gain W' b n f := by
  obtain ⟨m, h1, h2⟩ := h
  exact ⟨m, h1.belowB hb (Nat.lt_of_lt_of_le h1.lt hB), h2⟩
theorem Ways.belowB {W W' : World} {p n B : Nat} {LV : List Value} (h : Ways W p n LV) (hb : Below B W W') (hB : W.heap.size ≤ B) : Ways W' p n LV := ⟨h.1, fun j hj => by
  obtain ⟨b, m, h1, h2, h3⟩ := h.2 j hj
  exact ⟨b, m, h1, h2.belowB hb (Nat.lt_of_lt_of_le h2.lt hB), h3⟩⟩
theorem Gain.keepT {W W' : World} {b n : Nat} {f : Nat → Int} {E : TypeId} (h : Gain W b n f) (hk : KeepT E W W') (hne : 3 ≠ E) : Gain W' b n f := by
  obtain ⟨m, h1, h2⟩ := h
  exact ⟨m, hk _ _ _ _ h1 hne, h2⟩
theorem Ways.keepT {W W' : World} {p n : Nat} {LV : List Value} {E : TypeId} (h : Ways W p n LV) (hk : KeepT E W W') (hne : 3 ≠ E) : Ways W' p n LV := ⟨h.1, fun j hj => by
  obtain ⟨b, m, h1, h2, h3⟩ := h.2 j hj
  exact ⟨b, m, h1, hk _ _ _ _ h2 hne, h3⟩⟩
theorem Ways.add {W : World} {p n b : Nat} {LV : List Value} {m : List Int} (h : Ways W p n LV) (h2 : Arr W b m) (h3 : m.length = n) (h4 : ∀ x, x ∈ m → -1 ≤ x ∧ x < (n : Int)) : Ways W (p + 1) n (LV ++ [.slice (some ⟨b, 0, none⟩) n n]) := by
  refine ⟨by simp [h.1], fun j hj => ?_⟩
  by_cases e : j < p
  · obtain ⟨b', m', g1, g2⟩ := h.2 j e
    exact ⟨b', m', by rw [List.getElem?_append_left (by rw [h.1]; exact e)]; exact g1, g2⟩
  · obtain rfl : j = p := by omega
    exact ⟨b, m, by rw [List.getElem?_append_right (by rw [h.1]; exact Nat.le_refl _), h.1, Nat.sub_self]; rfl, h2, h3, h4⟩
theorem two_made (w : World) (m : List Int) : Arr ((w.alloc (.cells (m.map (Value.int .i64)).toArray 3)).alloc (.cells (m.map (Value.int .i64)).toArray 3)) w.heap.size m ∧
    Arr ((w.alloc (.cells (m.map (Value.int .i64)).toArray 3)).alloc (.cells (m.map (Value.int .i64)).toArray 3)) (w.heap.size + 1) m := by
  refine ⟨(Arr.made w m).below ((Below.refl _ _).alloc (Nat.le_refl _) _), ?_⟩
  have h := Arr.made (w.alloc (.cells (m.map (Value.int .i64)).toArray 3)) m
  rwa [show (w.alloc (.cells (m.map (Value.int .i64)).toArray 3)).heap.size = w.heap.size + 1 by simp] at h
theorem zeros_eq (n : Nat) : ((List.replicate n (0 : Int)).map (Value.int .i64)).toArray = Array.replicate n (Value.int .i64 0) := by simp
/-- Numbers that are places or none. -/
def WOk (n : Nat) (m : List Int) : Prop := m.length = n ∧ ∀ x, x ∈ m → -1 ≤ x ∧ x < (n : Int)
theorem WOk.set {n : Nat} {m : List Int} (h : WOk n m) (i : Nat) {y : Int} (h1 : -1 ≤ y) (h2 : y < n) : WOk n (m.set i y) := ⟨by simp [h.1], fun x hx => by
  rcases List.mem_or_eq_of_mem_set hx with h3 | rfl
  · exact h.2 x h3
  · exact ⟨h1, h2⟩⟩
theorem slSI : SlT Try.prog 60 24 1 24 := by
  obtain ⟨i0, hi, hz0, hz1, hz2⟩ := info_parts infoSI
  exact ⟨i0, _, Try.underlying60, hi, hz0, hz1, hz2, rfl, by decide, by decide⟩
def AlrP (w : World) (l : List Rng) (c : List Vw) (m : Int) : Ending → World → Prop := fun e w' => ∃ v, e = .returned (.tuple #[v, .int .i64 (algN l c m), .int .i64 (algF l c m)]) ∧ Below w.heap.size w w'
theorem AlrP.mk {w w' : World} {l : List Rng} {c : List Vw} {m a f : Int} {v : Value} (ha : a = algN l c m) (hf : f = algF l c m) (hb : Below w.heap.size w w') : AlrP w l c m (.returned (.tuple #[v, .int .i64 a, .int .i64 f])) w' := ⟨v, by rw [ha, hf], hb⟩
set_option maxRecDepth 100000 in
set_option maxHeartbeats 4000000 in
theorem AlongR_any (w : World) (l : List Rng) (u : Value) (c : List Vw) (v : Value) (m : Int) (hl : Sl w 4 encR u l) (hw : ∀ x, x ∈ l → WfR x) (hc : Sl w 3 encV v c) :
    Calls Try.prog 11 #[u, v, .int .i64 m] w (AlrP w l c m) := by
  have HR := Lib.hid (both_any w l u c v hl hw hc)
  have HFF := Lib.hid (show algF l c m = if checkRV l c ≠ 0 then checkRV l c else if outB m 0 100 = true then 1 else 0 from rfl)
  have HNO := Lib.hid (fun (h : algF l c m ≠ 0) => show algN l c m = 0 from by unfold algN; rw [if_neg h])
  have HYES := Lib.hid (fun (h : algF l c m = 0) => show algN l c m = alN l c m.toNat from by unfold algN; rw [if_pos h])
  have HZ := Lib.hid (fun (h : checkRV l c = 0) => And.intro (checkR_zero (checkRV_zero h).1) (And.intro (checkV_zero (checkRV_zero h).2) (srtR_of (checkRV_zero h).1)))
  have HCW := Lib.hid (fun (h : c.length ≤ 200) (hv : ∀ v, v ∈ c → 1 ≤ v.we ∧ v.we ≤ 1000000) (W : World) (hb : Below w.heap.size w W) (lo hi : Int) => weightOf_any W c v lo hi (hc.below hb (Nat.le_refl _)) h hv)
  obtain ⟨r, hr⟩ : ∃ r, r = checkRV l c := ⟨_, rfl⟩
  rw [← hr] at HR HFF HZ
  obtain ⟨ao, cap, rfl, hcap, hmax, _, hel⟩ := hl
  unfold maxLen at hmax
  have HEL := Lib.hid hel
  clear hel hw hc hr
  go_enter Try.func11, Try.ntmps11
  go_upto_region 2 with (go_at_call 24; refine HR.out.mono ?_; rintro e w1 ⟨rfl, hb⟩; have HB1 := Lib.hid hb; clear hb)
  cases e1 : (r != 0)
  case true =>
    have hr0 : r ≠ 0 := by simpa using e1
    have hf : Hid (r = algF l c m) := Lib.hid (by rw [HFF.out, if_pos hr0])
    have HN1 := Lib.hid (HNO.out (by rw [← hf.out]; exact hr0))
    go_wp2
    go_ret3
    exact AlrP.mk HN1.out.symm hf.out HB1.out
  have hr0 : r = 0 := by simpa using e1
  subst hr0
  clear e1
  cases o1 : outB m 0 100
  case true =>
    have hf : Hid (1 = algF l c m) := Lib.hid (by rw [HFF.out, if_neg (by simp), if_pos o1])
    have HN1 := Lib.hid (HNO.out (by rw [← hf.out]; simp))
    go_wp2_with (go_at_call 25; refine (within5_any _ _ _ _).mono ?_; rintro e w' ⟨rfl, rfl⟩)
    go_ret3
    exact AlrP.mk HN1.out.symm hf.out HB1.out
  have hf : Hid (0 = algF l c m) := Lib.hid (by rw [HFF.out, if_neg (by simp), if_neg (by simp [o1])])
  have hm := outB_no' (show ¬ outB m 0 100 = true by rw [o1]; simp)
  obtain ⟨⟨hn100, _, hx⟩, ⟨hc200, hcv⟩, hsrt⟩ := HZ.out rfl
  obtain ⟨M, rfl⟩ : ∃ M : Nat, m = (M : Int) := ⟨m.toNat, by omega⟩
  obtain ⟨R, hR⟩ : ∃ R, R = min M l.length := ⟨_, rfl⟩
  have HRN : Hid (algN l c M = (topG (gP l c R) l.length).2) := Lib.hid (by
    rw [HYES.out hf.out.symm, Int.toNat_natCast, ← rfN_gP, hR, rfN_al hsrt])
  have hq : QuOk l := fun x h => (hx x h).2.2.2
  have hvw : ∀ v, v ∈ c → 1 ≤ v.we ∧ v.we ≤ 1000000 := fun v h => (hcv v h).2.2
  have HPB := Lib.hid (fun (p : Nat) (hp : p ≤ 100) (k : Nat) (hk : k < l.length) => gP_bd hq hvw hc200 hp hk)
  have HSB := Lib.hid (fun (p : Nat) (hp : p ≤ 99) (i : Nat) (hi : i < l.length) (k : Nat) (hk : k ≤ l.length) => gS_bd hq hvw hc200 hp hi hk)
  have HBB := Lib.hid (fun (i : Nat) (hi : i < l.length) (a b : Int) => base_bd hq hvw hc200 hi a b)
  have HWO := Lib.hid (HCW.out hc200 hvw)
  have hmn : min (M : Int) (l.length : Int) = (R : Int) := by rw [hR]; omega
  have hRl : R ≤ l.length ∧ R ≤ 100 := by omega
  have hmk := make_ints l.length (by omega)
  have hmk1 : ∀ W : World, (Instr.makeSlice 24 (.int .i64 ((l.length : Int) + 1)) (.int .i64 ((l.length : Int) + 1))).run Try.prog W = .ok (.slice (some ⟨W.heap.size, 0, none⟩) (l.length + 1) (l.length + 1)) (W.alloc (.cells ((List.replicate (l.length + 1) (0 : Int)).map (Value.int .i64)).toArray 3)) := fun W => make_ints (l.length + 1) (by omega) W
  have hw1 : IntKind.i64.wrap ((l.length : Int) + 1) = (l.length : Int) + 1 := IntWalk.i64_in _ (by omega)
  clear HZ hx hcv hsrt hq hvw HCW HNO HYES HFF hR HR
  go_wp2_with (go_at_call 25; refine (within5_any _ _ _ _).mono ?_; rintro e w' ⟨rfl, rfl⟩)
  have HG0 : Hid (Gain (w1.alloc (.cells (Array.replicate (l.length + 1) (Value.int .i64 0)) 3)) w1.heap.size l.length (gP l c 0)) := Lib.hid ⟨List.replicate (l.length + 1) 0, (by
    unfold Arr
    rw [block_new]
    simp), fun k hk => by rw [List.getElem?_replicate, if_pos (by omega)]; rfl⟩
  have HBA : Hid (Below w.heap.size w (w1.alloc (.cells (Array.replicate (l.length + 1) (Value.int .i64 0)) 3))) := Lib.hid (HB1.out.alloc HB1.out.size _)
  go_loopg [11, 12, 41] R (fun gg s11 s12 s41 wr => ∃ (p Bg ln : Nat) (LV : List Value), p ≤ R ∧ R - p ≤ gg ∧ s41 = .int .i64 p ∧ s11 = .slice (some ⟨Bg, 0, none⟩) ln ln ∧ (l.length ≤ ln ∧ ln ≤ 101) ∧ Aside (Gain wr Bg l.length (gP l c p)) ∧ Aside (Own wr w.heap.size 24 1 encV1 s12 LV) ∧ Aside (Ways wr p l.length LV) ∧ Aside (Below w.heap.size w wr))
  case atStart => exact ⟨0, w1.heap.size, l.length + 1, [], by omega, by omega, rfl, rfl, by omega, HG0.out, (show Own _ _ _ _ _ _ _ from Own.nil), (show Aside _ from ⟨rfl, fun j hj => absurd hj (Nat.not_lt_zero _)⟩), HBA.out⟩
  case round =>
    obtain ⟨wq, rfl⟩ : ∃ wq : World, wq = wr := ⟨_, rfl⟩
    obtain ⟨p, Bg, ln, LV, hp, hgp, rfl, rfl, ⟨hln1, hln2⟩, GG, OO, WW, BB⟩ := hrel
    have hLV := WW.out.1
    obtain ⟨fo, fc, Bf, rfl, hfc1, hfc2, _, hfe⟩ := own_parts encV1_len OO.out
    unfold maxLen at hfc2
    have HFE := Lib.hid hfe
    have OO : Aside (Own wq w.heap.size 24 1 encV1 (.slice fo p fc) LV) := by have h := OO; rw [hLV] at h; exact h
    rw [hLV] at hfc1 ⊢
    clear hfe
    by_cases hpR : p < R
    · have hpz : (p : Int) < (R : Int) := by omega
      have hn1 : 1 ≤ l.length := by omega
      obtain ⟨C, hC⟩ : ∃ C, C = wq.heap.size := ⟨_, rfl⟩
      have HWC := Lib.hid hC
      have hCw : w.heap.size ≤ C := by rw [hC]; exact BB.out.size
      clear hC
      go_upto_region 11 with (fail)
      go_cut [13, 14] (fun s13 s14 w4 => ∃ bm bn : Nat, s13 = .slice (some ⟨bm, 0, none⟩) l.length l.length ∧ s14 = .slice (some ⟨bn, 0, none⟩) l.length l.length ∧ Aside (bm ≠ bn) ∧ Aside (C ≤ bm) ∧ Aside (C ≤ bn) ∧ Aside (Arr w4 bm (List.replicate l.length 0)) ∧ Aside (Arr w4 bn (List.replicate l.length 0)) ∧ Aside (Below C wq w4))
      case first =>
        have hB2 := Lib.hid ((((Below.refl wq.heap.size wq).alloc (Nat.le_refl _) (.cells (Array.replicate l.length (Value.int .i64 0)) 3)).alloc (by simp) (.cells (Array.replicate l.length (Value.int .i64 0)) 3)).drew)
        have hM2 := Lib.hid (two_made wq (List.replicate l.length 0))
        rw [zeros_eq] at hM2
        rw [← HWC.out] at hM2 hB2
        go_region
        all_goals
          go_wp2
          rw [← HWC.out]
          go_meet
        · exact ⟨C, C + 1, rfl, rfl, (show _ ≠ _ by omega), (show _ ≤ _ by omega), (show _ ≤ _ by omega), hM2.out.1, hM2.out.2, hB2.out⟩
        · exact ⟨C + 1, C, rfl, rfl, (show _ ≠ _ by omega), (show _ ≤ _ by omega), (show _ ≤ _ by omega), hM2.out.2, hM2.out.1, hB2.out⟩
      obtain ⟨bm, bn, rfl, rfl, HNE, HBM, HBN, HA1, HA2, HBW⟩ := hcut
      obtain ⟨wd, rfl⟩ : ∃ wd, wd = wc := ⟨_, rfl⟩
      clear hmk
      have HBQ : Hid (Below w.heap.size w wd) := Lib.hid (BB.out.trans (HBW.out.mono hCw))
      have hgC : Bg < C := by obtain ⟨gm, hg1, _⟩ := GG.out; have h1 := hg1.lt; have h2 := HWC.out; omega
      have HGC : Hid (∀ k, k < l.length → wq.cell? ⟨Bg, k, none⟩ = some (.int .i64 (gP l c p k))) := Lib.hid (fun k hk => by
        obtain ⟨gm, hg1, hg2⟩ := GG.out
        exact hg1.cell (hg2 k hk))
      have HWL : Hid (∃ Wl, Arr wd bn Wl ∧ WOk l.length Wl) := Lib.hid ⟨_, HA2.out, by simp, fun x hx => by
        rw [List.mem_replicate] at hx
        omega⟩
      have HA0 : Hid (Arr wd bm (mixL (gnF l c p) (fun _ => 0) 0 l.length)) := Lib.hid (by
        rw [mixL_zero]
        have e : (List.range l.length).map (fun _ => (0 : Int)) = List.replicate l.length 0 := by
          apply List.ext_getElem
          · simp
          · intro i h1 h2; simp
        rw [e]
        exact HA1.out)
      have hbmw : w.heap.size ≤ bm := by have := HBM.out; omega
      have hbnw : w.heap.size ≤ bn := by have := HBN.out; omega
      have hmn1 : ¬ bm = bn := HNE.out
      have hmn2 : ¬ bn = bm := fun h => hmn1 h.symm
      have hp99 : p ≤ 99 := by omega
      go_wp2
      go_loopg [51] l.length (fun g2 s51 wr => ∃ i : Nat, i ≤ l.length ∧ l.length - i ≤ g2 ∧ s51 = .int .i64 i ∧ Aside (Arr wr bm (mixL (gnF l c p) (fun _ => 0) i l.length)) ∧ Aside (∃ Wl, Arr wr bn Wl ∧ WOk l.length Wl) ∧ Aside (Below C wq wr))
      case atStart => exact ⟨0, by omega, by omega, rfl, HA0.out, (show Aside _ from HWL.out), HBW⟩
      case round =>
        obtain ⟨wi, rfl⟩ : ∃ wi : World, wi = wr := ⟨_, rfl⟩
        obtain ⟨i, hi, hgi, rfl, AI, WI, BI⟩ := hrel
        by_cases hil : i < l.length
        · have hiz : (i : Int) < (l.length : Int) := by omega
          obtain ⟨x, hx⟩ : ∃ x, l[i]? = some x := ⟨l[i], by simp [hil]⟩
          obtain ⟨b, off, rfl, hcx⟩ := HEL.out i x hx
          have hbw : b < w.heap.size := World.block_lt_of_cell? w _ (hcx 0 _ rfl)
          have HX : Hid (raA l i = x.ra ∧ quA l i = x.qu) := Lib.hid ⟨by unfold raA; rw [getD_of hx], by unfold quA; rw [getD_of hx]⟩
          have HX1 : Hid (w.cell? ⟨b, off + i * 4 + 1, none⟩ = some (.int .i64 x.ra)) := Lib.hid (hcx 1 _ rfl)
          have HX3 : Hid (w.cell? ⟨b, off + i * 4 + 3, none⟩ = some (.int .i64 x.qu)) := Lib.hid (hcx 3 _ rfl)
          have HSS : Hid (∀ W : World, Below w.heap.size w W → W.cell? ⟨b, off + i * 4 + 1, none⟩ = some (.int .i64 x.ra) ∧ W.cell? ⟨b, off + i * 4 + 3, none⟩ = some (.int .i64 x.qu)) := Lib.hid (fun W hb => ⟨(hb.cell (p := ⟨b, off + i * 4 + 1, none⟩) hbw).trans HX1.out, (hb.cell (p := ⟨b, off + i * 4 + 3, none⟩) hbw).trans HX3.out⟩)
          have hbi : Below w.heap.size w wi.drew := (BB.out.trans (BI.out.mono hCw)).drew
          have hbc : Below C wq wi.drew := BI.out.drew
          have HCI : Hid (C ≤ wi.drew.heap.size) := Lib.hid (by have h1 := hbc.size; have h2 := HWC.out; omega)
          have hbb := HBB.out i hil (raA l i) 1000000001
          rw [HX.out.1, HX.out.2] at hbb
          obtain ⟨W1, hW1⟩ : ∃ W1, W1 = wg c x.ra 1000000001 := ⟨_, rfl⟩
          have HCL := Lib.hid (HWO.out wi.drew hbi x.ra 1000000001)
          rw [← hW1] at hbb HCL
          have hzw : IntKind.i64.wrap (W1 * x.qu) = W1 * x.qu := IntWalk.i64_in _ (by omega)
          have HBS : Hid (W1 * x.qu = gS l c p i (i + 1)) := Lib.hid (by rw [gS_start, HX.out.1, HX.out.2, hW1])
          have HAI := Lib.hid AI.out
          have HWI := Lib.hid WI.out
          have hmx : (mixL (gnF l c p) (fun _ => (0 : Int)) i l.length)[i]? = some 0 := by rw [mixL_get hil, if_neg (Nat.lt_irrefl _)]
          have HARM : Hid (∀ w7 : World, Below wi.drew.heap.size wi.drew w7 → Below w.heap.size w w7 ∧ Below C wq w7 ∧ Arr w7 bm (mixL (gnF l c p) (fun _ => 0) i l.length) ∧ w7.cell? ⟨bm, i, none⟩ = some (.int .i64 0) ∧ w7.frozen? ⟨bm, i, none⟩ = false ∧ ∃ Wl, Arr w7 bn Wl ∧ WOk l.length Wl ∧ ∃ y, w7.cell? ⟨bn, i, none⟩ = some (.int .i64 y) ∧ w7.frozen? ⟨bn, i, none⟩ = false) := Lib.hid (fun w7 hb7 => by
            have h3 : Arr w7 bm (mixL (gnF l c p) (fun _ => 0) i l.length) := Arr.below (w := wi.drew) HAI.out hb7
            obtain ⟨Wl, h4, h5⟩ := HWI.out
            have h6 : Arr w7 bn Wl := Arr.below (w := wi.drew) h4 hb7
            have h7 : Wl[i]? = some (Wl[i]'(by rw [h5.1]; exact hil)) := List.getElem?_eq_getElem _
            exact ⟨hbi.thru hb7, hbc.trans (hb7.mono HCI.out), h3, h3.cell hmx, h3.free i, Wl, h6, h5, _, h6.cell h7, h6.free i⟩)
          clear hx hcx hW1 hbb AI WI BI
          go_upto_region 15 with (fail)
          go_cut [] (fun wc => Aside (Arr wc bm ((mixL (gnF l c p) (fun _ => 0) i l.length).set i (gS l c p i (i + 1)))) ∧ Aside (∃ Wl, Arr wc bn Wl ∧ WOk l.length Wl) ∧ Aside (Below C wq wc))
          case first =>
            go_region_held3 (fun W => W.cell? ⟨b, off + i * 4 + 1, none⟩ = some (.int .i64 x.ra) ∧ W.cell? ⟨b, off + i * 4 + 3, none⟩ = some (.int .i64 x.qu))
              (first | exact HSS.out _ hbi | exact HSS.out _ (hbi.setCell hbmw _) | exact HSS.out _ (hbi.setCell hbnw _) | exact HSS.out _ ((hbi.setCell hbmw _).setCell hbnw _) | exact HSS.out _ ((hbi.setCell hbnw _).setCell hbmw _) | fail "keep")
              (first | (go_at_call 33; ((with_reducible refine (HCL.out).mono ?_); rintro e w7 ⟨rfl, hb7⟩; obtain ⟨g1, g2, g3, a0, z0, Wl, g4, g5, y0, a1, z1⟩ := HARM.out w7 hb7; replace hbi := g1; replace hbc := g2; have HA7 := Lib.hid g3; have HW7 := Lib.hid g4; have HWK := Lib.hid g5; clear g1 g2 g3 g4 g5 hb7)) | fail "arms")
            all_goals
              go_wp2
              go_meet
              exact ⟨(show Aside (Arr _ _ _) from by rw [← HBS.out]; exact (HA7.out.set _ _).other hmn1 _ _), (show Aside _ from ⟨_, (HW7.out.other hmn2 _ _).set _ _, HWK.out.set i (by omega) (by omega)⟩), (show Aside _ from (hbc.setCell HBM.out _).setCell HBN.out _)⟩
          obtain ⟨HA8, HW8, HB8⟩ := hcut
          obtain ⟨we, rfl⟩ : ∃ we, we = wc := ⟨_, rfl⟩
          have hi1 : IntKind.i64.wrap ((i : Int) + 1) = (i : Int) + 1 := IntWalk.i64_in _ (by omega)
          clear HARM HCL hzw HBS HAI HWI HCI hbi hbc
          go_wp2
          go_loopg [16] l.length (fun g3 s16 wr => ∃ k : Nat, i + 1 ≤ k ∧ k ≤ l.length ∧ l.length - k ≤ g3 ∧ s16 = .int .i64 k ∧ Aside (Arr wr bm ((mixL (gnF l c p) (fun _ => 0) i l.length).set i (gS l c p i k))) ∧ Aside (∃ Wl, Arr wr bn Wl ∧ WOk l.length Wl) ∧ Aside (Below C wq wr))
          case atStart => exact ⟨i + 1, Nat.le_refl _, by omega, by omega, by go_num, HA8, HW8, HB8⟩
          case round =>
            obtain ⟨wk, rfl⟩ : ∃ wk : World, wk = wr := ⟨_, rfl⟩
            obtain ⟨k, hik, hk, hgk, rfl, AK, WK, BK⟩ := hrel
            by_cases hkl : k < l.length
            · have hkz : (k : Int) < (l.length : Int) := by omega
              obtain ⟨y, hy⟩ : ∃ y, l[k]? = some y := ⟨l[k], by simp [hkl]⟩
              obtain ⟨b', off', hbo, hcy⟩ := HEL.out k y hy
              simp only [Option.some.injEq, Addr.mk.injEq, and_true] at hbo
              obtain ⟨rfl, rfl⟩ := hbo
              have HY : Hid (raA l k = y.ra ∧ quA l k = y.qu) := Lib.hid ⟨by unfold raA; rw [getD_of hy], by unfold quA; rw [getD_of hy]⟩
              have HY1 : Hid (w.cell? ⟨b, off + k * 4 + 1, none⟩ = some (.int .i64 y.ra)) := Lib.hid (hcy 1 _ rfl)
              have HY3 : Hid (w.cell? ⟨b, off + k * 4 + 3, none⟩ = some (.int .i64 y.qu)) := Lib.hid (hcy 3 _ rfl)
              have hbk : Below C wq wk := BK.out
              have hbkw : Below w.heap.size w wk := BB.out.trans (hbk.mono hCw)
              have x1 := (HSS.out wk hbkw).1
              have x3 := (HSS.out wk hbkw).2
              have y1 := (hbkw.cell (p := ⟨b, off + k * 4 + 1, none⟩) hbw).trans HY1.out
              have y3 := (hbkw.cell (p := ⟨b, off + k * 4 + 3, none⟩) hbw).trans HY3.out
              have hbwk : b < wk.heap.size := by have := hbkw.size; omega
              have HNX := Lib.hid (gS_next (l := l) (c := c) (p := p) (i := i) (k := k) (by omega))
              rw [HX.out.1, HX.out.2, HY.out.1, HY.out.2] at HNX
              have HGK := Lib.hid (HGC.out k hkl)
              have hgb := HPB.out p (by omega) k hkl
              have hsb := HSB.out p hp99 i hil k hk
              have hbb := HBB.out i hil x.ra y.ra
              rw [HX.out.2] at hbb
              obtain ⟨W1, hW1⟩ : ∃ W1, W1 = wg c x.ra y.ra := ⟨_, rfl⟩
              obtain ⟨gk', hgk'⟩ : ∃ gk', gk' = gP l c p k := ⟨_, rfl⟩
              obtain ⟨cur, hcur⟩ : ∃ cur, cur = gS l c p i k := ⟨_, rfl⟩
              rw [← hW1] at hbb HNX
              rw [← hgk'] at hgb HNX HGK
              rw [← hcur] at hsb HNX AK
              have hzw : IntKind.i64.wrap (W1 * x.qu) = W1 * x.qu := IntWalk.i64_in _ (by omega)
              have hzw2 : IntKind.i64.wrap (W1 * x.qu + gk') = W1 * x.qu + gk' := IntWalk.i64_in _ (by omega)
              have hk1 : IntKind.i64.wrap ((k : Int) + 1) = (k : Int) + 1 := IntWalk.i64_in _ (by omega)
              have HAK := Lib.hid AK.out
              have HWK := Lib.hid WK.out
              have HBK := Lib.hid BK.out
              have HW1 := Lib.hid hW1
              have HCI : Hid (C ≤ wk.heap.size) := Lib.hid (by have h1 := hbk.size; have h2 := HWC.out; omega)
              have hmx : ((mixL (gnF l c p) (fun _ => (0 : Int)) i l.length).set i cur)[i]? = some cur := mixL_cur hil
              clear hy hcy hW1 hgk' hcur hbb hgb AK WK BK
              go_upto_region 19 with (fail)
              have hund : undef = Value.tuple #[] := rfl
              cases e1 : decide (y.qu ≤ x.qu)
              case true =>
                have e1' : y.qu ≤ x.qu := of_decide_eq_true e1
                have HN2 : Hid (gS l c p i (k + 1) = cur) := Lib.hid (by rw [HNX.out, if_neg (fun h => h.1 (Or.inl e1'))])
                go_quiet (fail)
                clear hund
                go_wp2
                go_roundg (l.length - (k + 1))
                case measure => omega
                case rel => exact ⟨k + 1, by omega, by omega, by omega, by go_num, (show Aside (Arr _ _ _) from by rw [HN2.out]; exact HAK.out), (show Aside _ from HWK.out), (show Aside _ from below_drewN HBK.out _)⟩
              case false =>
                have e1' : ¬ y.qu ≤ x.qu := of_decide_eq_false e1
                cases e2 : (y.ra == x.ra)
                case true =>
                  have e2' : y.ra = x.ra := by simpa using e2
                  have HN2 : Hid (gS l c p i (k + 1) = cur) := Lib.hid (by rw [HNX.out, if_neg (fun h => h.1 (Or.inr e2'))])
                  clear e2'
                  go_quiet (fail)
                  clear hund
                  go_wp2
                  go_roundg (l.length - (k + 1))
                  case measure => omega
                  case rel => exact ⟨k + 1, by omega, by omega, by omega, by go_num, (show Aside (Arr _ _ _) from by rw [HN2.out]; exact HAK.out), (show Aside _ from HWK.out), (show Aside _ from below_drewN HBK.out _)⟩
                case false =>
                  have e2' : ¬ y.ra = x.ra := by simpa using e2
                  have HNO : Hid (¬ (y.qu ≤ x.qu ∨ y.ra = x.ra)) := Lib.hid (fun h => h.elim e1' e2')
                  clear e2'
                  go_quiet (fail)
                  clear hund
                  go_upto_region 20 with (fail)
                  obtain ⟨wz, hwz⟩ : ∃ wz, wz = wk.drewN nq := ⟨_, rfl⟩
                  have hbz : Below C wq wz.drew := by rw [hwz]; exact (below_drewN HBK.out nq).drew
                  have hbzw : Below w.heap.size w wz.drew := by rw [hwz]; exact (below_drewN hbkw nq).drew
                  have HBZ0 : Hid (Below wk.heap.size wk wz) := Lib.hid (by rw [hwz]; exact below_drewN (Below.refl _ wk) nq)
                  have HCIz : Hid (C ≤ wz.drew.heap.size) := Lib.hid (by rw [hwz]; exact HCI.out)
                  rw [← hwz]
                  have HS2 : Hid (∀ W : World, Below C wq W → W.cell? ⟨b, off + i * 4 + 1, none⟩ = some (.int .i64 x.ra) ∧ W.cell? ⟨b, off + k * 4 + 1, none⟩ = some (.int .i64 y.ra) ∧ W.cell? ⟨b, off + i * 4 + 3, none⟩ = some (.int .i64 x.qu) ∧ W.cell? ⟨Bg, k, none⟩ = some (.int .i64 gk')) := Lib.hid (fun W hb =>
                    have h1 : Below w.heap.size w W := BB.out.trans (hb.mono hCw)
                    ⟨(HSS.out W h1).1, (h1.cell (p := ⟨b, off + k * 4 + 1, none⟩) hbw).trans HY1.out, (HSS.out W h1).2, (hb.cell (p := ⟨Bg, k, none⟩) hgC).trans HGK.out⟩)
                  have HCL := Lib.hid (HWO.out wz.drew hbzw x.ra y.ra)
                  rw [← HW1.out] at HCL
                  have hbo : Below wz.heap.size wz wz.drew := (Below.refl _ wz).drew
                  have hkln : (k : Int) < (ln : Int) := by omega
                  clear hwz x1 x3 y1 y3 hbkw hbk
                  go_cut [17] (fun s17 wc => s17 = .int .i64 (W1 * x.qu + gk') ∧ Aside (Below wz.heap.size wz wc))
                  case first =>
                    go_region_held3 (fun W => W.cell? ⟨b, off + i * 4 + 1, none⟩ = some (.int .i64 x.ra) ∧ W.cell? ⟨b, off + k * 4 + 1, none⟩ = some (.int .i64 y.ra) ∧ W.cell? ⟨b, off + i * 4 + 3, none⟩ = some (.int .i64 x.qu) ∧ W.cell? ⟨Bg, k, none⟩ = some (.int .i64 gk'))
                      (first | exact HS2.out _ hbz | fail "keep")
                      (first | (go_at_call 33; ((with_reducible refine (HCL.out).mono ?_); rintro e w7 ⟨rfl, hb7⟩; replace hbz := hbz.trans (hb7.mono HCIz.out); replace hbo := hbo.thru hb7; clear hb7)) | fail "arms")
                    all_goals
                      go_wp2
                      go_meet
                      exact ⟨rfl, hbo⟩
                  obtain ⟨rfl, HBo⟩ := hcut
                  obtain ⟨wv, rfl⟩ : ∃ wv, wv = wc := ⟨_, rfl⟩
                  have HB9 : Hid (Below wk.heap.size wk wv) := Lib.hid (HBZ0.out.thru HBo.out)
                  have HA9 := Lib.hid (Arr.below HAK.out HB9.out)
                  have HW9 : Hid (∃ Wl, Arr wv bn Wl ∧ WOk l.length Wl) := Lib.hid (by
                    obtain ⟨Wl, h1, h2⟩ := HWK.out
                    exact ⟨Wl, Arr.below h1 HB9.out, h2⟩)
                  have HC9 : Hid (Below C wq wv) := Lib.hid (HBK.out.trans (HB9.out.mono HCI.out))
                  have am := HA9.out.cell hmx
                  have zm := HA9.out.free i
                  clear HCL HS2 HBo HBZ0 HCIz hbz hbzw hbo HAK HWK HBK
                  cases e3 : decide (cur < W1 * x.qu + gk')
                  case false =>
                    have e3' : ¬ cur < W1 * x.qu + gk' := of_decide_eq_false e3
                    have HN2 : Hid (gS l c p i (k + 1) = cur) := Lib.hid (by rw [HNX.out, if_neg (fun h => e3' h.2.1)])
                    go_wp2
                    go_roundg (l.length - (k + 1))
                    case measure => omega
                    case rel => exact ⟨k + 1, by omega, by omega, by omega, by go_num, (show Aside (Arr _ _ _) from by rw [HN2.out]; exact HA9.out), (show Aside _ from HW9.out), (show Aside _ from HC9.out)⟩
                  case true =>
                    have e3' : cur < W1 * x.qu + gk' := of_decide_eq_true e3
                    by_cases hp0 : 0 < p
                    · have hp0' : (0 : Int) < (p : Int) := by omega
                      have hp0d : decide (0 < p) = true := decide_eq_true hp0
                      have HN2 : Hid (gS l c p i (k + 1) = W1 * x.qu + gk') := Lib.hid (by rw [HNX.out, if_pos ⟨HNO.out, e3', hp0⟩])
                      obtain ⟨Wl, h1, h2⟩ := HW9.out
                      obtain ⟨y9, h3⟩ : ∃ y9, Wl[i]? = some y9 := ⟨Wl[i]'(by rw [h2.1]; exact hil), List.getElem?_eq_getElem _⟩
                      have an := h1.cell h3
                      have zn := h1.free i
                      have HWl := Lib.hid h1
                      have HWl2 := Lib.hid h2
                      clear h1 h2 h3
                      go_wp2
                      go_roundg (l.length - (k + 1))
                      case measure => omega
                      case rel => exact ⟨k + 1, by omega, by omega, by omega, by go_num, (show Aside (Arr _ _ _) from by
                          have h := (HA9.out.set i (W1 * x.qu + gk')).other hmn1 i (.int .i64 k)
                          rw [List.set_set] at h
                          rw [HN2.out]
                          exact h), (show Aside _ from ⟨_, (HWl.out.other hmn2 i _).set i _, HWl2.out.set i (by omega) (by omega)⟩), (show Aside _ from (HC9.out.setCell HBM.out _).setCell HBN.out _)⟩
                    · have hp0' : ¬ (0 : Int) < (p : Int) := by omega
                      have hp0d : decide (0 < p) = false := decide_eq_false hp0
                      have HN2 : Hid (gS l c p i (k + 1) = cur) := Lib.hid (by rw [HNX.out, if_neg (fun h => hp0 h.2.2)])
                      go_wp2
                      go_roundg (l.length - (k + 1))
                      case measure => omega
                      case rel => exact ⟨k + 1, by omega, by omega, by omega, by go_num, (show Aside (Arr _ _ _) from by rw [HN2.out]; exact HA9.out), (show Aside _ from HW9.out), (show Aside _ from HC9.out)⟩
            · obtain rfl : k = l.length := by omega
              rw [gS_end, mixL_set] at AK
              go_wp2
              go_roundg (l.length - (i + 1))
              case measure => omega
              case rel => exact ⟨i + 1, by omega, by omega, by go_num, AK, WK, BK⟩
        · obtain rfl : i = l.length := by omega
          rw [mixL_all] at AI
          obtain ⟨Wl, hw1, hw2⟩ := WI.out
          have hci : wq.heap.size ≤ C := by have := HWC.out; omega
          have HGA : Hid (Gain wi bm l.length (gP l c (p + 1))) := Lib.hid ⟨_, AI.out, fun k hk => by rw [List.getElem?_map, List.getElem?_range hk]; rfl⟩
          have HWA : Hid (Ways wi p l.length LV) := Lib.hid (WW.out.belowB BI.out hci)
          have HWl := Lib.hid hw1
          have HWl2 := Lib.hid hw2
          have HOI : Hid (Own wi w.heap.size 24 1 encV1 (.slice fo p fc) LV) := Lib.hid (OO.out.below BI.out hci)
          have HBI : Hid (Below w.heap.size w wi) := Lib.hid (BB.out.trans (BI.out.mono hCw))
          have hwi := HBI.out.size
          have HLVp := Lib.hid WW.out.1
          clear hw1 hw2 AI WI BI OO WW BB GG HGC hci
          go_wp2_with (at_builtin; go_loud (refine wpList_pushK rfl _ _ 60 rfl slSI (enc := encV1) rfl rfl (.slice (some ⟨bn, 0, none⟩) l.length l.length) rfl rfl rfl HOI.out rfl (by rw [HLVp.out]; omega) hwi ?_); intro v7 w7 ho7 hb7 hk7; have hho := Lib.hid ho7; have hhb := Lib.hid hb7; have hhk := Lib.hid hk7; clear ho7 hb7 hk7)
          go_roundg (R - (p + 1))
          case measure => omega
          case rel => exact ⟨p + 1, bm, l.length, LV ++ [.slice (some ⟨bn, 0, none⟩) l.length l.length], by omega, by omega, by go_num, rfl, by omega, (show Aside _ from HGA.out.keepT hhk.out (by decide)), (show Own _ _ _ _ _ _ _ from hho.out), (show Ways _ _ _ _ from (HWA.out.keepT hhk.out (by decide)).add (hhk.out _ _ _ _ HWl.out (by decide)) HWl2.out.1 HWl2.out.2), (show Aside _ from HBI.out.trans hhb.out)⟩
    · obtain rfl : p = R := by omega
      have HGC : Hid (∀ k, k < l.length → wq.cell? ⟨Bg, k, none⟩ = some (.int .i64 (gP l c p k))) := Lib.hid (fun k hk => by
        obtain ⟨gm, hg1, hg2⟩ := GG.out
        exact hg1.cell (hg2 k hk))
      have HTO := Lib.hid (topG_ok (gP l c p))
      clear HSB HPB HBB HWO hmk hmk1 HG0 HBA GG
      go_wp2
      go_loopg [18, 156] l.length (fun g4 s18 s156 wr => ∃ i : Nat, i ≤ l.length ∧ l.length - i ≤ g4 ∧ s156 = .int .i64 i ∧ s18 = .int .i64 (topG (gP l c p) i).1 ∧ ∃ nn, wr = wq.drewN nn)
      case atStart => exact ⟨0, by omega, by omega, rfl, rfl, 0, rfl⟩
      case round =>
        obtain ⟨i, hi, hgi, rfl, rfl, nn, rfl⟩ := hrel
        by_cases hil : i < l.length
        · have hiz : (i : Int) < (l.length : Int) := by omega
          have hizn : (i : Int) < (ln : Int) := by omega
          have gi := HGC.out i hil
          have HNX : Hid (topG (gP l c p) (i + 1) = if 0 < gP l c p i ∧ ((topG (gP l c p) i).1 < 0 ∨ (topG (gP l c p) i).2 < gP l c p i) then ((i : Int), gP l c p i) else topG (gP l c p) i) := Lib.hid rfl
          have hto := (HTO.out i).2.2
          have hgz : p = 0 → gP l c p i = 0 := fun h => by subst h; rfl
          have HJC : Hid (∀ j, j < i → wq.cell? ⟨Bg, j, none⟩ = some (.int .i64 (gP l c p j))) := Lib.hid (fun j hj => HGC.out j (by omega))
          obtain ⟨t, ht⟩ : ∃ t, t = topG (gP l c p) i := ⟨_, rfl⟩
          rw [← ht] at HNX hto ⊢
          obtain ⟨gv, hgv⟩ : ∃ gv, gv = gP l c p i := ⟨_, rfl⟩
          rw [← hgv] at HNX gi hgz
          clear ht hgv
          go_upto_region 30 with (fail)
          have hund : undef = Value.tuple #[] := rfl
          have hkeep : (t.1 = -1 ∧ t.2 = 0) ∨ (∃ j : Nat, j < i ∧ t.1 = (j : Int) ∧ ∃ gj, wq.cell? ⟨Bg, j, none⟩ = some (.int .i64 gj) ∧ t.2 = gj) := by
            rcases hto with h | ⟨j, h1, h2, h3, _⟩
            · exact Or.inl h
            · exact Or.inr ⟨j, h1, h2, _, HJC.out j h1, h3⟩
          clear hto
          by_cases hp0 : 0 < p
          · have hp0' : (0 : Int) < (p : Int) := by omega
            have hp0d : decide (0 < p) = true := decide_eq_true hp0
            cases e1 : decide (0 < gv)
            case false =>
              have e1' : ¬ 0 < gv := of_decide_eq_false e1
              have HN2 : Hid (topG (gP l c p) (i + 1) = t) := Lib.hid (by rw [HNX.out, if_neg (fun h => e1' h.1)])
              go_quiet (fail)
              clear hund
              go_wp2
              go_roundg (l.length - (i + 1))
              case measure => omega
              case rel => exact ⟨i + 1, by omega, by omega, by go_num, (by rw [HN2.out]), _, rfl⟩
            case true =>
              have e1' : 0 < gv := of_decide_eq_true e1
              rcases hkeep with ⟨h1, h2⟩ | ⟨j, hji, h1, gj, hgj, h2⟩
              · have HN2 : Hid (topG (gP l c p) (i + 1) = ((i : Int), gv)) := Lib.hid (by rw [HNX.out, if_pos ⟨e1', Or.inl (by omega)⟩])
                rw [h1]
                clear h1 h2
                go_quiet (fail)
                clear hund
                go_wp2
                go_roundg (l.length - (i + 1))
                case measure => omega
                case rel => exact ⟨i + 1, by omega, by omega, by go_num, (by rw [HN2.out]), _, rfl⟩
              · have hjn : ¬ (j : Int) < 0 := by omega
                have hjl : (j : Int) < (ln : Int) := by omega
                have HT1 := Lib.hid h1
                rw [h1]
                cases e2 : decide (gj < gv)
                case false =>
                  have e2' : ¬ gj < gv := of_decide_eq_false e2
                  have HN2 : Hid (topG (gP l c p) (i + 1) = t) := Lib.hid (by rw [HNX.out, if_neg (fun h => h.2.elim (by omega) (by omega))])
                  clear h1 h2
                  go_quiet (fail)
                  clear hund
                  go_wp2
                  go_roundg (l.length - (i + 1))
                  case measure => omega
                  case rel => exact ⟨i + 1, by omega, by omega, by go_num, (by rw [HN2.out, HT1.out]), _, rfl⟩
                case true =>
                  have e2' : gj < gv := of_decide_eq_true e2
                  have HN2 : Hid (topG (gP l c p) (i + 1) = ((i : Int), gv)) := Lib.hid (by rw [HNX.out, if_pos ⟨e1', Or.inr (by omega)⟩])
                  clear h1 h2
                  go_quiet (fail)
                  clear hund
                  go_wp2
                  go_roundg (l.length - (i + 1))
                  case measure => omega
                  case rel => exact ⟨i + 1, by omega, by omega, by go_num, (by rw [HN2.out]), _, rfl⟩
          · have hp0' : ¬ (0 : Int) < (p : Int) := by omega
            have hp0d : decide (0 < p) = false := decide_eq_false hp0
            have HN2 : Hid (topG (gP l c p) (i + 1) = t) := Lib.hid (by rw [HNX.out, if_neg (fun h => by have := hgz (by omega); omega)])
            clear hgz
            go_quiet (fail)
            clear hund
            go_wp2
            go_roundg (l.length - (i + 1))
            case measure => omega
            case rel => exact ⟨i + 1, by omega, by omega, by go_num, (by rw [HN2.out]), _, rfl⟩
        · obtain rfl : i = l.length := by omega
          have hto := (HTO.out l.length).2.2
          obtain ⟨t, ht⟩ : ∃ t, t = topG (gP l c p) l.length := ⟨_, rfl⟩
          rw [← ht] at HRN hto ⊢
          have HBF : Hid (Below w.heap.size w (wq.drewN nn)) := Lib.hid (below_drewN BB.out nn)
          clear ht
          rcases hto with ⟨h1, h2⟩ | ⟨j, hjl, h1, h2, h5⟩
          · have HN5 : Hid (0 = algN l c M) := Lib.hid (by rw [HRN.out, h2])
            rw [h1]
            clear h1 h2
            go_wp2
            go_ret3
            exact AlrP.mk HN5.out hf.out HBF.out
          · have HN5 : Hid (gP l c p j = algN l c M) := Lib.hid (by rw [HRN.out, h2])
            have gj := HGC.out j hjl
            have hjn : ¬ (j : Int) < 0 := by omega
            have hjz : (j : Int) < (ln : Int) := by omega
            have hjz2 : (j : Int) < (l.length : Int) := by omega
            have hpw : IntKind.i64.wrap ((p : Int) - 1) = (p : Int) - 1 := IntWalk.i64_in _ (by omega)
            rw [h1]
            obtain ⟨gv, hgv⟩ : ∃ gv, gv = gP l c p j := ⟨_, rfl⟩
            rw [← hgv] at gj HN5
            have HFW : Hid (∀ k, k < p → ∃ bk, fo = some ⟨Bf, 0, none⟩ ∧ Bf < wq.heap.size ∧ bk < wq.heap.size ∧ wq.cell? ⟨Bf, k, none⟩ = some (.slice (some ⟨bk, 0, none⟩) l.length l.length) ∧ ∀ a, a < l.length → ∃ y, wq.cell? ⟨bk, a, none⟩ = some (.int .i64 y) ∧ -1 ≤ y ∧ y < (l.length : Int)) := Lib.hid (fun k hk => by
              obtain ⟨bk, mk, g1, g2, g3, g4⟩ := WW.out.2 k hk
              obtain ⟨g5, g6, g7⟩ := HFE.out k _ g1
              refine ⟨bk, g5, g6, g2.lt, by have h := g7 0 _ rfl; simpa using h, fun a ha => ?_⟩
              have h3 : mk[a]? = some (mk[a]'(by rw [g3]; exact ha)) := List.getElem?_eq_getElem _
              exact ⟨_, g2.cell h3, g4 _ (List.getElem_mem _)⟩)
            have HBB := Lib.hid BB.out
            have hp0 : 1 ≤ p := by
              cases p with
              | zero => exact absurd h5 (by show ¬ (0 : Int) < 0; omega)
              | succ p => omega
            clear h1 h2 h5 hgv HGC HTO WW OO
            obtain ⟨B5, hB5⟩ : ∃ B5, B5 = wq.heap.size := ⟨_, rfl⟩
            have HE5 := Lib.hid hB5
            rw [← hB5] at HFW
            have HBS : Hid (Below B5 wq (wq.drewN nn)) := Lib.hid (below_drewN (Below.refl _ wq) nn)
            clear hB5 HBF
            go_wp2
            go_loopg [18, 21, 22] p (fun gg s18 s21 s22 wr => ∃ (a k : Int) (out : List Int), s18 = .int .i64 a ∧ s22 = .int .i64 k ∧ (-1 ≤ a ∧ a < (l.length : Int)) ∧ (-1 ≤ k ∧ k < (p : Int)) ∧ k + 1 ≤ (gg : Int) ∧ (out.length : Int) + k ≤ 100 ∧ Aside (Own wr B5 3 1 encI s21 out) ∧ Aside (Below B5 wq wr))
            case atStart => exact ⟨j, (p : Int) - 1, [], rfl, by go_num, by omega, by omega, by omega, by simp; omega, (show Own _ _ _ _ _ _ _ from Own.nil), HBS.out⟩
            case round =>
              obtain ⟨a, k, out, rfl, rfl, ⟨ha1, ha2⟩, ⟨hk1, hk2⟩, hkg, hol, OW, BW⟩ := hrel
              obtain ⟨xa, xL, xc, rfl⟩ := Own.slv encI_len OW.out
              have HBF : Hid (Below w.heap.size w wr) := Lib.hid (HBB.out.thru (by have h := BW.out; rw [HE5.out] at h; exact h))
              by_cases ha : a < 0
              · have ha' : ¬ (0 : Int) ≤ a := by omega
                go_wp2
                go_ret3
                exact AlrP.mk HN5.out hf.out HBF.out
              · obtain ⟨A, rfl⟩ : ∃ A : Nat, a = (A : Int) := ⟨a.toNat, by omega⟩
                have ha' : (0 : Int) ≤ (A : Int) := by omega
                by_cases hk : k < 0
                · have hk' : ¬ (0 : Int) ≤ k := by omega
                  go_wp2
                  go_ret3
                  exact AlrP.mk HN5.out hf.out HBF.out
                · obtain ⟨K, rfl⟩ : ∃ K : Nat, k = (K : Int) := ⟨k.toNat, by omega⟩
                  obtain ⟨bk, rfl, hb1, hb2, hb3, hb4⟩ := HFW.out K (by omega)
                  obtain ⟨y, hy1, hy2, hy3⟩ := hb4 A (by omega)
                  have hkw : IntKind.i64.wrap ((K : Int) - 1) = (K : Int) - 1 := IntWalk.i64_in _ (by omega)
                  have HC1 := Lib.hid hb3
                  have HC2 := Lib.hid hy1
                  have HBR := Lib.hid BW.out
                  have hB5r : B5 ≤ wr.heap.size := by have h1 := BW.out.size; have h2 := HE5.out; omega
                  clear hb3 hb4 hy1 BW
                  go_wp2_with (at_builtin; go_loud (refine wpList_push rfl _ _ 24 rfl slI rfl rfl (A : Int) rfl rfl rfl OW.out rfl (by omega) hB5r ?_); intro v7 w7 ho7 hb7; obtain ⟨ya, yL, yc, rfl⟩ := Own.slv encI_len ho7; have HO7 := Lib.hid ho7; have HB7 := Lib.hid (HBR.out.trans hb7); have d1 := (HB7.out.cell (p := ⟨Bf, K, none⟩) hb1).trans HC1.out; have d2 := (HB7.out.cell (p := ⟨bk, A, none⟩) hb2).trans HC2.out; clear ho7 hb7)
                  go_roundg K
                  case measure => omega
                  case rel => exact ⟨y, (K : Int) - 1, out ++ [(A : Int)], rfl, by go_num, by omega, by omega, by omega, by simp; omega, (show Own _ _ _ _ _ _ _ from HO7.out), HB7.out⟩
end Go.Proofs.Ytfkmdojnkdoffaa

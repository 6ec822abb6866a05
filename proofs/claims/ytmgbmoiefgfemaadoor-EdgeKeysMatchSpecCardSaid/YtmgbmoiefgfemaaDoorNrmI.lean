/- The key of a key is the key, and it is no longer. -/
import Derived.Test.YtmgbmoiefgfemaaDoorNrmL
namespace Go.Proofs.YtmgbmoiefgfemaaDoor
open Go.RowKit Go.Lib

theorem reqB_list {s : ByteArray} (h : reqB s = true) : s.size ≤ 300 ∧ (∃ r, s.data.toList = 47 :: r) ∧ ∀ c, c ∈ s.data.toList → okC c := by
  obtain ⟨h0, h1, h2, h3⟩ := reqB_true h
  have hl : s.data.toList.length = s.size := by rw [Array.length_toList]; rfl
  refine ⟨h1, ?_, fun c hc => ?_⟩
  · cases e : s.data.toList with
    | nil => rw [e] at hl; simp at hl; omega
    | cons a r =>
      have := chr_nat (s := s) (i := 0) (c := a) (by rw [e]; rfl)
      rw [h2] at this
      have h4 : a = 47 := UInt8.toNat_inj.1 (by show a.toNat = 47; omega)
      exact ⟨r, by rw [h4]⟩
  · obtain ⟨i, hi, rfl⟩ := List.mem_iff_getElem.1 hc
    have h4 := chr_nat (s := s) (i := i) (c := s.data.toList[i]) (by simp)
    have h5 := h3 i (by omega)
    rw [h4] at h5
    unfold okQ at h5
    simp only [Bool.and_eq_true, decide_eq_true_eq] at h5
    unfold okC
    omega
theorem reqB_mk {s : ByteArray} {r : List UInt8} (h0 : s.data.toList = 47 :: r) (h1 : s.size ≤ 300) (h2 : ∀ c, c ∈ s.data.toList → okC c) : reqB s = true := by
  have hl : s.data.toList.length = s.size := by rw [Array.length_toList]; rfl
  refine reqB_yes (by rw [← hl, h0]; simp) h1 ?_ (fun i hi => ?_)
  · have := chr_nat (s := s) (i := 0) (c := 47) (by rw [h0]; rfl)
    rw [this]; rfl
  · have h4 := chr_nat (s := s) (i := i) (c := s.data.toList[i]'(by omega)) (by simp)
    have h5 := h2 _ (List.getElem_mem (l := s.data.toList) (n := i) (by omega))
    rw [h4]
    unfold okQ okC at *
    simp only [Bool.and_eq_true, decide_eq_true_eq]
    omega
theorem parF_filter (W D : List ByteArray) : ∀ n, n ≤ W.length → parF W D n = (W.take n).filter (keepP D)
  | 0, _ => by simp [parF]
  | n + 1, h => by
    have hx : W[n]? = some W[n] := by simp
    rw [parF_next hx, take_next hx, List.filter_append, ← parF_filter W D n (by omega)]
    cases e : keepP D W[n] <;> simp [e]
theorem parF_all (W D : List ByteArray) : parF W D W.length = W.filter (keepP D) := by rw [parF_filter W D _ (Nat.le_refl _), List.take_length]
theorem wtB_perm {a b : List ByteArray} (h : a.Perm b) : wtB a = wtB b := by
  induction h with
  | nil => rfl
  | cons x _ ih => rw [show ∀ l : List ByteArray, wtB (x :: l) = (x.size + 1) + wtB l from fun l => by rw [← wtB_one, ← wtB_app]; rfl]; rw [ih, show ∀ l : List ByteArray, wtB (x :: l) = (x.size + 1) + wtB l from fun l => by rw [← wtB_one, ← wtB_app]; rfl]
  | swap x y l =>
    have e : ∀ (x : ByteArray) (l : List ByteArray), wtB (x :: l) = (x.size + 1) + wtB l := fun x l => by rw [← wtB_one, ← wtB_app]; rfl
    rw [e, e, e, e]; omega
  | trans _ _ h1 h2 => rw [h1, h2]
theorem wtB_filter (p : ByteArray → Bool) : ∀ l : List ByteArray, wtB (l.filter p) ≤ wtB l
  | [] => Nat.le_refl _
  | x :: r => by
    have e : ∀ (x : ByteArray) (l : List ByteArray), wtB (x :: l) = (x.size + 1) + wtB l := fun x l => by rw [← wtB_one, ← wtB_app]; rfl
    have := wtB_filter p r
    rw [List.filter_cons]
    split
    · rw [e, e]; omega
    · rw [e]; omega
theorem words_facts {s sep : ByteArray} {c : UInt8} (hsep : sep.data.toList = [c]) (hc : c ≠ 37) (hx : hexV c = none) :
    (∀ w, w ∈ wordsB s sep → c ∉ w.data.toList ∧ (∀ y, y ∈ w.data.toList → y ∈ s.data.toList) ∧ (Stb s.data.toList → Stb w.data.toList)) ∧ wtB (wordsB s sep) = s.data.toList.length + 1 := by
  obtain ⟨q1, q2⟩ := split_facts hc hx _ s.data.toList (Nat.le_refl _)
  have hd := words_data s sep
  rw [hsep] at hd
  refine ⟨fun w hw => q1 w.data.toList ?_, ?_⟩
  · rw [← hd]; exact List.mem_map_of_mem hw
  · unfold wtB; rw [hd]; exact q2
theorem map_inj {L M : List ByteArray} (h : L.map (fun b => b.data.toList) = M.map (fun b => b.data.toList)) : L = M := (List.map_inj_right (fun _ _ hxy => bytes_ext hxy)).1 h
/-- Pieces that were joined are cut as they were. -/
theorem words_join {L : List ByteArray} {sep s : ByteArray} {c : UInt8} (hsep : sep.data.toList = [c]) (hne : L ≠ []) (h : ∀ w, w ∈ L → c ∉ w.data.toList) (hs : s.data.toList = Lib.join (L.map fun b => b.data.toList) [c]) : wordsB s sep = L := by
  refine map_inj ?_
  rw [words_data, hs, hsep]
  exact split_join _ (by simpa using hne) (fun w hw => by
    obtain ⟨x, hx, rfl⟩ := List.mem_map.1 hw
    exact h x hx)
theorem joinB_data (L : List ByteArray) (sep : ByteArray) : (joinB L sep).data.toList = Lib.join (L.map fun b => b.data.toList) sep.data.toList := by
  unfold joinB
  rw [mk_toArray]
theorem cut_facts (T : List UInt8) : (Lib.cut T [63]).1 = T ∧ (Lib.cut T [63]).2.1 = [] ∧ 63 ∉ T ∨ ∃ a b, T = a ++ 63 :: b ∧ 63 ∉ a ∧ (Lib.cut T [63]).1 = a ∧ (Lib.cut T [63]).2.1 = b := by
  by_cases h : (63 : UInt8) ∈ T
  · obtain ⟨a, b, h1, h2⟩ := mem_cut h
    have := cut_one (b := b) h2
    rw [← h1] at this
    exact .inr ⟨a, b, h1, h2, by rw [this], by rw [this]⟩
  · have := cut_none h
    exact .inl ⟨by rw [this], by rw [this], h⟩
theorem app_data (a b : ByteArray) : (a ++ b).data.toList = a.data.toList ++ b.data.toList := by rw [ByteArray.data_append, Array.toList_append]
theorem tidL_zero (ps : List ByteArray) : tidL (⟨#[]⟩ :: ps) (ps.length + 1) = tidL ps ps.length := by
  have h1 := tidL_all (⟨#[]⟩ :: ps)
  rw [List.length_cons] at h1
  rw [h1, tidL_all]
  rfl
theorem lastL_zero (ps : List ByteArray) : lastL (⟨#[]⟩ :: ps) (ps.length + 1) = lastL ps ps.length := by
  have h1 := lastL_all (⟨#[]⟩ :: ps)
  rw [List.length_cons] at h1
  rw [h1, lastL_all]
  cases ps <;> rfl
/-- The first part, which is empty, says nothing. -/
theorem tidyB_zero (ps : List ByteArray) : tidyB (⟨#[]⟩ :: ps) = tidyB ps := by
  unfold tidyB slashB
  rw [List.length_cons, tidL_zero, lastL_zero]
def slashL (ps : List ByteArray) : List UInt8 := if slashB ps = true then [47] else []
theorem tidyB_data (ps : List ByteArray) : (tidyB ps).data.toList = 47 :: (Lib.join ((tidL ps ps.length).map fun b => b.data.toList) [47] ++ slashL ps) := by
  unfold tidyB slashL
  split
  · rw [app_data, app_data, joinB_data]; rfl
  · rw [app_data, joinB_data, List.append_nil]; rfl
theorem slashB_iff (ps : List ByteArray) : slashB ps = true ↔ 0 < (tidL ps ps.length).length ∧ dotB (lastL ps ps.length) := by
  unfold slashB dotB
  simp only [Bool.and_eq_true, decide_eq_true_eq]
/-- The path of a key is a path of a key. -/
theorem tidy_id {ps : List ByteArray} (hs : ∀ w, w ∈ ps → (47 : UInt8) ∉ w.data.toList) : tidyB (wordsB (tidyB ps) ⟨#[47]⟩) = tidyB ps := by
  obtain ⟨L, hL⟩ : ∃ L, L = tidL ps ps.length := ⟨_, rfl⟩
  have hg : ∀ x, x ∈ L → x ∈ ps ∧ ¬ dotB x := fun x hx => by
    rw [hL, tidL_all] at hx
    rcases fold_mem ps [] x hx with h | h
    · cases h
    · exact h
  have hd := tidyB_data ps
  rw [← hL] at hd
  have hsep : (⟨#[47]⟩ : ByteArray).data.toList = [47] := rfl
  have hz : ((⟨#[]⟩ : ByteArray)).data.toList = [] := rfl
  have hcase : wordsB (tidyB ps) ⟨#[47]⟩ = ⟨#[]⟩ :: (L ++ if slashB ps = true then [⟨#[]⟩] else if L = [] then [⟨#[]⟩] else []) := by
    by_cases hnil : L = []
    · have hns : ¬ slashB ps = true := fun h => by have := (slashB_iff ps).1 h; rw [← hL, hnil] at this; simp at this
      refine words_join hsep (by simp) ?_ ?_
      · intro w hw
        simp [hns, hnil] at hw
        rw [hw]; simp
      · rw [hd, hnil]
        simp [hns, slashL, Lib.join, List.intercalate, List.intersperse]
    · by_cases hsl : slashB ps = true
      · refine words_join hsep (by simp) ?_ ?_
        · intro w hw
          simp only [hsl, if_true, List.mem_cons, List.mem_append] at hw
          rcases hw with hw | hw | hw | hw
          · rw [hw]; simp
          · exact hs w (hg w hw).1
          · rw [hw]; simp
          · cases hw
        · rw [hd]
          obtain ⟨a, r, hLa⟩ := List.exists_cons_of_ne_nil hnil
          have hj : ∀ (M : List (List UInt8)), M ≠ [] → Lib.join (M ++ [[]]) [47] = Lib.join M [47] ++ [47] := by
            intro M
            induction M with
            | nil => intro h; exact absurd rfl h
            | cons a r ih =>
              intro _
              cases r with
              | nil => simp [Lib.join, List.intercalate, List.intersperse]
              | cons b r =>
                rw [List.cons_append, List.cons_append, join_cons2, ← List.cons_append, ih (by simp), join_cons2]
                simp
          simp only [hsl, if_true, slashL, List.map_cons, List.map_append, List.map_nil]
          rw [← hj _ (by simpa using hnil)]
          obtain ⟨b, r2, hb⟩ := List.exists_cons_of_ne_nil (l := L.map (fun b => b.data.toList) ++ [[]]) (by simp)
          rw [hb, join_cons2]
          rfl
      · refine words_join hsep (by simp) ?_ ?_
        · intro w hw
          simp only [hsl, if_false, hnil, List.mem_cons, List.mem_append] at hw
          rcases hw with hw | hw | hw
          · rw [hw]; simp
          · exact hs w (hg w hw).1
          · simp at hw
        · rw [hd]
          simp only [hsl, if_false, hnil, slashL, List.map_cons, List.map_append]
          obtain ⟨b, r2, hb⟩ := List.exists_cons_of_ne_nil (l := L.map (fun b => b.data.toList)) (by simpa using hnil)
          simp only [Bool.false_eq_true, if_false, List.append_nil, List.map_nil]
          rw [hb, join_cons2]
          rfl
  rw [hcase, tidyB_zero]
  have hdz : dotB ⟨#[]⟩ := .inl rfl
  have hstep : ∀ M : List ByteArray, tidStep M ⟨#[]⟩ = M := fun M => by simp [tidStep]
  -- what is left
  obtain ⟨E, hE⟩ : ∃ E : List ByteArray, E = if slashB ps = true then [⟨#[]⟩] else if L = [] then [⟨#[]⟩] else [] := ⟨_, rfl⟩
  rw [← hE]
  have hEz : E = [] ∨ E = [⟨#[]⟩] := by
    rw [hE]
    split
    · exact .inr rfl
    · split
      · exact .inr rfl
      · exact .inl rfl
  have hT : tidL (L ++ E) (L ++ E).length = L := by
    rw [tidL_all, List.foldl_append, fold_good L [] (fun x hx => (hg x hx).2), List.nil_append]
    rcases hEz with h | h <;> rw [h]
    · rfl
    · exact hstep L
  have hS : slashB (L ++ E) = slashB ps := by
    rw [Bool.eq_iff_iff, slashB_iff, slashB_iff, hT, lastL_all, ← hL]
    constructor
    · rintro ⟨h1, h2⟩
      refine ⟨h1, ?_⟩
      have hne : L ≠ [] := List.length_pos_iff.1 h1
      by_cases hsl : slashB ps = true
      · exact ((slashB_iff ps).1 hsl).2
      · rw [if_neg hsl, if_neg hne] at hE
        rw [hE, List.append_nil] at h2
        exact absurd h2 (hg _ (by rw [List.getLastD_eq_getLast?, List.getLast?_eq_some_getLast hne]; exact List.getLast_mem hne)).2
    · rintro ⟨h1, h2⟩
      have hsl : slashB ps = true := (slashB_iff ps).2 ⟨by rw [← hL]; exact h1, h2⟩
      rw [if_pos hsl] at hE
      refine ⟨h1, ?_⟩
      rw [hE]
      simp [hdz]
  have e1 : (tidyB (L ++ E)).data.toList = (tidyB ps).data.toList := by
    rw [tidyB_data, tidyB_data, hT, ← hL]
    unfold slashL
    rw [hS]
  exact bytes_ext e1
theorem refS_data {L : List ByteArray} {x : ByteArray} (h : x ∈ refS L) : x ∈ L := refS_mem.1 h
set_option maxHeartbeats 1000000 in
theorem norm_id {q : ByteArray} {D : List ByteArray} (hr : reqB q = true) (hk : decOk q = true) :
    reqB (normG (decS q) D) = true ∧ decS (normG (decS q) D) = normG (decS q) D ∧ decOk (normG (decS q) D) = true ∧ normG (normG (decS q) D) D = normG (decS q) D ∧ (normG (decS q) D).size ≤ q.size := by
  obtain ⟨hq300, ⟨qr, hq0⟩, hqc⟩ := reqB_list hr
  obtain ⟨t, ht⟩ : ∃ t, t = decS q := ⟨_, rfl⟩
  obtain ⟨T, hT⟩ : ∃ T, decG q.data.toList = some T := Option.isSome_iff_exists.1 hk
  have htT : t.data.toList = T := by
    rw [ht]
    unfold decS
    rw [hT]
  have hTl := decG_len _ _ _ (Nat.le_refl _) hT
  have hql : q.data.toList.length = q.size := by rw [Array.length_toList]; rfl
  have hTs := dec_stb _ _ _ (Nat.le_refl _) hT
  have hTc := dec_ok _ _ _ (Nat.le_refl _) hqc hT
  obtain ⟨T', hT0⟩ : ∃ T', T = 47 :: T' := by
    rw [hq0, decG_as qr (by decide)] at hT
    cases e : decG qr with
    | none => rw [e] at hT; cases hT
    | some m => rw [e] at hT; cases hT; exact ⟨m, rfl⟩
  rw [← ht]
  obtain ⟨P, hP⟩ : ∃ P, P = cutP t ⟨#[63]⟩ := ⟨_, rfl⟩
  obtain ⟨Q, hQ⟩ : ∃ Q, Q = cutQ t ⟨#[63]⟩ := ⟨_, rfl⟩
  have hPd : P.data.toList = (Lib.cut T [63]).1 := by rw [hP]; unfold cutP; rw [mk_toArray, htT]
  have hQd : Q.data.toList = (Lib.cut T [63]).2.1 := by rw [hQ]; unfold cutQ; rw [mk_toArray, htT]
  have hx63 : hexV 63 = none := by decide +kernel
  have hx47 : hexV 47 = none := by decide +kernel
  have hx38 : hexV 38 = none := by decide +kernel
  -- the two halves
  have half : 63 ∉ P.data.toList ∧ Stb P.data.toList ∧ Stb Q.data.toList ∧ (∀ c, c ∈ P.data.toList → okC c) ∧ (∀ c, c ∈ Q.data.toList → okC c) ∧ (∃ p, P.data.toList = 47 :: p) ∧ P.data.toList.length ≤ T.length ∧ (Q.data.toList ≠ [] → P.data.toList.length + 1 + Q.data.toList.length ≤ T.length) := by
    rcases cut_facts T with ⟨h1, h2, h3⟩ | ⟨a, b, h1, h2, h3, h4⟩
    · rw [hPd, hQd, h1, h2]
      exact ⟨h3, hTs, Stb.nil, hTc, fun c hc => (by cases hc), ⟨T', hT0⟩, Nat.le_refl _, fun h => absurd rfl h⟩
    · rw [hPd, hQd, h3, h4]
      have hst := Stb.cut (c := 63) (by decide) hx63 _ a b (Nat.le_refl _) (by rw [← h1]; exact hTs)
      refine ⟨h2, hst.1, hst.2, fun c hc => hTc c (by rw [h1]; simp [hc]), fun c hc => hTc c (by rw [h1]; simp [hc]), ?_, by rw [h1]; simp, fun _ => by rw [h1]; simp; omega⟩
      cases a with
      | nil => rw [hT0] at h1; simp at h1
      | cons y r => rw [hT0] at h1; simp at h1; exact ⟨r, by rw [← h1.1]⟩
  obtain ⟨hP63, hPs, hQs, hPc, hQc, ⟨p, hp⟩, hPl, hPQ⟩ := half
  have hsl : (⟨#[47]⟩ : ByteArray).data.toList = [47] := rfl
  have hsa : (⟨#[38]⟩ : ByteArray).data.toList = [38] := rfl
  -- the path
  have hW := words_one (s := P) (sep := ⟨#[47]⟩) hsl (a := []) (b := p) (by rw [hp]; rfl) (by simp)
  obtain ⟨V, hV⟩ : ∃ V, V = wordsB ⟨p.toArray⟩ ⟨#[47]⟩ := ⟨_, rfl⟩
  rw [← hV] at hW
  have hWz : wordsB P ⟨#[47]⟩ = ⟨#[]⟩ :: V := hW
  obtain ⟨f1, f2⟩ := words_facts (s := P) hsl (by decide) hx47
  obtain ⟨g1, g2⟩ := words_facts (s := ⟨p.toArray⟩) hsl (by decide) hx47
  rw [← hV] at g1 g2
  have hVn : V ≠ [] := fun e => by
    have := words_length ⟨p.toArray⟩ ⟨#[47]⟩ (by decide)
    rw [← hV, e] at this
    simp at this
  have hVm : ∀ w, w ∈ V → (47 : UInt8) ∉ w.data.toList ∧ (∀ y, y ∈ w.data.toList → y ∈ P.data.toList) ∧ Stb w.data.toList := fun w hw => by
    obtain ⟨k1, k2, k3⟩ := f1 w (by rw [hWz]; exact List.mem_cons_of_mem _ hw)
    exact ⟨k1, k2, k3 hPs⟩
  obtain ⟨X, hX⟩ : ∃ X, X = tidyB V := ⟨_, rfl⟩
  have hXP : tidyB (wordsB P ⟨#[47]⟩) = X := by rw [hWz, tidyB_zero, hX]
  have hXd := tidyB_data V
  rw [← hX] at hXd
  have hL : ∀ x, x ∈ tidL V V.length → x ∈ V := fun x hx => tidL_mem V _ (Nat.le_refl _) x hx
  have hXm : ∀ y, y ∈ X.data.toList → y = 47 ∨ y ∈ P.data.toList := fun y hy => by
    rw [hXd, List.mem_cons, List.mem_append] at hy
    rcases hy with hy | hy | hy
    · exact .inl hy
    · rcases join_mem _ y hy with hy | ⟨w, hw, hy⟩
      · exact .inl hy
      · obtain ⟨x, hx, rfl⟩ := List.mem_map.1 hw
        exact .inr ((hVm x (hL x hx)).2.1 y hy)
    · unfold slashL at hy
      split at hy
      · exact .inl (List.mem_singleton.1 hy)
      · cases hy
  have hXs : Stb X.data.toList := by
    rw [hXd]
    refine Stb.cons (by decide) (Stb.append (join_stb (by decide) _ fun w hw => ?_) ?_)
    · obtain ⟨x, hx, rfl⟩ := List.mem_map.1 hw
      exact (hVm x (hL x hx)).2.2
    · unfold slashL
      split
      · exact Stb.nil.cons (by decide)
      · exact Stb.nil
  have hX63 : 63 ∉ X.data.toList := fun h => by
    rcases hXm _ h with h | h
    · exact absurd h (by decide)
    · exact hP63 h
  have hXl : X.data.toList.length ≤ P.data.toList.length := by
    have hwt := tid_wt (ps := V)
    have hpl : (⟨p.toArray⟩ : ByteArray).data.toList.length = p.length := by rw [mk_toArray]
    rw [g2, hpl] at hwt
    rw [hXd, hp]
    simp only [List.length_cons, List.length_append]
    by_cases hn : tidL V V.length = []
    · have hns : ¬ slashB V = true := fun h => by have := (slashB_iff V).1 h; rw [hn] at this; simp at this
      unfold slashL
      rw [if_neg hns, hn]
      simp [Lib.join_nil]
    · have hj := join_wt (c := 47) ((tidL V V.length).map fun b => b.data.toList) (by simpa using hn)
      have hj2 : wtL ((tidL V V.length).map fun b => b.data.toList) = wtB (tidL V V.length) := rfl
      unfold slashL
      split
      · rename_i h
        rw [if_pos ⟨((slashB_iff V).1 h).2, hVn⟩] at hwt
        simp only [List.length_singleton]
        omega
      · simp only [List.length_nil]
        split at hwt <;> omega
  -- the query
  obtain ⟨Y, hY⟩ : ∃ Y, Y = wordsB Q ⟨#[38]⟩ := ⟨_, rfl⟩
  obtain ⟨y1, y2⟩ := words_facts (s := Q) hsa (by decide) hx38
  rw [← hY] at y1 y2
  obtain ⟨F, hF⟩ : ∃ F, F = refS (partsQ t D) := ⟨_, rfl⟩
  have hpq : partsQ t D = Y.filter (keepP D) := by
    unfold partsQ
    rw [← hQ, ← hY, parF_all]
  have hFm : ∀ w, w ∈ F → w ∈ Y ∧ keepP D w = true := fun w hw => by
    rw [hF, refS_mem, hpq] at hw
    exact List.mem_filter.1 hw
  have hFlen : F.length = (partsQ t D).length := by rw [hF, refS_len]
  have hFsort : F.Pairwise (fun x y => cmpP x y ≤ 0) := by rw [hF]; exact refS_sorted _ _ rfl
  have hFwt : wtB F ≤ Q.data.toList.length + 1 := by
    rw [hF, wtB_perm (refS_perm _ _ rfl), hpq, ← y2]
    exact wtB_filter _ _
  have hFQ : F ≠ [] → Q.data.toList ≠ [] := fun hne e => by
    obtain ⟨w, hw⟩ := List.exists_mem_of_ne_nil F hne
    obtain ⟨h1, h2⟩ := hFm w hw
    rw [hY, words_none hsa (by rw [e]; simp), List.mem_singleton] at h1
    rw [h1] at h2
    have : Q = ⟨#[]⟩ := bytes_ext e
    unfold keepP at h2
    simp [this] at h2
  obtain ⟨N, hN⟩ : ∃ N, N = normG t D := ⟨_, rfl⟩
  obtain ⟨J, hJ⟩ : ∃ J, J = Lib.join (F.map fun b => b.data.toList) [38] := ⟨_, rfl⟩
  have hJs : Stb J := by
    rw [hJ]
    refine join_stb (by decide) _ fun w hw => ?_
    obtain ⟨x, hx, rfl⟩ := List.mem_map.1 hw
    exact (y1 x (hFm x hx).1).2.2 hQs
  have hJm : ∀ c, c ∈ J → okC c := fun c hc => by
    rw [hJ] at hc
    rcases join_mem _ c hc with rfl | ⟨w, hw, hy⟩
    · exact ⟨by decide, by decide⟩
    · obtain ⟨x, hx, rfl⟩ := List.mem_map.1 hw
      exact hQc c ((y1 x (hFm x hx).1).2.1 c hy)
  have hXc : ∀ c, c ∈ X.data.toList → okC c := fun c hc => by
    rcases hXm c hc with rfl | hc
    · exact ⟨by decide, by decide⟩
    · exact hPc c hc
  have hNd : N.data.toList = if F = [] then X.data.toList else X.data.toList ++ 63 :: J := by
    rw [hN]
    unfold normG
    rw [← hP, hXP, ← hFlen, ← hF]
    by_cases h : F = []
    · rw [if_neg (by simp [h]), if_pos h]
    · rw [if_pos (List.length_pos_iff.2 h), if_neg h, app_data, app_data, joinB_data, hJ]
      rfl
  have hNs : Stb N.data.toList := by
    rw [hNd]
    split
    · exact hXs
    · exact hXs.append (hJs.cons (by decide))
  have hNc : ∀ c, c ∈ N.data.toList → okC c := fun c hc => by
    rw [hNd] at hc
    split at hc
    · exact hXc c hc
    · rw [List.mem_append, List.mem_cons] at hc
      rcases hc with hc | rfl | hc
      · exact hXc c hc
      · exact ⟨by decide, by decide⟩
      · exact hJm c hc
  have hNl : N.data.toList.length ≤ q.data.toList.length := by
    rw [hNd]
    split
    · omega
    · rename_i h
      have h1 := hPQ (hFQ h)
      have h2 := join_wt (c := 38) (F.map fun b => b.data.toList) (by simpa using h)
      have h3 : wtL (F.map fun b => b.data.toList) = wtB F := rfl
      rw [← hJ] at h2
      simp only [List.length_append, List.length_cons]
      omega
  have hNsz : N.size ≤ q.size := by
    have : N.data.toList.length = N.size := by rw [Array.length_toList]; rfl
    omega
  have hN0 : ∃ r, N.data.toList = 47 :: r := by
    rw [hNd]
    split
    · exact ⟨_, hXd⟩
    · rw [hXd]; exact ⟨_, rfl⟩
  obtain ⟨nr, hnr⟩ := hN0
  have hreq := reqB_mk hnr (by omega) hNc
  have hdec : decS N = N ∧ decOk N = true := by
    unfold Stb at hNs
    unfold decS decOk
    rw [hNs]
    exact ⟨bytes_ext (mk_toArray _), rfl⟩
  rw [← hN]
  refine ⟨hreq, hdec.1, hdec.2, ?_, hNsz⟩
  -- the key of the key
  have hcut : (cutP N ⟨#[63]⟩).data.toList = X.data.toList ∧ (cutQ N ⟨#[63]⟩).data.toList = if F = [] then [] else J := by
    unfold cutP cutQ
    rw [mk_toArray, mk_toArray, hNd]
    by_cases h : F = []
    · rw [if_pos h, if_pos h]
      have := cut_none hX63
      exact ⟨by rw [show (⟨#[63]⟩ : ByteArray).data.toList = [63] from rfl, this], by rw [show (⟨#[63]⟩ : ByteArray).data.toList = [63] from rfl, this]⟩
    · rw [if_neg h, if_neg h]
      have := cut_one (b := J) hX63
      exact ⟨by rw [show (⟨#[63]⟩ : ByteArray).data.toList = [63] from rfl, this], by rw [show (⟨#[63]⟩ : ByteArray).data.toList = [63] from rfl, this]⟩
  have hcP : cutP N ⟨#[63]⟩ = X := bytes_ext hcut.1
  have hX2 : tidyB (wordsB X ⟨#[47]⟩) = X := by rw [hX]; exact tidy_id (fun w hw => (hVm w hw).1)
  have hparts : partsQ N D = F := by
    unfold partsQ
    rw [parF_all]
    by_cases h : F = []
    · rw [if_pos h] at hcut
      rw [words_none hsa (by rw [hcut.2]; simp), h, bytes_ext (a := cutQ N ⟨#[63]⟩) (b := ⟨#[]⟩) hcut.2]
      simp [keepP]
    · rw [if_neg h] at hcut
      rw [words_join hsa h (fun w hw => (y1 w (hFm w hw).1).1) (by rw [hcut.2, hJ])]
      exact List.filter_eq_self.2 (fun w hw => (hFm w hw).2)
  have hrf : refS F = F := refS_id _ F rfl hFsort
  apply bytes_ext
  unfold normG
  rw [hcP, hX2, hparts, hrf, hNd]
  by_cases h : F = []
  · rw [if_neg (by simp [h]), if_pos h]
  · rw [if_pos (List.length_pos_iff.2 h), if_neg h, app_data, app_data, joinB_data, hJ]
    rfl
theorem nr_id {q : ByteArray} {D : List ByteArray} (h : nrF q D = 0) : nrF (nrS q D) D = 0 ∧ nrS (nrS q D) D = nrS q D ∧ (nrS q D).size ≤ q.size := by
  have h1 : reqB q = true ∧ ¬ 20 < D.length ∧ decOk q = true := by
    unfold nrF at h
    split at h
    · simp at h
    · rename_i a
      split at h
      · simp at h
      · rename_i b
        split at h
        · simp at h
        · rename_i c
          exact ⟨by simpa using a, b, by simpa using c⟩
  obtain ⟨a, b, c⟩ := h1
  obtain ⟨q1, q2, q3, q4, q5⟩ := norm_id (D := D) a c
  have hS : nrS q D = normG (decS q) D := by unfold nrS; rw [if_pos h]
  rw [hS]
  have hF : nrF (normG (decS q) D) D = 0 := by unfold nrF; rw [if_neg (by simp [q1]), if_neg b, if_neg (by simp [q3])]
  refine ⟨hF, ?_, q5⟩
  unfold nrS
  rw [if_pos hF, q2, q4]
end Go.Proofs.YtmgbmoiefgfemaaDoor

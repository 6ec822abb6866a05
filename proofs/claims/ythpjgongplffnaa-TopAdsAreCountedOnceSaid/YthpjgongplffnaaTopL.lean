/- Events that are due while a timeline is played in stretches: plain. -/
import Derived.Test.YthpjgongplffnaaSesL
namespace Go.Proofs.Ythpjgongplffnaa
open Go.RowKit

/-- What is due between two ticks. -/
theorem mem_evRow {l : List Prt} {a b : Int} {i : Nat} {e : Ev} : ∀ j, e ∈ evRow l a b i j ↔ noAd (l.getD i default) = false ∧ e.se = ⟨#[]⟩ ∧ e.pl = i ∧ e.ad = (l.getD i default).ad ∧ (1 ≤ e.ki ∧ e.ki ≤ j) ∧ a ≤ tickOf l i e.ki ∧ tickOf l i e.ki < b
  | 0 => by
    constructor
    · intro h; cases h
    · rintro ⟨_, _, _, _, h, _⟩; omega
  | j + 1 => by
    show e ∈ evRow l a b i j ++ evOf l a b i j ↔ _
    rw [List.mem_append, mem_evRow j]
    unfold evOf
    constructor
    · rintro (⟨h1, h2, h3, h4, h5, h6⟩ | h)
      · exact ⟨h1, h2, h3, h4, by omega, h6⟩
      · split at h
        · rename_i hc
          simp only [List.mem_singleton] at h
          subst h
          exact ⟨hc.1, rfl, rfl, rfl, by simp only; omega, hc.2⟩
        · cases h
    · rintro ⟨h1, h2, h3, h4, h5, h6⟩
      by_cases hk : e.ki = (j : Int) + 1
      · right
        rw [hk] at h6
        rw [if_pos ⟨h1, h6⟩, List.mem_singleton]
        obtain ⟨s, p, ad, k⟩ := e
        simp only at h2 h3 h4 hk
        subst h2 h3 h4 hk
        rfl
      · exact Or.inl ⟨h1, h2, h3, h4, by omega, h6⟩
theorem mem_evAll {l : List Prt} {a b : Int} {e : Ev} : ∀ n, e ∈ evAll l a b n ↔ ∃ i, i < n ∧ noAd (l.getD i default) = false ∧ e.se = ⟨#[]⟩ ∧ e.pl = i ∧ e.ad = (l.getD i default).ad ∧ (1 ≤ e.ki ∧ e.ki ≤ 5) ∧ a ≤ tickOf l i e.ki ∧ tickOf l i e.ki < b
  | 0 => by
    constructor
    · intro h; cases h
    · rintro ⟨i, h, _⟩; omega
  | n + 1 => by
    show e ∈ evAll l a b n ++ evRow l a b n 5 ↔ _
    rw [List.mem_append, mem_evAll n, mem_evRow]
    constructor
    · rintro (⟨i, h1, h2⟩ | h2)
      · exact ⟨i, by omega, h2⟩
      · exact ⟨n, by omega, h2⟩
    · rintro ⟨i, h1, h2⟩
      by_cases e2 : i = n
      · subst e2; exact Or.inr h2
      · exact Or.inl ⟨i, by omega, h2⟩
theorem evRow_apt (l : List Prt) (a b : Int) (i : Nat) : ∀ j, (evRow l a b i j).Pairwise Apt
  | 0 => List.Pairwise.nil
  | j + 1 => by
    show (evRow l a b i j ++ evOf l a b i j).Pairwise Apt
    rw [List.pairwise_append]
    refine ⟨evRow_apt l a b i j, ?_, fun x hx y hy => ?_⟩
    · unfold evOf
      split <;> simp
    · obtain ⟨_, _, _, _, h1, _⟩ := (mem_evRow j).1 hx
      unfold evOf at hy
      split at hy
      · simp only [List.mem_singleton] at hy
        subst hy
        rintro ⟨_, h2⟩
        simp only at h2
        omega
      · cases hy
theorem evAll_apt (l : List Prt) (a b : Int) : ∀ n, (evAll l a b n).Pairwise Apt
  | 0 => List.Pairwise.nil
  | n + 1 => by
    show (evAll l a b n ++ evRow l a b n 5).Pairwise Apt
    rw [List.pairwise_append]
    refine ⟨evAll_apt l a b n, evRow_apt l a b n 5, fun x hx y hy => ?_⟩
    obtain ⟨i, hi, _, _, h1, _⟩ := (mem_evAll n).1 hx
    obtain ⟨_, _, h2, _⟩ := (mem_evRow 5).1 hy
    rintro ⟨h3, _⟩
    rw [h1, h2] at h3
    omega
/-- What has come when a tick is reached: each once. -/
def Came (l : List Prt) (s : ByteArray) (t : Int) (D : List Ev) : Prop :=
  D.Pairwise Apt ∧ ∀ e, e ∈ D ↔ ∃ i, i < l.length ∧ noAd (l.getD i default) = false ∧ e.se = s ∧ e.pl = i ∧ e.ad = (l.getD i default).ad ∧ (1 ≤ e.ki ∧ e.ki ≤ 5) ∧ tickOf l i e.ki < t
theorem came_start {l : List Prt} (h : checkP l = 0) (s : ByteArray) : Came l s 0 [] :=
  ⟨List.Pairwise.nil, fun e => ⟨fun h => (by cases h), fun ⟨i, hi, _, _, _, _, _, ht⟩ => by
    have := (tick_in h hi e.ki).1
    omega⟩⟩
theorem dueL_ok {l : List Prt} (h : checkP l = 0) {a b : Int} (ha : 0 ≤ a) (hab : a ≤ b) (hb : b ≤ 1000000000000000) : dueF l a b = 0 ∧ dueL l a b = evAll l a b l.length := by
  have h0 : dueF l a b = 0 := by
    unfold dueF
    rw [if_neg (by simp [h]), if_neg]
    unfold outB
    simp
    omega
  exact ⟨h0, by unfold dueL; rw [if_pos h0]⟩
theorem came_next {l : List Prt} (h : checkP l = 0) {s : ByteArray} {a b : Int} {D : List Ev} (hD : Came l s a D) (ha : 0 ≤ a) (hab : a ≤ b) (hb : b ≤ 1000000000000000) : Came l s b (D ++ (dueL l a b).map (setS s)) := by
  obtain ⟨h1, h2⟩ := hD
  rw [(dueL_ok h ha hab hb).2]
  refine ⟨?_, fun e => ?_⟩
  · rw [List.pairwise_append]
    refine ⟨h1, ?_, fun x hx y hy => ?_⟩
    · rw [List.pairwise_map]
      exact (evAll_apt l a b l.length).imp fun h => h
    · obtain ⟨i, _, _, _, p1, _, _, t1⟩ := (h2 x).1 hx
      obtain ⟨z, hz, rfl⟩ := List.mem_map.1 hy
      obtain ⟨j, _, _, _, p2, _, _, t2, _⟩ := (mem_evAll _).1 hz
      rintro ⟨e1, e2⟩
      simp only [setS] at e1 e2
      have : i = j := by omega
      subst this
      rw [e2] at t1
      omega
  · rw [List.mem_append, h2, List.mem_map]
    constructor
    · rintro (⟨i, q1, q2, q3, q4, q5, q6, q7⟩ | ⟨z, hz, rfl⟩)
      · exact ⟨i, q1, q2, q3, q4, q5, q6, by omega⟩
      · obtain ⟨j, r1, r2, r3, r4, r5, r6, r7, r8⟩ := (mem_evAll _).1 hz
        exact ⟨j, r1, r2, rfl, r4, r5, r6, r8⟩
    · rintro ⟨i, q1, q2, q3, q4, q5, q6, q7⟩
      by_cases ht : tickOf l i e.ki < a
      · exact Or.inl ⟨i, q1, q2, q3, q4, q5, q6, ht⟩
      · refine Or.inr ⟨⟨⟨#[]⟩, e.pl, e.ad, e.ki⟩, (mem_evAll _).2 ⟨i, q1, q2, rfl, q4, q5, q6, by simp only; omega, q7⟩, ?_⟩
        unfold setS
        rw [← q3]
theorem tick_end {l : List Prt} (h : checkP l = 0) {i : Nat} (hi : i < l.length) (k : Int) : tickOf l i k < sumL l := by
  have hbd := checkP_bd h
  have hx : l[i]? = some l[i] := by simp [hi]
  have hd : l.getD i default = l[i] := by rw [List.getD_eq_getElem?_getD, hx]; rfl
  have hp := hbd l[i] (List.getElem_mem hi)
  have h1 := need_bd (k := k) hp.1 hp.2
  have h3 := sumL_take hx
  have h4 : sumL (l.take (i + 1)) ≤ sumL l := by
    have e : sumL l = sumL (l.take (i + 1)) + sumL (l.drop (i + 1)) := by rw [← sumL_append, List.take_append_drop]
    have := (sumL_bd (l := l.drop (i + 1)) fun q hq => hbd q (List.mem_of_mem_drop hq)).1
    omega
  unfold tickOf
  rw [hd]
  omega
/-- How many parts are advertisements. -/
def adsN (l : List Prt) : Nat := l.countP fun p => !noAd p
def sumK : List Cnt → Int
  | [] => 0
  | c :: r => c.k0 + sumK r
theorem sumK_append (a b : List Cnt) : sumK (a ++ b) = sumK a + sumK b := by
  induction a with
  | nil => simp [sumK]
  | cons c r ih => simp only [List.cons_append, sumK, ih]; omega
theorem sum_names : ∀ (l : List Prt) (N : List ByteArray), N.Nodup → (∀ a ∈ N, a.toList.isEmpty = false) → (∀ p ∈ l, noAd p = false → p.ad ∈ N) → (N.map fun a => pcN l a).sum = adsN l
  | [], N, _, _, _ => by
    induction N with
    | nil => rfl
    | cons a r ih =>
      have h0 : ∀ L : List ByteArray, (L.map fun _ => 0).sum = 0 := fun L => by
        induction L with
        | nil => rfl
        | cons b t iht => simpa using iht
      exact h0 (a :: r)
  | p :: l, N, hn, he, hm => by
    classical
    have ih := sum_names l N hn he fun q hq => hm q (by simp [hq])
    have key : ∀ (M : List ByteArray), M.Nodup → (M.map fun a => pcN (p :: l) a).sum = (M.map fun a => pcN l a).sum + (if p.ad ∈ M then 1 else 0) := by
      intro M
      induction M with
      | nil => intro _; simp
      | cons a r ihr =>
        intro hM
        rw [List.nodup_cons] at hM
        have h1 := ihr hM.2
        simp only [List.map_cons, List.sum_cons]
        rw [h1]
        have h2 : pcN (p :: l) a = pcN l a + if p.ad = a then 1 else 0 := by
          unfold pcN
          rw [List.countP_cons]
          by_cases e : p.ad = a
          · subst e; simp
          · have : (p.ad.toList == a.toList) = false := by
              rw [beq_eq_false_iff_ne]; exact fun h => e (ba_eq h)
            rw [this, if_neg (by simp), if_neg e]
        rw [h2]
        by_cases e : p.ad = a
        · rw [if_pos e, if_neg (by rw [e]; exact hM.1), if_pos (by rw [e]; simp)]
          omega
        · rw [if_neg e]
          by_cases e2 : p.ad ∈ r
          · rw [if_pos e2, if_pos (by simp [e2])]; omega
          · rw [if_neg e2, if_neg (by simp [e, e2])]
            omega
    rw [key N hn, ih]
    unfold adsN
    rw [List.countP_cons]
    cases hp : noAd p
    · rw [if_pos (hm p (by simp) hp)]
      simp
    · have : p.ad ∉ N := fun h => by
        have := he _ h
        unfold noAd at hp
        rw [hp] at this
        cases this
      rw [if_neg this]
      simp
/-- What is counted of events that came, each once, told in any order and twice. -/
theorem came_counts {l : List Prt} (h : checkP l = 0) {s : ByteArray} {D : List Ev} (hD : Came l s (sumL l) D) (h0 : cntF l (D.reverse ++ D) = 0) :
    (cntI l (D.reverse ++ D)).length = D.length ∧ sumK (cntA l (D.reverse ++ D)) = adsN l ∧ ∀ c ∈ cntA l (D.reverse ++ D), (0 ≤ c.k0 ∧ c.k0 ≤ l.length) ∧ c.k1 = c.k0 ∧ c.k2 = c.k0 ∧ c.k3 = c.k0 ∧ c.k4 = c.k0 := by
  obtain ⟨hap, hmem⟩ := hD
  have hconc : ∀ e ∈ D, conc l e = true := by
    intro e he
    obtain ⟨i, h1, h3, h4, h5, h6, h7⟩ := (hmem e).1 he
    unfold conc ptAt
    rw [h5, Int.toNat_natCast, h3, h6, decide_eq_true (show (0 : Int) ≤ i by omega), decide_eq_true (show (i : Int) < l.length by omega)]
    simp
  have hapt : D.Pairwise fun a b => ¬(keyE a = keyE b ∧ a.ki = b.ki) := hap.imp fun hh e => by
    refine hh ⟨?_, e.2⟩
    have := e.1
    unfold keyE at this
    rw [Vk.mk.injEq] at this
    exact this.2
  have hst := stN_all hconc hapt D.length (Nat.le_refl _)
  rw [List.take_length] at hst
  have hs : SameT (stN l (D.reverse ++ D) (D.reverse ++ D).length).1 (stN l D D.length).1 := st_same fun e => by simp
  rw [hst] at hs
  have g1 := stN_goodG l (D.reverse ++ D) (D.reverse ++ D).length
  have g2 : GoodG l D := by have := stN_goodG l D D.length; rwa [hst] at this
  have e1 := len_same g1 g2 hs
  have e2 := stN_len l (D.reverse ++ D) (D.reverse ++ D).length
  have e4 : (D.reverse ++ D).length = D.length + D.length := by simp
  have hA : cntA l (D.reverse ++ D) = cntL l D := by
    unfold cntA
    rw [if_neg (by simp [h0])]
    exact cntL_same g1 g2 hs
  obtain ⟨n1, n2⟩ := nmN_inc (l := l) l.length (Nat.le_refl _)
  have hperm : (D.map fun e => ((e.pl, e.ad), e.ki)).Perm ((allE l l.length).map fun e => ((e.pl, e.ad), e.ki)) := by
    have nd : ∀ {A : List Ev}, A.Pairwise Apt → (A.map fun e => ((e.pl, e.ad), e.ki)).Nodup := by
      intro A hA
      unfold List.Nodup
      rw [List.pairwise_map]
      refine hA.imp ?_
      intro a b hab e
      simp only [Prod.mk.injEq] at e
      exact hab ⟨e.1.1, e.2⟩
    refine (List.perm_ext_iff_of_nodup (nd hap) (nd (allE_apt l l.length))).2 fun x => ?_
    rw [List.mem_map, List.mem_map]
    constructor
    · rintro ⟨e, he, rfl⟩
      obtain ⟨i, h1, h3, h4, h5, h6, h7, _⟩ := (hmem e).1 he
      exact ⟨⟨⟨#[]⟩, e.pl, e.ad, e.ki⟩, (mem_allE _).2 ⟨i, h1, h3, rfl, h5, h6, h7.1, h7.2⟩, rfl⟩
    · rintro ⟨e, he, rfl⟩
      obtain ⟨i, h1, h3, h4, h5, h6, h7, h8⟩ := (mem_allE _).1 he
      exact ⟨⟨s, e.pl, e.ad, e.ki⟩, (hmem _).2 ⟨i, h1, h3, rfl, h5, h6, ⟨h7, h8⟩, tick_end h h1 _⟩, rfl⟩
  have hne : ∀ a ∈ nmN l l.length, a.toList.isEmpty = false := fun a ha => by
    obtain ⟨j, p, hj, hp, hno, hpa⟩ := (n2 a).1 ha
    rw [← hpa]; exact hno
  have key : ∀ ad ∈ nmN l l.length, ∀ n, n < 5 → cK D ad n D = pcN l ad := by
    intro ad had n hn
    have f1 : D.countP (isK D ad n) = D.countP (fun e => e.ad.toList == ad.toList && (e.ki == 1)) := by
      refine List.countP_congr fun e he => ?_
      obtain ⟨i, h1, h3, h4, h5, h6, h7, _⟩ := (hmem e).1 he
      unfold isK
      rw [upTo_of (fun k hk1 hk5 => ?_) n hn, Bool.and_true]
      rw [toldL_iff]
      refine ⟨⟨e.se, i, (l.getD i default).ad, k⟩, (hmem _).2 ⟨i, h1, h3, h4, rfl, rfl, ⟨hk1, hk5⟩, tick_end h h1 _⟩, ?_, rfl⟩
      unfold keyE
      rw [h5]
    have f2 : D.countP (fun e => e.ad.toList == ad.toList && (e.ki == 1)) = (D.map fun e => ((e.pl, e.ad), e.ki)).countP (fun x => x.1.2.toList == ad.toList && (x.2 == 1)) := by
      rw [List.countP_map]; rfl
    have f3 : (allE l l.length).countP (fun e => e.ad.toList == ad.toList && (e.ki == 1)) = ((allE l l.length).map fun e => ((e.pl, e.ad), e.ki)).countP (fun x => x.1.2.toList == ad.toList && (x.2 == 1)) := by
      rw [List.countP_map]; rfl
    unfold cK
    rw [f1, f2, hperm.countP_eq, ← f3, count_allE (hne ad had) _ (Nat.le_refl _), List.take_length]
  refine ⟨?_, ?_, ?_⟩
  · unfold cntI
    rw [if_neg (by simp [h0])]
    omega
  · rw [hA]
    have hsum : ∀ N : List ByteArray, (∀ a ∈ N, a ∈ nmN l l.length) → sumK (N.map fun ad => cntS D ad D) = (((N.map fun a => pcN l a).sum : Nat) : Int) := by
      intro N
      induction N with
      | nil => intro _; rfl
      | cons a r ih =>
        intro hN
        simp only [List.map_cons, sumK, List.sum_cons]
        rw [ih fun b hb => hN b (by simp [hb])]
        show (cK D a 0 D : Int) + _ = _
        rw [key a (hN a (by simp)) 0 (by omega)]
        omega
    unfold cntL
    rw [hsum _ fun a ha => ha, sum_names l _ n1.nodup hne fun p hp hno => by
      obtain ⟨j, hj, rfl⟩ := List.mem_iff_getElem.1 hp
      exact (n2 _).2 ⟨j, l[j], hj, List.getElem?_eq_getElem hj, hno, rfl⟩]
  · intro c hc
    rw [hA] at hc
    unfold cntL at hc
    obtain ⟨ad, hm, rfl⟩ := List.mem_map.1 hc
    unfold cntS
    simp only
    rw [key ad hm 0 (by omega), key ad hm 1 (by omega), key ad hm 2 (by omega), key ad hm 3 (by omega), key ad hm 4 (by omega)]
    have : pcN l ad ≤ l.length := List.countP_le_length
    exact ⟨by omega, rfl, rfl, rfl, rfl⟩
end Go.Proofs.Ythpjgongplffnaa

/- Sessions that play all of a timeline: what they tell, and what is counted: plain. -/
import Derived.Test.YthpjgongplffnaaAnyL
import Derived.Test.YthpjgongplffnaaDueK
namespace Go.Proofs.Ythpjgongplffnaa
open Go.RowKit

/-- The five events of a part. -/
def rowE (l : List Prt) (i : Nat) : List Ev := if noAd (l.getD i default) = true then [] else [⟨⟨#[]⟩, i, (l.getD i default).ad, 1⟩, ⟨⟨#[]⟩, i, (l.getD i default).ad, 2⟩, ⟨⟨#[]⟩, i, (l.getD i default).ad, 3⟩, ⟨⟨#[]⟩, i, (l.getD i default).ad, 4⟩, ⟨⟨#[]⟩, i, (l.getD i default).ad, 5⟩]
def allE (l : List Prt) : Nat → List Ev
  | 0 => []
  | n + 1 => allE l n ++ rowE l n
theorem tick_in {l : List Prt} (h : checkP l = 0) {i : Nat} (hi : i < l.length) (k : Int) : 0 ≤ tickOf l i k ∧ tickOf l i k < 1000000000000000 := by
  have hbd := checkP_bd h
  have hs := (checkP_parts h).2.2.1
  have hx : l[i]? = some l[i] := by simp [hi]
  have hd : l.getD i default = l[i] := by rw [List.getD_eq_getElem?_getD, hx]; rfl
  have hp := hbd l[i] (List.getElem_mem hi)
  have h1 := need_bd (k := k) hp.1 hp.2
  have h2 := sumL_bd (l := l.take i) fun q hq => hbd q (List.mem_of_mem_take hq)
  have h3 := sumL_take hx
  have h4 : sumL (l.take (i + 1)) ≤ sumL l := by
    have e : sumL l = sumL (l.take (i + 1)) + sumL (l.drop (i + 1)) := by rw [← sumL_append, List.take_append_drop]
    have := (sumL_bd (l := l.drop (i + 1)) fun q hq => hbd q (List.mem_of_mem_drop hq)).1
    omega
  unfold tickOf
  rw [hd]
  omega
theorem evRow_all {l : List Prt} (h : checkP l = 0) {i : Nat} (hi : i < l.length) : evRow l 0 1000000000000000 i 5 = rowE l i := by
  unfold rowE
  cases hn : noAd (l.getD i default)
  · have e : ∀ j : Nat, evOf l 0 1000000000000000 i j = [⟨⟨#[]⟩, i, (l.getD i default).ad, (j : Int) + 1⟩] := fun j => by
      unfold evOf
      rw [if_pos ⟨hn, (tick_in h hi _).1, (tick_in h hi _).2⟩]
    simp only [evRow, e]
    simp
  · rw [evRow_none hn]
    simp
theorem evAll_all {l : List Prt} (h : checkP l = 0) : ∀ n, n ≤ l.length → evAll l 0 1000000000000000 n = allE l n
  | 0, _ => rfl
  | n + 1, hn => by
    show evAll l 0 1000000000000000 n ++ evRow l 0 1000000000000000 n 5 = allE l n ++ rowE l n
    rw [evAll_all h n (by omega), evRow_all h (by omega)]
theorem due_all {l : List Prt} (h : dueF l 0 1000000000000000 = 0) : checkP l = 0 ∧ dueL l 0 1000000000000000 = allE l l.length := by
  have hc : checkP l = 0 := by
    unfold dueF at h
    split at h
    · rename_i h1; exact absurd h h1
    · rename_i h1; simpa using h1
  exact ⟨hc, by unfold dueL; rw [if_pos h, evAll_all hc _ (Nat.le_refl _)]⟩
/-- What stands in a row. -/
theorem mem_rowE {l : List Prt} {i : Nat} {e : Ev} : e ∈ rowE l i ↔ noAd (l.getD i default) = false ∧ e.se = ⟨#[]⟩ ∧ e.pl = i ∧ e.ad = (l.getD i default).ad ∧ 1 ≤ e.ki ∧ e.ki ≤ 5 := by
  unfold rowE
  cases hn : noAd (l.getD i default)
  · rw [if_neg (by simp)]
    obtain ⟨s, p, a, k⟩ := e
    simp only [List.mem_cons, List.not_mem_nil, or_false, Ev.mk.injEq, true_and]
    constructor
    · rintro (⟨rfl, rfl, rfl, rfl⟩ | ⟨rfl, rfl, rfl, rfl⟩ | ⟨rfl, rfl, rfl, rfl⟩ | ⟨rfl, rfl, rfl, rfl⟩ | ⟨rfl, rfl, rfl, rfl⟩) <;> exact ⟨rfl, rfl, rfl, by decide, by decide⟩
    · rintro ⟨rfl, rfl, rfl, h1, h2⟩
      have : k = 1 ∨ k = 2 ∨ k = 3 ∨ k = 4 ∨ k = 5 := by omega
      rcases this with rfl | rfl | rfl | rfl | rfl <;> simp
  · simp
theorem mem_allE {l : List Prt} {e : Ev} : ∀ n, e ∈ allE l n ↔ ∃ i, i < n ∧ noAd (l.getD i default) = false ∧ e.se = ⟨#[]⟩ ∧ e.pl = i ∧ e.ad = (l.getD i default).ad ∧ 1 ≤ e.ki ∧ e.ki ≤ 5
  | 0 => by
    constructor
    · intro h; cases h
    · rintro ⟨i, h, _⟩; omega
  | n + 1 => by
    show e ∈ allE l n ++ rowE l n ↔ _
    rw [List.mem_append, mem_allE n, mem_rowE]
    constructor
    · rintro (⟨i, h1, h2⟩ | h2)
      · exact ⟨i, by omega, h2⟩
      · exact ⟨n, by omega, h2⟩
    · rintro ⟨i, h1, h2⟩
      by_cases e2 : i = n
      · subst e2; exact Or.inr h2
      · exact Or.inl ⟨i, by omega, h2⟩
def Apt (a b : Ev) : Prop := ¬(a.pl = b.pl ∧ a.ki = b.ki)
theorem allE_apt (l : List Prt) : ∀ n, (allE l n).Pairwise Apt
  | 0 => List.Pairwise.nil
  | n + 1 => by
    show (allE l n ++ rowE l n).Pairwise Apt
    rw [List.pairwise_append]
    refine ⟨allE_apt l n, ?_, fun a ha b hb => ?_⟩
    · unfold rowE
      split
      · exact List.Pairwise.nil
      · simp [Apt]
    · obtain ⟨i, hi, _, _, h1, _⟩ := (mem_allE n).1 ha
      obtain ⟨_, _, h2, _⟩ := mem_rowE.1 hb
      rintro ⟨h3, _⟩
      rw [h1, h2] at h3
      omega
/-- The name of a session. -/
def sess (i : Nat) : ByteArray := ⟨#[115, UInt8.ofNat (97 + i)]⟩
def setS (s : ByteArray) (e : Ev) : Ev := ⟨s, e.pl, e.ad, e.ki⟩
/-- What sessions tell. -/
def evS (d : List Ev) : Nat → List Ev
  | 0 => []
  | i + 1 => evS d i ++ d.map (setS (sess i))
theorem mem_evS {d : List Ev} {e : Ev} : ∀ n, e ∈ evS d n ↔ ∃ i x, i < n ∧ x ∈ d ∧ e = setS (sess i) x
  | 0 => by
    constructor
    · intro h; cases h
    · rintro ⟨i, _, h, _⟩; omega
  | n + 1 => by
    show e ∈ evS d n ++ d.map (setS (sess n)) ↔ _
    rw [List.mem_append, mem_evS n, List.mem_map]
    constructor
    · rintro (⟨i, x, h1, h2⟩ | ⟨x, h1, rfl⟩)
      · exact ⟨i, x, by omega, h2⟩
      · exact ⟨n, x, by omega, h1, rfl⟩
    · rintro ⟨i, x, h1, h2, h3⟩
      by_cases e2 : i = n
      · subst e2; exact Or.inr ⟨x, h2, h3.symm⟩
      · exact Or.inl ⟨i, x, by omega, h2, h3⟩
theorem evS_len (d : List Ev) : ∀ n, (evS d n).length = n * d.length
  | 0 => by simp [evS]
  | n + 1 => by
    show (evS d n ++ d.map (setS (sess n))).length = _
    rw [List.length_append, evS_len d n, List.length_map, Nat.succ_mul]
theorem sess_inj {i j : Nat} (hi : i < 3) (hj : j < 3) (h : sess i = sess j) : i = j := by
  have h1 : (i = 0 ∨ i = 1 ∨ i = 2) := by omega
  have h2 : (j = 0 ∨ j = 1 ∨ j = 2) := by omega
  rcases h1 with rfl | rfl | rfl <;> rcases h2 with rfl | rfl | rfl <;> first | rfl | (revert h; decide)
theorem evS_apt {d : List Ev} (hd : d.Pairwise Apt) : ∀ n, n ≤ 3 → (evS d n).Pairwise fun a b => ¬(keyE a = keyE b ∧ a.ki = b.ki)
  | 0, _ => List.Pairwise.nil
  | n + 1, hn => by
    show (evS d n ++ d.map (setS (sess n))).Pairwise _
    rw [List.pairwise_append]
    refine ⟨evS_apt hd n (by omega), ?_, fun a ha b hb => ?_⟩
    · rw [List.pairwise_map]
      refine hd.imp ?_
      rintro a b h ⟨h1, h2⟩
      simp only [keyE, setS, Vk.mk.injEq, true_and] at h1 h2
      exact h ⟨h1, h2⟩
    · obtain ⟨i, x, h1, _, rfl⟩ := (mem_evS n).1 ha
      obtain ⟨y, _, rfl⟩ := List.mem_map.1 hb
      rintro ⟨h3, _⟩
      simp only [keyE, setS, Vk.mk.injEq] at h3
      have := sess_inj (by omega) (by omega) h3.1
      omega
/-- All are good where each concerns the timeline and none comes twice. -/
theorem stN_all {l : List Prt} {es : List Ev} (hc : ∀ e ∈ es, conc l e = true) (hp : es.Pairwise fun a b => ¬(keyE a = keyE b ∧ a.ki = b.ki)) : ∀ n, n ≤ es.length → stN l es n = (es.take n, [])
  | 0, _ => rfl
  | n + 1, hn => by
    have ih := stN_all hc hp n (by omega)
    have hx : es[n]? = some es[n] := by simp
    have hg : (!conc l es[n] || toldL (stN l es n).1 es[n].se es[n].pl es[n].ki) = false := by
      rw [hc _ (List.getElem_mem _), Bool.not_true, Bool.false_or, ih]
      cases ht : toldL (es.take n) es[n].se es[n].pl es[n].ki
      · rfl
      · obtain ⟨e, he, h1, h2⟩ := (toldL_iff (v := keyE es[n])).1 ht
        obtain ⟨j, hj, rfl⟩ := List.mem_iff_getElem.1 he
        rw [List.getElem_take] at h1 h2
        rw [List.length_take] at hj
        exact absurd ⟨h1, h2⟩ (List.pairwise_iff_getElem.1 hp j n (by omega) (by omega) (by omega))
    rw [stN_good hx hg, ih, take_next hx]
theorem sess_name : ∀ i, i < 3 → nameB (sess i) = true := by
  intro i hi
  have h : i = 0 ∨ i = 1 ∨ i = 2 := by omega
  rcases h with rfl | rfl | rfl <;> decide +kernel
/-- How many parts are of an advertisement. -/
def pcN (l : List Prt) (a : ByteArray) : Nat := l.countP fun p => p.ad.toList == a.toList
theorem count_allE {l : List Prt} {a : ByteArray} (ha : a.toList.isEmpty = false) : ∀ n, n ≤ l.length → (allE l n).countP (fun e => e.ad.toList == a.toList && (e.ki == 1)) = pcN (l.take n) a
  | 0, _ => rfl
  | n + 1, hn => by
    have hx : l[n]? = some l[n] := by simp
    have hd : l.getD n default = l[n] := by rw [List.getD_eq_getElem?_getD, hx]; rfl
    show (allE l n ++ rowE l n).countP _ = _
    rw [List.countP_append, count_allE ha n (by omega), take_next hx]
    unfold pcN
    rw [List.countP_append, List.countP_singleton]
    congr 1
    unfold rowE
    rw [hd]
    cases hno : noAd l[n]
    · rw [if_neg (by simp)]
      simp only [List.countP_cons, List.countP_nil]
      cases (l[n].ad.toList == a.toList) <;> simp
    · rw [if_pos rfl]
      have : (l[n].ad.toList == a.toList) = false := by
        rw [beq_eq_false_iff_ne]
        intro e
        unfold noAd at hno
        rw [e, ha] at hno
        cases hno
      rw [this]
      simp
theorem count_evS {d : List Ev} {a : ByteArray} : ∀ n, (evS d n).countP (fun e => e.ad.toList == a.toList && (e.ki == 1)) = n * d.countP (fun e => e.ad.toList == a.toList && (e.ki == 1))
  | 0 => by simp [evS]
  | n + 1 => by
    show (evS d n ++ d.map (setS (sess n))).countP _ = _
    rw [List.countP_append, count_evS n, List.countP_map, Nat.succ_mul]
    rfl
theorem upTo_of {G : List Ev} {v : Vk} (h : ∀ k : Int, 1 ≤ k → k ≤ 5 → toldL G v.se v.pl k = true) : ∀ n, n < 5 → upTo G v n = true
  | 0, _ => h 1 (by omega) (by omega)
  | n + 1, hn => by
    show (upTo G v n && toldL G v.se v.pl (n + 2)) = true
    rw [upTo_of h n (by omega), h _ (by omega) (by omega)]
    rfl
/-- What is counted of sessions that play all. -/
theorem sessions {l : List Prt} (h : dueF l 0 1000000000000000 = 0) {S : Nat} (hS : S ≤ 3) (hb : (dueL l 0 1000000000000000).length * S ≤ 5000) :
    cntF l (evS (dueL l 0 1000000000000000) S) = 0 ∧ cntI l (evS (dueL l 0 1000000000000000) S) = [] ∧ ∀ c ∈ cntA l (evS (dueL l 0 1000000000000000) S), c.k0 = (S * pcN l c.ad : Nat) ∧ c.k1 = (S * pcN l c.ad : Nat) ∧ c.k2 = (S * pcN l c.ad : Nat) ∧ c.k3 = (S * pcN l c.ad : Nat) ∧ c.k4 = (S * pcN l c.ad : Nat) := by
  obtain ⟨hc, hd⟩ := due_all h
  rw [hd] at hb ⊢
  have hpf := (checkP_parts hc).2.1
  have hmem : ∀ e ∈ evS (allE l l.length) S, ∃ i s, i < l.length ∧ s < S ∧ noAd (l.getD i default) = false ∧ e.se = sess s ∧ e.pl = i ∧ e.ad = (l.getD i default).ad ∧ 1 ≤ e.ki ∧ e.ki ≤ 5 := by
    intro e he
    obtain ⟨s, x, hs, hx, rfl⟩ := (mem_evS S).1 he
    obtain ⟨i, h1, h2, h3, h4⟩ := (mem_allE _).1 hx
    exact ⟨i, s, h1, hs, h2, rfl, h4⟩
  have hconc : ∀ e ∈ evS (allE l l.length) S, conc l e = true := by
    intro e he
    obtain ⟨i, s, h1, h2, h3, h4, h5, h6, h7, h8⟩ := hmem e he
    unfold conc ptAt
    rw [h5, Int.toNat_natCast, h3, h6, decide_eq_true (show (0 : Int) ≤ i by omega), decide_eq_true (show (i : Int) < l.length by omega)]
    simp
  have hapt := evS_apt (allE_apt l l.length) S hS
  have hst := stN_all hconc hapt (evS (allE l l.length) S).length (Nat.le_refl _)
  rw [List.take_length] at hst
  have hF : cntF l (evS (allE l l.length) S) = 0 := by
    refine cntF_ok.2 ⟨hc, ?_, fun e he => ?_⟩
    · rw [evS_len, Nat.mul_comm]; exact hb
    · obtain ⟨i, s, h1, h2, h3, h4, h5, h6, h7, h8⟩ := hmem e he
      have hd2 : l.getD i default = l[i] := by rw [List.getD_eq_getElem?_getD, List.getElem?_eq_getElem h1]; rfl
      have hp := pf_zero (hpf l[i] (List.getElem_mem h1))
      have hn : nameB e.ad = true := by
        rw [hd2] at h3 h6
        rw [h6]
        rcases hp.1 with h9 | h9
        · rw [h3] at h9; cases h9
        · exact h9
      unfold evF
      rw [h4, sess_name s (by omega), hn, if_neg (by simp), if_neg]
      unfold outB
      simp
      omega
  refine ⟨hF, ?_, ?_⟩
  · unfold cntI
    rw [if_neg (by simp [hF]), hst]
  · intro c hc2
    unfold cntA at hc2
    rw [if_neg (by simp [hF]), hst] at hc2
    unfold cntL at hc2
    obtain ⟨ad, hm, rfl⟩ := List.mem_map.1 hc2
    obtain ⟨j, p, hj, hp, hno, hpa⟩ := ((nmN_inc (l := l) l.length (Nat.le_refl _)).2 ad).1 hm
    have hae : ad.toList.isEmpty = false := by rw [← hpa]; exact hno
    have key : ∀ n, n < 5 → cK (evS (allE l l.length) S) ad n (evS (allE l l.length) S) = S * pcN l ad := by
      intro n hn
      have e1 : (evS (allE l l.length) S).countP (isK (evS (allE l l.length) S) ad n) = (evS (allE l l.length) S).countP (fun e => e.ad.toList == ad.toList && (e.ki == 1)) := by
        refine List.countP_congr fun e he => ?_
        obtain ⟨i, s, h1, h2, h3, h4, h5, h6, h7, h8⟩ := hmem e he
        unfold isK
        rw [upTo_of (fun k hk1 hk5 => ?_) n hn, Bool.and_true]
        rw [toldL_iff]
        refine ⟨⟨sess s, i, (l.getD i default).ad, k⟩, (mem_evS S).2 ⟨s, ⟨⟨#[]⟩, i, (l.getD i default).ad, k⟩, h2, (mem_allE _).2 ⟨i, h1, h3, rfl, rfl, rfl, hk1, hk5⟩, rfl⟩, ?_, rfl⟩
        unfold keyE
        rw [h4, h5]
      unfold cK
      rw [e1, count_evS, count_allE hae _ (Nat.le_refl _), List.take_length]
    unfold cntS
    refine ⟨?_, ?_, ?_, ?_, ?_⟩
    · exact congrArg Int.ofNat (key 0 (by omega))
    · exact congrArg Int.ofNat (key 1 (by omega))
    · exact congrArg Int.ofNat (key 2 (by omega))
    · exact congrArg Int.ofNat (key 3 (by omega))
    · exact congrArg Int.ofNat (key 4 (by omega))
end Go.Proofs.Ythpjgongplffnaa

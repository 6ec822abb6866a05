/- Names found in whatever order and then sorted are the reference's; keys of a map in whatever order count what good events do: plain. -/
import Derived.Test.YthpjgongplffnaaCntM
import Derived.Test.YthpjgongplffnaaZerK
import Derived.Test.YthpjgongplffnaaIdxK
namespace Go.Proofs.Ythpjgongplffnaa
open Go.RowKit Go.Sort

theorem ba_eq {a b : ByteArray} (h : a.toList = b.toList) : a = b := by
  rw [ByteArray.toList_eq, ByteArray.toList_eq] at h
  obtain ⟨⟨x⟩⟩ := a
  obtain ⟨⟨y⟩⟩ := b
  simp only at h
  rw [h]
theorem ltB_irr (a : ByteArray) : ltB a a = false := by rw [ltB_eq]; exact decide_eq_false (List.lt_irrefl _)
theorem ltB_trans {a b c : ByteArray} (h1 : ltB a b = true) (h2 : ltB b c = true) : ltB a c = true := by
  rw [ltB_eq, decide_eq_true_eq] at *
  exact List.lt_trans h1 h2
theorem ltB_tri {a b : ByteArray} (h1 : ltB a b = false) (h2 : a ≠ b) : ltB b a = true := by
  have h := ltB_gtr b a
  change (!(ltB a b) && !(a.toList == b.toList)) = ltB b a at h
  rw [h1] at h
  rw [← h]
  have : (a.toList == b.toList) = false := by
    rw [beq_eq_false_iff_ne]
    exact fun e => h2 (ba_eq e)
  rw [this]
  rfl
/-- Names that increase. -/
def Inc (L : List ByteArray) : Prop := L.Pairwise fun a b => ltB a b = true
theorem Inc.nodup {L : List ByteArray} (h : Inc L) : L.Nodup := h.imp fun {a b} h e => by subst e; rw [ltB_irr] at h; cases h
theorem inc_eq {L M : List ByteArray} (h1 : Inc L) (h2 : Inc M) (h : ∀ a, a ∈ L ↔ a ∈ M) : L = M := by
  have hp : L.Perm M := (List.perm_ext_iff_of_nodup h1.nodup h2.nodup).2 h
  refine hp.eq_of_pairwise (le := fun a b => ltB a b = true) ?_ h1 h2
  intro a b _ _ h3 h4
  have := ltB_trans h3 h4
  rw [ltB_irr] at this
  cases this
/-- What stands below the place is not more, what stands from it on is more. -/
theorem downK_spec {L : List ByteArray} {a : ByteArray} (hL : Inc L) : ∀ k, k ≤ L.length → (∀ j b, L[j]? = some b → j < downK L a k → ltB a b = false) ∧ (∀ j b, L[j]? = some b → downK L a k ≤ j → j < k → ltB a b = true)
  | 0, _ => ⟨fun j b _ h => by simp [downK] at h, fun j b _ _ h => by omega⟩
  | k + 1, hk => by
    obtain ⟨b, hb⟩ : ∃ b, L[k]? = some b := ⟨L[k]'(by omega), by simp⟩
    cases hlt : ltB a b with
    | true =>
      rw [downK_lt hb hlt]
      obtain ⟨i1, i2⟩ := downK_spec hL k (by omega)
      refine ⟨i1, fun j c hc h1 h2 => ?_⟩
      by_cases e : j = k
      · subst e
        rw [hb] at hc
        cases hc
        exact hlt
      · exact i2 j c hc h1 (by omega)
    | false =>
      rw [downK_ge hb hlt]
      refine ⟨fun j c hc h => ?_, fun j c _ h1 h2 => by omega⟩
      by_cases e : j = k
      · subst e
        rw [hb] at hc
        cases hc
        exact hlt
      · cases hac : ltB a c
        · rfl
        · have : ltB c b = true := by
            obtain ⟨q1, rfl⟩ := List.getElem?_eq_some_iff.1 hc
            obtain ⟨q2, rfl⟩ := List.getElem?_eq_some_iff.1 hb
            exact List.pairwise_iff_getElem.1 hL j k q1 q2 (by omega)
          rw [ltB_trans hac this] at hlt
          cases hlt
theorem insN_inc {L : List ByteArray} {a : ByteArray} (hL : Inc L) : Inc (insN L a) ∧ ∀ b, b ∈ insN L a ↔ b = a ∨ b ∈ L := by
  obtain ⟨s1, s2⟩ := downK_spec (a := a) hL L.length (Nat.le_refl _)
  have hle := downK_le L a L.length
  unfold insN
  generalize downK L a L.length = k at s1 s2 hle
  by_cases hh : hasB L a k = true
  · rw [if_pos hh]
    refine ⟨hL, fun b => ⟨Or.inr, fun h => ?_⟩⟩
    rcases h with rfl | h
    · unfold hasB at hh
      simp only [Bool.and_eq_true, decide_eq_true_eq, beq_iff_eq] at hh
      obtain ⟨h0, h1⟩ := hh
      have := ba_eq h1
      rw [List.getD_eq_getElem?_getD, List.getElem?_eq_getElem (by omega)] at this
      rw [← this]
      exact List.getElem_mem _
    · exact h
  · rw [if_neg hh]
    refine ⟨?_, fun b => ?_⟩
    · unfold Inc
      rw [List.append_assoc, List.pairwise_append]
      have hL2 : Inc (L.take k ++ L.drop k) := by rw [List.take_append_drop]; exact hL
      obtain ⟨t1, t2, t3⟩ := List.pairwise_append.1 hL2
      have hdr : ∀ c ∈ L.drop k, ltB a c = true := fun c hc => by
        obtain ⟨j, hj, rfl⟩ := List.mem_iff_getElem.1 hc
        rw [List.getElem_drop]
        rw [List.length_drop] at hj
        exact s2 (k + j) _ (List.getElem?_eq_getElem (by omega)) (by omega) (by omega)
      have htk : ∀ c ∈ L.take k, ltB c a = true := fun c hc => by
        obtain ⟨j, hj, rfl⟩ := List.mem_iff_getElem.1 hc
        rw [List.length_take] at hj
        rw [List.getElem_take]
        have h1 := s1 j _ (List.getElem?_eq_getElem (show j < L.length by omega)) (by omega)
        refine ltB_tri h1 fun e => ?_
        refine hh ?_
        unfold hasB
        rw [Bool.and_eq_true, decide_eq_true_eq, beq_iff_eq]
        refine ⟨by omega, ?_⟩
        rw [List.getD_eq_getElem?_getD, List.getElem?_eq_getElem (show k - 1 < L.length by omega)]
        by_cases e2 : j = k - 1
        · subst e2; rw [← e]; rfl
        · exfalso
          have h2 : ltB L[j] L[k - 1] = true := List.pairwise_iff_getElem.1 hL j (k - 1) (by omega) (by omega) (by omega)
          have h3 := s1 (k - 1) _ (List.getElem?_eq_getElem (show k - 1 < L.length by omega)) (by omega)
          rw [← e] at h2
          rw [h2] at h3
          cases h3
      refine ⟨t1, ?_, fun c hc d hd => ?_⟩
      · rw [List.singleton_append, List.pairwise_cons]
        exact ⟨fun c hc => hdr c hc, t2⟩
      · rcases List.mem_append.1 hd with h | h
        · simp at h
          subst h
          exact htk c hc
        · exact t3 c hc d h
    · rw [List.append_assoc, List.mem_append, List.mem_append, List.mem_singleton]
      have : b ∈ L ↔ b ∈ L.take k ∨ b ∈ L.drop k := by rw [← List.mem_append, List.take_append_drop]
      rw [this]
      constructor
      · rintro (h | h | h)
        · exact Or.inr (Or.inl h)
        · exact Or.inl h
        · exact Or.inr (Or.inr h)
      · rintro (h | h | h)
        · exact Or.inr (Or.inl h)
        · exact Or.inl h
        · exact Or.inr (Or.inr h)
/-- Is a name among those of the first n parts? -/
def hasN (l : List Prt) (n : Nat) (a : ByteArray) : Prop := ∃ j p, j < n ∧ l[j]? = some p ∧ noAd p = false ∧ p.ad = a
theorem hasN_next {l : List Prt} {n : Nat} {p : Prt} (hx : l[n]? = some p) (a : ByteArray) : hasN l (n + 1) a ↔ (noAd p = false ∧ a = p.ad) ∨ hasN l n a := by
  constructor
  · rintro ⟨j, q, hj, hq, h1, h2⟩
    by_cases e : j = n
    · subst e
      rw [hx] at hq
      cases hq
      exact Or.inl ⟨h1, h2.symm⟩
    · exact Or.inr ⟨j, q, by omega, hq, h1, h2⟩
  · rintro (⟨h1, h2⟩ | ⟨j, q, hj, h⟩)
    · exact ⟨n, p, by omega, hx, h1, h2.symm⟩
    · exact ⟨j, q, by omega, h⟩
theorem nmN_inc {l : List Prt} : ∀ n, n ≤ l.length → Inc (nmN l n) ∧ ∀ b, b ∈ nmN l n ↔ hasN l n b
  | 0, _ => ⟨List.Pairwise.nil, fun b => by
    constructor
    · intro h; cases h
    · rintro ⟨j, _, hj, _⟩; omega⟩
  | n + 1, hn => by
    obtain ⟨i1, i2⟩ := nmN_inc (l := l) n (by omega)
    obtain ⟨p, hp⟩ : ∃ p, l[n]? = some p := ⟨l[n]'(by omega), by simp⟩
    rw [nmN_next hp]
    cases h : noAd p
    · rw [if_neg (by simp)]
      obtain ⟨j1, j2⟩ := insN_inc (a := p.ad) i1
      refine ⟨j1, fun b => ?_⟩
      rw [j2, hasN_next hp, h, i2]
      simp
    · rw [if_pos rfl]
      refine ⟨i1, fun b => ?_⟩
      rw [hasN_next hp, h, i2]
      simp
/-- The names as they come, each once. -/
def ddN (l : List Prt) : Nat → List ByteArray
  | 0 => []
  | n + 1 => if (!noAd (l.getD n default) && !(ddN l n).any (fun b => b.toList == (l.getD n default).ad.toList)) = true then ddN l n ++ [(l.getD n default).ad] else ddN l n
theorem ddN_next {l : List Prt} {n : Nat} {p : Prt} (hx : l[n]? = some p) : ddN l (n + 1) = if (!noAd p && !(ddN l n).any (fun b => b.toList == p.ad.toList)) = true then ddN l n ++ [p.ad] else ddN l n := by
  have e : l.getD n default = p := by rw [List.getD_eq_getElem?_getD, hx]; rfl
  show (if (!noAd (l.getD n default) && !(ddN l n).any (fun b => b.toList == (l.getD n default).ad.toList)) = true then ddN l n ++ [(l.getD n default).ad] else ddN l n) = _
  rw [e]
theorem ddN_len (l : List Prt) : ∀ n, (ddN l n).length ≤ n
  | 0 => Nat.le_refl _
  | n + 1 => by
    have := ddN_len l n
    unfold ddN
    split <;> simp <;> omega
theorem any_name (L : List ByteArray) (a : ByteArray) : L.any (fun b => b.toList == a.toList) = true ↔ a ∈ L := by
  rw [List.any_eq_true]
  constructor
  · rintro ⟨b, hb, h⟩
    rw [beq_iff_eq] at h
    rw [← ba_eq h]
    exact hb
  · intro h
    exact ⟨a, h, by simp⟩
theorem ddN_nodup {l : List Prt} : ∀ n, n ≤ l.length → (ddN l n).Nodup ∧ ∀ b, b ∈ ddN l n ↔ hasN l n b
  | 0, _ => ⟨List.Pairwise.nil, fun b => by
    constructor
    · intro h; cases h
    · rintro ⟨j, _, hj, _⟩; omega⟩
  | n + 1, hn => by
    obtain ⟨i1, i2⟩ := ddN_nodup (l := l) n (by omega)
    obtain ⟨p, hp⟩ : ∃ p, l[n]? = some p := ⟨l[n]'(by omega), by simp⟩
    rw [ddN_next hp]
    cases h : noAd p
    · by_cases ha : p.ad ∈ ddN l n
      · rw [if_neg (by rw [(any_name _ _).2 ha]; simp)]
        refine ⟨i1, fun b => ?_⟩
        rw [hasN_next hp, h, i2]
        constructor
        · exact Or.inr
        · rintro (⟨_, rfl⟩ | h)
          · exact (i2 _).1 ha
          · exact h
      · have hf : (ddN l n).any (fun b => b.toList == p.ad.toList) = false := by
          cases hc : (ddN l n).any (fun b => b.toList == p.ad.toList)
          · rfl
          · exact absurd ((any_name _ _).1 hc) ha
        rw [if_pos (by rw [hf]; rfl)]
        refine ⟨?_, fun b => ?_⟩
        · rw [List.nodup_append]
          exact ⟨i1, by simp, fun x hx y hy e => by simp at hy; subst hy; subst e; exact ha hx⟩
        · rw [hasN_next hp, h, List.mem_append, List.mem_singleton, i2]
          constructor
          · rintro (h | h)
            · exact Or.inr h
            · exact Or.inl ⟨rfl, h⟩
          · rintro (⟨_, h⟩ | h)
            · exact Or.inr h
            · exact Or.inl h
    · rw [if_neg (by simp)]
      refine ⟨i1, fun b => ?_⟩
      rw [hasN_next hp, h, i2]
      simp
theorem sortN_inc {L : List ByteArray} (h : L.Nodup) : Inc (sortN L) ∧ ∀ b, b ∈ sortN L ↔ b ∈ L := by
  have hp : (sortN L).Perm L := List.mergeSort_perm _ _
  refine ⟨?_, fun b => hp.mem_iff⟩
  have hs : (sortN L).Pairwise fun x y => (!(ltOf cmpZ) y x) = true := by
    unfold sortN
    refine List.pairwise_mergeSort ?_ ?_ L
    · intro a b c h1 h2
      rw [ltOf_cmpZ, Bool.not_eq_true'] at *
      cases h3 : ltB c a
      · rfl
      · exfalso
        by_cases e : b = c
        · subst e; rw [h3] at h1; cases h1
        · have := ltB_tri h2 (fun e2 => e e2.symm)
          rw [ltB_trans this h3] at h1
          cases h1
    · intro a b
      rw [ltOf_cmpZ, ltOf_cmpZ]
      cases h1 : ltB b a
      · simp
      · cases h2 : ltB a b
        · simp
        · have := ltB_trans h1 h2
          rw [ltB_irr] at this
          cases this
  have hn : (sortN L).Nodup := hp.nodup_iff.2 h
  unfold Inc
  refine List.Pairwise.imp ?_ (hs.and hn)
  rintro a b ⟨h1, h2⟩
  rw [ltOf_cmpZ, Bool.not_eq_true'] at h1
  exact ltB_tri h1 (fun e => h2 e.symm)
theorem sort_names (l : List Prt) : sortN (ddN l l.length) = nmN l l.length := by
  obtain ⟨d1, d2⟩ := ddN_nodup (l := l) l.length (Nat.le_refl _)
  obtain ⟨s1, s2⟩ := sortN_inc d1
  obtain ⟨n1, n2⟩ := nmN_inc (l := l) l.length (Nat.le_refl _)
  exact inc_eq s1 n1 fun a => by rw [s2, d2, n2]

/-- Good events: each of an advertisement of the timeline, each kind of each key once. -/
def GoodG (l : List Prt) (G : List Ev) : Prop := (∀ e ∈ G, conc l e = true) ∧ G.Pairwise fun a b => ¬(keyE a = keyE b ∧ a.ki = b.ki)
theorem stN_goodG (l : List Prt) (es : List Ev) : ∀ n, GoodG l (stN l es n).1
  | 0 => ⟨fun e h => (by cases h), List.Pairwise.nil⟩
  | n + 1 => by
    obtain ⟨i1, i2⟩ := stN_goodG l es n
    show GoodG l (if (!conc l (es.getD n default) || toldL (stN l es n).1 (es.getD n default).se (es.getD n default).pl (es.getD n default).ki) = true then ((stN l es n).1, (stN l es n).2 ++ [(n : Int)]) else ((stN l es n).1 ++ [es.getD n default], (stN l es n).2) : List Ev × List Int).1
    generalize es.getD n default = e
    generalize (stN l es n).1 = G at *
    split
    · exact ⟨i1, i2⟩
    · rename_i h
      rw [Bool.not_eq_true, Bool.or_eq_false_iff] at h
      obtain ⟨h1, h2⟩ := h
      refine ⟨fun x hx => ?_, ?_⟩
      · rcases List.mem_append.1 hx with hx | hx
        · exact i1 x hx
        · simp at hx; subst hx; simpa using h1
      · rw [List.pairwise_append]
        refine ⟨i2, by simp, fun a ha b hb => ?_⟩
        simp at hb
        subst hb
        rintro ⟨k1, k2⟩
        have := (toldL_iff (G := G) (v := keyE b) (k := b.ki)).2 ⟨a, ha, k1, k2⟩
        rw [show toldL G (keyE b).se (keyE b).pl b.ki = false from h2] at this
        cases this
theorem mem_keysG (G : List Ev) (v : Vk) : v ∈ keysG G ↔ ∃ e ∈ G, keyE e = v := by
  have h : ∀ (G : List Ev) (ks : List Vk), v ∈ G.foldl (fun ks e => if keyE e ∈ ks then ks else ks ++ [keyE e]) ks ↔ v ∈ ks ∨ ∃ e ∈ G, keyE e = v := by
    intro G
    induction G with
    | nil => intro ks; simp
    | cons a r ih =>
      intro ks
      rw [List.foldl_cons, ih]
      by_cases hm : keyE a ∈ ks
      · rw [if_pos hm]
        simp only [List.mem_cons, exists_eq_or_imp]
        constructor
        · rintro (h | h)
          · exact Or.inl h
          · exact Or.inr (Or.inr h)
        · rintro (h | h | h)
          · exact Or.inl h
          · subst h; exact Or.inl hm
          · exact Or.inr h
      · rw [if_neg hm]
        simp only [List.mem_cons, exists_eq_or_imp, List.mem_append, List.not_mem_nil, or_false]
        constructor
        · rintro ((h | h) | h)
          · exact Or.inl h
          · exact Or.inr (Or.inl h.symm)
          · exact Or.inr (Or.inr h)
        · rintro (h | h | h)
          · exact Or.inl (Or.inl h)
          · exact Or.inl (Or.inr h.symm)
          · exact Or.inr h
  have := h G []
  simpa [keysG] using this
theorem keysG_nodup (G : List Ev) : (keysG G).Nodup := by
  have h : ∀ (G : List Ev) (ks : List Vk), ks.Nodup → (G.foldl (fun ks e => if keyE e ∈ ks then ks else ks ++ [keyE e]) ks).Nodup := by
    intro G
    induction G with
    | nil => intro ks h; exact h
    | cons a r ih =>
      intro ks h
      rw [List.foldl_cons]
      refine ih _ ?_
      split
      · exact h
      · rename_i hm
        rw [List.nodup_append]
        exact ⟨h, by simp, fun x hx y hy e => by simp at hy; subst hy; subst e; exact hm hx⟩
  exact h G [] (by simp)
theorem keysG_len (G : List Ev) : (keysG G).length ≤ G.length := by
  have h : ∀ (G : List Ev) (ks : List Vk), (G.foldl (fun ks e => if keyE e ∈ ks then ks else ks ++ [keyE e]) ks).length ≤ ks.length + G.length := by
    intro G
    induction G with
    | nil => intro ks; simp
    | cons a r ih =>
      intro ks
      rw [List.foldl_cons]
      refine Nat.le_trans (ih _) ?_
      split <;> simp <;> omega
  have := h G []
  simpa [keysG] using this
/-- The advertisement at a key. -/
def adV (l : List Prt) (v : Vk) : ByteArray := (ptAt l v.pl).ad
def isV (l : List Prt) (G : List Ev) (ad : ByteArray) (n : Nat) (v : Vk) : Bool := ((adV l v).toList == ad.toList) && upTo G v n
def cV (l : List Prt) (G : List Ev) (ad : ByteArray) (n : Nat) (S : List Vk) : Nat := S.countP (isV l G ad n)
theorem upTo_one {G : List Ev} {v : Vk} : ∀ {n : Nat}, upTo G v n = true → toldL G v.se v.pl 1 = true
  | 0, h => h
  | n + 1, h => by
    have : (upTo G v n && toldL G v.se v.pl (n + 2)) = true := h
    rw [Bool.and_eq_true] at this
    exact upTo_one this.1
theorem conc_ad {l : List Prt} {e : Ev} (h : conc l e = true) : adV l (keyE e) = e.ad := by
  unfold conc at h
  rw [Bool.and_eq_true] at h
  show (ptAt l e.pl).ad = e.ad
  show (ptAt l e.pl).ad = e.ad
  exact ba_eq (by simpa using h.2)
theorem cV_keys {l : List Prt} {G : List Ev} (hG : GoodG l G) (ad : ByteArray) (n : Nat) : cV l G ad n (keysG G) = cK G ad n G := by
  obtain ⟨g1, g2⟩ := hG
  have e1 : cK G ad n G = ((G.filter fun e => e.ki == 1).map keyE).countP (isV l G ad n) := by
    unfold cK
    rw [List.countP_map, List.countP_filter]
    refine List.countP_congr fun e he => ?_
    have hc := conc_ad (g1 e he)
    unfold isK
    show _ ↔ (((isV l G ad n) ∘ keyE) e && (e.ki == 1)) = true
    show _ ↔ ((((adV l (keyE e)).toList == ad.toList) && upTo G (keyE e) n) && (e.ki == 1)) = true
    rw [hc]
    cases (e.ad.toList == ad.toList) <;> cases (e.ki == 1) <;> cases upTo G (keyE e) n <;> simp
  have e2 : cV l G ad n (keysG G) = ((keysG G).filter fun v => toldL G v.se v.pl 1).countP (isV l G ad n) := by
    unfold cV
    rw [List.countP_filter]
    refine List.countP_congr fun v _ => ?_
    constructor
    · intro h
      rw [Bool.and_eq_true]
      refine ⟨h, ?_⟩
      unfold isV at h
      rw [Bool.and_eq_true] at h
      exact upTo_one h.2
    · intro h
      rw [Bool.and_eq_true] at h
      exact h.1
  rw [e1, e2]
  refine List.Perm.countP_eq _ ((List.perm_ext_iff_of_nodup ((keysG_nodup G).filter _) ?_).2 fun v => ?_)
  · unfold List.Nodup
    rw [List.pairwise_map, List.pairwise_filter]
    refine g2.imp ?_
    intro a b h h1 h2 e
    refine h ⟨e, ?_⟩
    simp only [beq_iff_eq] at h1 h2
    rw [h1, h2]
  · rw [List.mem_filter, toldL_iff, mem_keysG, List.mem_map]
    constructor
    · rintro ⟨_, e, he, h1, h2⟩
      exact ⟨e, List.mem_filter.2 ⟨he, by simp [h2]⟩, h1⟩
    · rintro ⟨e, he, h1⟩
      rw [List.mem_filter] at he
      exact ⟨⟨e, he.1, h1⟩, e, he.1, h1, by simpa using he.2⟩

/-- The counts while keys are still to come. -/
def curC (l : List Prt) (G : List Ev) (left : List Vk) (ad : ByteArray) (n : Nat) : Int := (cV l G ad n (keysG G) : Int) - cV l G ad n left
def curK (l : List Prt) (G : List Ev) (left : List Vk) (ad : ByteArray) : Cnt := ⟨ad, curC l G left ad 0, curC l G left ad 1, curC l G left ad 2, curC l G left ad 3, curC l G left ad 4⟩
def curL (l : List Prt) (G : List Ev) (left : List Vk) : List Cnt := (nmN l l.length).map (curK l G left)
theorem curL_start (l : List Prt) (G : List Ev) : curL l G (keysG G) = (nmN l l.length).map zeroK := by
  unfold curL
  refine List.map_congr_left fun a _ => ?_
  simp [curK, curC]
theorem curL_end {l : List Prt} {G : List Ev} (hG : GoodG l G) : curL l G [] = cntL l G := by
  unfold curL cntL
  refine List.map_congr_left fun a _ => ?_
  unfold curK cntS curC
  simp only [cV_keys hG]
  simp [cV]
theorem curC_step {l : List Prt} {G : List Ev} {left : List Vk} {v : Vk} (h : v ∈ left) (ad : ByteArray) (n : Nat) : curC l G (left.erase v) ad n = curC l G left ad n + if isV l G ad n v = true then 1 else 0 := by
  have hp := (List.perm_cons_erase h).countP_eq (isV l G ad n)
  unfold curC cV
  rw [hp, List.countP_cons]
  split <;> simp <;> omega
theorem curC_bd {l : List Prt} {G : List Ev} {left : List Vk} (hs : ∀ v ∈ left, v ∈ keysG G) (hn : left.Nodup) (ad : ByteArray) (n : Nat) : 0 ≤ curC l G left ad n ∧ curC l G left ad n ≤ G.length := by
  have h1 : cV l G ad n left ≤ cV l G ad n (keysG G) := by
    unfold cV
    have hp : left.Perm ((keysG G).filter fun v => decide (v ∈ left)) := (List.perm_ext_iff_of_nodup hn ((keysG_nodup G).filter _)).2 fun v => by
      rw [List.mem_filter, decide_eq_true_eq]
      exact ⟨fun h => ⟨hs v h, h⟩, fun h => h.2⟩
    rw [hp.countP_eq]
    exact List.Sublist.countP_le List.filter_sublist
  have h2 : cV l G ad n (keysG G) ≤ (keysG G).length := List.countP_le_length
  have h3 := keysG_len G
  unfold curC
  omega
/-- Where a key's advertisement stands. -/
theorem curL_at {l : List Prt} {G : List Ev} (hG : GoodG l G) {v : Vk} (hv : v ∈ keysG G) (left : List Vk) :
    ∃ i : Nat, (nmN l l.length)[i]? = some (adV l v) ∧ fidxK (fun c => c.ad.toList == (adV l v).toList) (curL l G left) = i ∧ (curL l G left)[i]? = some (curK l G left (adV l v)) := by
  obtain ⟨n1, n2⟩ := nmN_inc (l := l) l.length (Nat.le_refl _)
  obtain ⟨e, he, rfl⟩ := (mem_keysG G v).1 hv
  have hc := hG.1 e he
  have hm : adV l (keyE e) ∈ nmN l l.length := by
    rw [n2]
    unfold conc at hc
    simp only [Bool.and_eq_true, decide_eq_true_eq, Bool.not_eq_true'] at hc
    refine ⟨e.pl.toNat, ptAt l e.pl, by omega, ?_, hc.1.2, rfl⟩
    unfold ptAt
    rw [List.getD_eq_getElem?_getD, List.getElem?_eq_getElem (show e.pl.toNat < l.length by omega)]
    rfl
  obtain ⟨i, hi, hx⟩ := List.mem_iff_getElem.1 hm
  have hx2 : (nmN l l.length)[i]? = some (adV l (keyE e)) := by rw [List.getElem?_eq_getElem hi, hx]
  have hx3 : (curL l G left)[i]? = some (curK l G left (adV l (keyE e))) := by
    unfold curL
    rw [List.getElem?_map, hx2]
    rfl
  refine ⟨i, hx2, (fidxK_hit hx3 (by simp [curK]) fun j y hy hj => ?_).1, hx3⟩
  unfold curL at hy
  rw [List.getElem?_map, List.getElem?_eq_getElem (show j < (nmN l l.length).length by omega)] at hy
  simp only [Option.map_some, Option.some.injEq] at hy
  subst hy
  have hlt := List.pairwise_iff_getElem.1 n1 j i (by omega) hi hj
  show ((nmN l l.length)[j].toList == _) = false
  rw [beq_eq_false_iff_ne]
  intro e2
  have := ba_eq e2
  rw [this, hx, ltB_irr] at hlt
  cases hlt
theorem curL_next {l : List Prt} {G : List Ev} {left : List Vk} {v : Vk} (h : v ∈ left) {i : Nat} (hi : (nmN l l.length)[i]? = some (adV l v)) :
    curL l G (left.erase v) = (curL l G left).set i ⟨adV l v, curC l G left (adV l v) 0 + (if upTo G v 0 = true then 1 else 0), curC l G left (adV l v) 1 + (if upTo G v 1 = true then 1 else 0), curC l G left (adV l v) 2 + (if upTo G v 2 = true then 1 else 0), curC l G left (adV l v) 3 + (if upTo G v 3 = true then 1 else 0), curC l G left (adV l v) 4 + (if upTo G v 4 = true then 1 else 0)⟩ := by
  obtain ⟨n1, _⟩ := nmN_inc (l := l) l.length (Nat.le_refl _)
  refine List.ext_getElem? fun j => ?_
  unfold curL
  rw [List.getElem?_map, List.getElem?_set, List.length_map, List.getElem?_map]
  obtain ⟨hil, hie⟩ := List.getElem?_eq_some_iff.1 hi
  by_cases e : i = j
  · subst e
    rw [if_pos rfl, if_pos hil, hi]
    simp only [Option.map_some, Option.some.injEq]
    unfold curK
    rw [curC_step h, curC_step h, curC_step h, curC_step h, curC_step h]
    simp [isV]
  · rw [if_neg e]
    cases hj : (nmN l l.length)[j]? with
    | none => rfl
    | some a =>
      simp only [Option.map_some, Option.some.injEq]
      obtain ⟨hjl, hje⟩ := List.getElem?_eq_some_iff.1 hj
      have hne : ((adV l v).toList == a.toList) = false := by
        rw [beq_eq_false_iff_ne]
        intro e2
        have e3 := ba_eq e2
        have hnd := n1.nodup
        rw [← hie, ← hje] at e3
        exact e ((List.getElem_inj hnd).1 e3)
      unfold curK
      rw [curC_step h, curC_step h, curC_step h, curC_step h, curC_step h]
      simp [isV, hne]
end Go.Proofs.Ythpjgongplffnaa

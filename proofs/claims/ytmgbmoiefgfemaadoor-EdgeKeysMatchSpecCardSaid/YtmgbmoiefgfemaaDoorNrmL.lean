/- The plain law of keys: of a key the key is the key. -/
import Derived.Test.YtmgbmoiefgfemaaDoorNrmW
namespace Go.Proofs.YtmgbmoiefgfemaaDoor
open Go.RowKit Go.Lib

/-- Bytes that read as themselves. -/
def Stb (l : List UInt8) : Prop := decG l = some l
theorem Stb.nil : Stb [] := by unfold Stb; rw [decG]
theorem hexV_dig : ∀ k, k < 16 → hexV (digU k) = some k := by decide +kernel
theorem com_37 : comU 37 = false := by decide +kernel
theorem Stb.cons {c : UInt8} {l : List UInt8} (hc : c ≠ 37) (h : Stb l) : Stb (c :: l) := by
  unfold Stb at *
  rw [decG_as l hc, h]
  rfl
theorem Stb.tail {c : UInt8} {l : List UInt8} (hc : c ≠ 37) (h : Stb (c :: l)) : Stb l := by
  unfold Stb at *
  rw [decG_as l hc] at h
  cases e : decG l with
  | none => rw [e] at h; cases h
  | some m => rw [e] at h; simp at h; rw [h]
theorem pct_cases (N : Nat) : (comU (UInt8.ofNat N) = true ∧ pctU N = [UInt8.ofNat N] ∧ UInt8.ofNat N ≠ 37) ∨ (comU (UInt8.ofNat N) = false ∧ pctU N = [37, digU (N / 16), digU (N % 16)]) := by
  unfold pctU
  cases h : comU (UInt8.ofNat N)
  · exact .inr ⟨rfl, by simp⟩
  · refine .inl ⟨rfl, by simp, fun e => ?_⟩
    rw [e, com_37] at h
    cases h
theorem dec_pct {N : Nat} (hN : N < 256) (l : List UInt8) : decG (pctU N ++ l) = (decG l).map (pctU N ++ ·) := by
  rcases pct_cases N with ⟨_, h2, h3⟩ | ⟨h1, h2⟩
  · rw [h2]
    show decG (UInt8.ofNat N :: l) = _
    rw [decG_as l h3]
    rfl
  · rw [h2]
    show decG (37 :: digU (N / 16) :: digU (N % 16) :: l) = _
    rw [decG_pct l (hexV_dig _ (by omega)) (hexV_dig _ (by omega)), show 16 * (N / 16) + N % 16 = N by omega, h2]
theorem dec_stb : ∀ (n : Nat) (l m : List UInt8), l.length ≤ n → decG l = some m → Stb m
  | _, [], m, _, h => by rw [decG] at h; cases h; exact Stb.nil
  | 0, c :: r, m, hn, _ => by simp at hn
  | n + 1, c :: r, m, hn, h => by
    by_cases e : c = 37
    · subst e
      match r, hn, h with
      | [], _, h => rw [decG_short (by simp)] at h; cases h
      | [_], _, h => rw [decG_short (by simp)] at h; cases h
      | a :: b :: t, hn, h =>
        cases ha : hexV a with
        | none => rw [decG_no t (.inl ha)] at h; cases h
        | some x =>
          cases hb : hexV b with
          | none => rw [decG_no t (.inr hb)] at h; cases h
          | some y =>
            rw [decG_pct t ha hb] at h
            cases ht : decG t with
            | none => rw [ht] at h; cases h
            | some t' =>
              rw [ht] at h
              cases h
              have h1 := dec_stb n t t' (by simp at hn; omega) ht
              have hx := hexV_lt ha
              have hy := hexV_lt hb
              show decG (pctU (16 * x + y) ++ t') = some (pctU (16 * x + y) ++ t')
              rw [dec_pct (by omega), h1]
              rfl
    · rw [decG_as r e] at h
      cases ht : decG r with
      | none => rw [ht] at h; cases h
      | some t' =>
        rw [ht] at h
        cases h
        exact (dec_stb n r t' (by simp at hn; omega) ht).cons e
/-- What reads as itself can be cut at a sign that no % needs, and joined. -/
theorem Stb.step {d e : UInt8} {r : List UInt8} (h : Stb (37 :: d :: e :: r)) : Stb r ∧ ∃ N, N < 256 ∧ pctU N = [37, d, e] := by
  unfold Stb at h
  cases ha : hexV d with
  | none => rw [decG_no r (.inl ha)] at h; cases h
  | some x =>
    cases hb : hexV e with
    | none => rw [decG_no r (.inr hb)] at h; cases h
    | some y =>
      rw [decG_pct r ha hb] at h
      have hx := hexV_lt ha
      have hy := hexV_lt hb
      obtain ⟨N, hN⟩ : ∃ N, N = 16 * x + y := ⟨_, rfl⟩
      rw [← hN] at h
      cases ht : decG r with
      | none => rw [ht] at h; cases h
      | some t' =>
        rw [ht] at h
        rcases pct_cases N with ⟨_, h2, h3⟩ | ⟨_, h2⟩
        · rw [h2] at h
          simp at h
          exact absurd h.1 h3
        · refine ⟨?_, N, by omega, ?_⟩
          · rw [h2] at h
            simp at h
            unfold Stb
            rw [ht, h.2.2]
          · rw [h2] at h ⊢
            simp at h
            rw [h.1, h.2.1]
theorem Stb.cut {c : UInt8} (hc : c ≠ 37) (hx : hexV c = none) : ∀ (n : Nat) (a b : List UInt8), a.length ≤ n → Stb (a ++ c :: b) → Stb a ∧ Stb b
  | _, [], b, _, h => ⟨Stb.nil, h.tail hc⟩
  | 0, d :: a, b, hn, _ => by simp at hn
  | n + 1, d :: a, b, hn, h => by
    by_cases e : d = 37
    · subst e
      match a, hn, h with
      | [], _, h =>
        exfalso
        cases b with
        | nil => exact absurd (show decG [37, c] = some _ from h) (by rw [decG_short (by simp)]; simp)
        | cons y r => exact absurd (show decG (37 :: c :: y :: r) = some _ from h) (by rw [decG_no r (.inl hx)]; simp)
      | [d], _, h => exact absurd (show decG (37 :: d :: c :: b) = some _ from h) (by rw [decG_no b (.inr hx)]; simp)
      | d :: f :: a', hn, h =>
        obtain ⟨h1, N, hN, hp⟩ := Stb.step (show Stb (37 :: d :: f :: (a' ++ c :: b)) from h)
        obtain ⟨h2, h3⟩ := Stb.cut hc hx n a' b (by simp at hn; omega) h1
        refine ⟨?_, h3⟩
        have := dec_pct hN a'
        rw [h2, hp] at this
        exact this
    · obtain ⟨h2, h3⟩ := Stb.cut hc hx n a b (by simp at hn; omega) (h.tail e)
      exact ⟨h2.cons e, h3⟩
theorem Stb.app : ∀ (n : Nat) (a b : List UInt8), a.length ≤ n → Stb a → Stb b → Stb (a ++ b)
  | _, [], b, _, _, h => h
  | 0, d :: a, b, hn, _, _ => by simp at hn
  | n + 1, d :: a, b, hn, h, hb => by
    by_cases e : d = 37
    · subst e
      match a, hn, h with
      | [], _, h => exact absurd (show decG [37] = some _ from h) (by rw [decG_short (by simp)]; simp)
      | [d], _, h => exact absurd (show decG [37, d] = some _ from h) (by rw [decG_short (by simp)]; simp)
      | d :: f :: a', hn, h =>
        obtain ⟨h1, N, hN, hp⟩ := Stb.step h
        have h2 := Stb.app n a' b (by simp at hn; omega) h1 hb
        have := dec_pct hN (a' ++ b)
        rw [h2, hp] at this
        exact this
    · exact (Stb.app n a b (by simp at hn; omega) (h.tail e) hb).cons e
theorem Stb.append {a b : List UInt8} (h : Stb a) (g : Stb b) : Stb (a ++ b) := Stb.app _ a b (Nat.le_refl _) h g

/-- The signs of a request. -/
def okC (c : UInt8) : Prop := 33 ≤ c.toNat ∧ c.toNat ≤ 126
theorem com_ok : ∀ n, n < 256 → comU (UInt8.ofNat n) = true → 33 ≤ n ∧ n ≤ 126 := by decide +kernel
theorem dig_ok : ∀ k, k < 16 → 33 ≤ (digU k).toNat ∧ (digU k).toNat ≤ 126 := by decide +kernel
theorem pct_ok {N : Nat} (hN : N < 256) : ∀ c, c ∈ pctU N → okC c := by
  intro c hc
  rcases pct_cases N with ⟨h1, h2, _⟩ | ⟨_, h2⟩
  · rw [h2, List.mem_singleton] at hc
    subst hc
    unfold okC
    rw [u8_toNat, Nat.mod_eq_of_lt hN]
    exact com_ok N hN h1
  · rw [h2] at hc
    simp at hc
    rcases hc with rfl | rfl | rfl
    · exact ⟨by decide, by decide⟩
    · exact dig_ok _ (by omega)
    · exact dig_ok _ (by omega)
theorem dec_ok : ∀ (n : Nat) (l m : List UInt8), l.length ≤ n → (∀ c, c ∈ l → okC c) → decG l = some m → ∀ c, c ∈ m → okC c
  | _, [], m, _, _, h => by rw [decG] at h; cases h; intro c hc; cases hc
  | 0, c :: r, m, hn, _, _ => by simp at hn
  | n + 1, c :: r, m, hn, hk, h => by
    by_cases e : c = 37
    · subst e
      match r, hn, hk, h with
      | [], _, _, h => rw [decG_short (by simp)] at h; cases h
      | [_], _, _, h => rw [decG_short (by simp)] at h; cases h
      | a :: b :: t, hn, hk, h =>
        cases ha : hexV a with
        | none => rw [decG_no t (.inl ha)] at h; cases h
        | some x =>
          cases hb : hexV b with
          | none => rw [decG_no t (.inr hb)] at h; cases h
          | some y =>
            rw [decG_pct t ha hb] at h
            cases ht : decG t with
            | none => rw [ht] at h; cases h
            | some t' =>
              rw [ht] at h
              cases h
              have h1 := dec_ok n t t' (by simp at hn; omega) (fun c hc => hk c (by simp [hc])) ht
              have hx := hexV_lt ha
              have hy := hexV_lt hb
              intro c hc
              simp only [List.mem_append] at hc
              rcases hc with hc | hc
              · exact pct_ok (by omega) c hc
              · exact h1 c hc
    · rw [decG_as r e] at h
      cases ht : decG r with
      | none => rw [ht] at h; cases h
      | some t' =>
        rw [ht] at h
        cases h
        intro d hd
        rcases List.mem_cons.1 hd with rfl | hd
        · exact hk _ (List.mem_cons_self ..)
        · exact dec_ok n r t' (by simp at hn; omega) (fun c hc => hk c (List.mem_cons_of_mem _ hc)) ht d hd

/-- How long pieces are, with a sign for each. -/
def wtL : List (List UInt8) → Nat
  | [] => 0
  | x :: r => x.length + 1 + wtL r
theorem wtL_app (a b : List (List UInt8)) : wtL (a ++ b) = wtL a + wtL b := by
  induction a with
  | nil => simp [wtL]
  | cons x r ih => simp only [List.cons_append, wtL, ih]; omega
theorem mem_cut {c : UInt8} : ∀ {l : List UInt8}, c ∈ l → ∃ a b, l = a ++ c :: b ∧ c ∉ a
  | d :: r, h => by
    by_cases e : c = d
    · exact ⟨[], r, by rw [e]; rfl, by simp⟩
    · obtain ⟨a, b, h1, h2⟩ := mem_cut (l := r) (by rcases List.mem_cons.1 h with h | h; exact absurd h e; exact h)
      exact ⟨d :: a, b, by rw [h1]; rfl, by simp [e, h2]⟩
theorem split_facts {c : UInt8} (hc : c ≠ 37) (hx : hexV c = none) : ∀ (n : Nat) (l : List UInt8), l.length ≤ n →
    (∀ w, w ∈ split l [c] → c ∉ w ∧ (∀ y, y ∈ w → y ∈ l) ∧ (Stb l → Stb w)) ∧ wtL (split l [c]) = l.length + 1
  | n, l, hn => by
    by_cases h : c ∈ l
    · obtain ⟨a, b, h1, h2⟩ := mem_cut h
      match n, hn with
      | 0, hn => rw [h1] at hn; simp at hn
      | n + 1, hn =>
        obtain ⟨q1, q2⟩ := split_facts hc hx n b (by rw [h1] at hn; simp at hn; omega)
        have hsp := split_one (b := b) h2
        rw [h1, hsp]
        refine ⟨fun w hw => ?_, by simp only [wtL, q2, List.length_append, List.length_cons]; omega⟩
        rcases List.mem_cons.1 hw with rfl | hw
        · exact ⟨h2, fun y hy => by simp [hy], fun hs => (Stb.cut hc hx _ _ b (Nat.le_refl _) hs).1⟩
        · obtain ⟨p1, p2, p3⟩ := q1 w hw
          exact ⟨p1, fun y hy => by simp [p2 y hy], fun hs => p3 (Stb.cut hc hx _ a b (Nat.le_refl _) hs).2⟩
    · rw [split_none h]
      refine ⟨fun w hw => ?_, by simp [wtL]⟩
      rw [List.mem_singleton] at hw
      subst hw
      exact ⟨h, fun y hy => hy, fun hs => hs⟩
theorem join_cons2 (a b : List UInt8) (r : List (List UInt8)) (sep : List UInt8) : Lib.join (a :: b :: r) sep = a ++ sep ++ Lib.join (b :: r) sep := by
  simp [Lib.join, List.intercalate, List.intersperse]
/-- Joined pieces are cut as they were. -/
theorem split_join {c : UInt8} : ∀ (L : List (List UInt8)), L ≠ [] → (∀ w, w ∈ L → c ∉ w) → split (Lib.join L [c]) [c] = L
  | [], h, _ => absurd rfl h
  | [a], _, h => by rw [Lib.join_one, split_none (h a (List.mem_singleton.2 rfl))]
  | a :: b :: r, _, h => by
    rw [join_cons2, List.append_assoc]
    show split (a ++ c :: Lib.join (b :: r) [c]) [c] = _
    rw [split_one (h a (List.mem_cons_self ..)), split_join (b :: r) (by simp) (fun w hw => h w (List.mem_cons_of_mem _ hw))]
theorem join_wt {c : UInt8} : ∀ (L : List (List UInt8)), L ≠ [] → (Lib.join L [c]).length + 1 = wtL L
  | [], h => absurd rfl h
  | [a], _ => by rw [Lib.join_one]; simp [wtL]
  | a :: b :: r, _ => by
    have := join_wt (c := c) (b :: r) (by simp)
    rw [join_cons2]
    simp only [List.length_append, List.length_singleton, wtL] at this ⊢
    omega
theorem join_mem {c : UInt8} : ∀ (L : List (List UInt8)) (y : UInt8), y ∈ Lib.join L [c] → y = c ∨ ∃ w, w ∈ L ∧ y ∈ w
  | [], y, h => by rw [Lib.join_nil] at h; cases h
  | [a], y, h => by rw [Lib.join_one] at h; exact .inr ⟨a, List.mem_singleton.2 rfl, h⟩
  | a :: b :: r, y, h => by
    rw [join_cons2, List.mem_append, List.mem_append] at h
    rcases h with (h | h) | h
    · exact .inr ⟨a, List.mem_cons_self .., h⟩
    · exact .inl (List.mem_singleton.1 h)
    · rcases join_mem (b :: r) y h with h | ⟨w, hw, hy⟩
      · exact .inl h
      · exact .inr ⟨w, List.mem_cons_of_mem _ hw, hy⟩
theorem join_stb {c : UInt8} (hc : c ≠ 37) : ∀ (L : List (List UInt8)), (∀ w, w ∈ L → Stb w) → Stb (Lib.join L [c])
  | [], _ => by rw [Lib.join_nil]; exact Stb.nil
  | [a], h => by rw [Lib.join_one]; exact h a (List.mem_singleton.2 rfl)
  | a :: b :: r, h => by
    rw [join_cons2, List.append_assoc]
    exact (h a (List.mem_cons_self ..)).append ((join_stb hc (b :: r) (fun w hw => h w (List.mem_cons_of_mem _ hw))).cons hc)

/-- The path, cut into parts. -/
theorem tidL_fold (ps : List ByteArray) : ∀ n, n ≤ ps.length → tidL ps n = (ps.take n).foldl tidStep []
  | 0, _ => by simp [tidL]
  | n + 1, h => by
    have hx : ps[n]? = some ps[n] := by simp
    rw [take_next hx, List.foldl_append, ← tidL_fold ps n (by omega)]
    simp [tidL, List.getD_eq_getElem?_getD, hx]
theorem tidL_all (ps : List ByteArray) : tidL ps ps.length = ps.foldl tidStep [] := by
  rw [tidL_fold ps _ (Nat.le_refl _), List.take_length]
theorem lastL_all (ps : List ByteArray) : lastL ps ps.length = ps.getLastD ⟨#[]⟩ := by
  cases h : ps.length with
  | zero => rw [List.length_eq_zero_iff.1 h]; rfl
  | succ n =>
    show ps.getD n ⟨#[]⟩ = _
    rw [List.getD_eq_getElem?_getD, List.getLastD_eq_getLast?, List.getLast?_eq_getElem?, h, Nat.add_sub_cancel]
def dotB (p : ByteArray) : Prop := p = ⟨#[]⟩ ∨ p = ⟨#[46]⟩ ∨ p = ⟨#[46, 46]⟩
instance (p : ByteArray) : Decidable (dotB p) := by unfold dotB; infer_instance
theorem step_good {L : List ByteArray} {p : ByteArray} (h : ¬ dotB p) : tidStep L p = L ++ [p] := by
  unfold dotB at h
  simp only [not_or] at h
  simp [tidStep, h.1, h.2.1, h.2.2]
theorem step_mem {L : List ByteArray} {p x : ByteArray} (h : x ∈ tidStep L p) : x ∈ L ∨ (x = p ∧ ¬ dotB p) := by
  unfold tidStep at h
  split at h
  · exact .inl h
  · rename_i h1
    split at h
    · exact .inl (List.mem_of_mem_take h)
    · rename_i h2
      rcases List.mem_append.1 h with h | h
      · exact .inl h
      · rw [List.mem_singleton] at h
        refine .inr ⟨h, ?_⟩
        unfold dotB
        simp only [not_or] at h1 ⊢
        exact ⟨h1.1, h1.2, h2⟩
theorem fold_mem : ∀ (ps L : List ByteArray) (x : ByteArray), x ∈ ps.foldl tidStep L → x ∈ L ∨ (x ∈ ps ∧ ¬ dotB x)
  | [], L, x, h => .inl h
  | p :: r, L, x, h => by
    rcases fold_mem r (tidStep L p) x h with h | ⟨h, h2⟩
    · rcases step_mem h with h | ⟨rfl, h⟩
      · exact .inl h
      · exact .inr ⟨List.mem_cons_self .., h⟩
    · exact .inr ⟨List.mem_cons_of_mem _ h, h2⟩
theorem fold_good : ∀ (ps L : List ByteArray), (∀ x, x ∈ ps → ¬ dotB x) → ps.foldl tidStep L = L ++ ps
  | [], L, _ => by simp
  | p :: r, L, h => by
    rw [List.foldl_cons, step_good (h p (List.mem_cons_self ..)), fold_good r _ (fun x hx => h x (List.mem_cons_of_mem _ hx))]
    simp
def wtB (L : List ByteArray) : Nat := wtL (L.map fun b => b.data.toList)
theorem wtB_app (a b : List ByteArray) : wtB (a ++ b) = wtB a + wtB b := by unfold wtB; rw [List.map_append, wtL_app]
theorem wtB_one (p : ByteArray) : wtB [p] = p.size + 1 := by
  have : p.data.toList.length = p.size := by rw [Array.length_toList]; rfl
  simp [wtB, wtL, this]
theorem wtB_take (L : List ByteArray) (n : Nat) : wtB (L.take n) ≤ wtB L := by
  have h : wtB L = wtB (L.take n) + wtB (L.drop n) := by rw [← wtB_app, List.take_append_drop]
  omega
theorem step_wt (L : List ByteArray) (p : ByteArray) : wtB (tidStep L p) ≤ wtB L + (p.size + 1) ∧ (dotB p → wtB (tidStep L p) ≤ wtB L) := by
  unfold tidStep
  split
  · exact ⟨by omega, fun _ => by omega⟩
  · rename_i h1
    split
    · have := wtB_take L (L.length - 1)
      exact ⟨by omega, fun _ => by omega⟩
    · rename_i h2
      rw [wtB_app, wtB_one]
      refine ⟨by omega, fun h => ?_⟩
      unfold dotB at h
      simp only [not_or] at h1
      rcases h with h | h | h
      · exact absurd h h1.1
      · exact absurd h h1.2
      · exact absurd h h2
theorem fold_wt : ∀ (ps L : List ByteArray), wtB (ps.foldl tidStep L) ≤ wtB L + wtB ps
  | [], L => by simp [wtB, wtL]
  | p :: r, L => by
    have h1 := fold_wt r (tidStep L p)
    have h2 := (step_wt L p).1
    have h3 : wtB (p :: r) = p.size + 1 + wtB r := by rw [← wtB_one p, ← wtB_app]; rfl
    rw [List.foldl_cons, h3]
    omega
theorem tid_wt {ps : List ByteArray} : wtB (tidL ps ps.length) + (if dotB (lastL ps ps.length) ∧ ps ≠ [] then 1 else 0) ≤ wtB ps := by
  rw [tidL_all, lastL_all]
  by_cases hne : ps = []
  · subst hne; simp
  · have e := List.dropLast_concat_getLast hne
    have hl : ps.getLastD ⟨#[]⟩ = ps.getLast hne := by rw [List.getLastD_eq_getLast?, List.getLast?_eq_some_getLast hne]; rfl
    rw [hl]
    have h3 : wtB ps = wtB ps.dropLast + ((ps.getLast hne).size + 1) := by rw [← wtB_one, ← wtB_app, e]
    have h4 : ps.foldl tidStep [] = tidStep (ps.dropLast.foldl tidStep []) (ps.getLast hne) := by
      conv => lhs; rw [← e, List.foldl_append]
      rfl
    have h5 := fold_wt ps.dropLast []
    have h6 := step_wt (ps.dropLast.foldl tidStep []) (ps.getLast hne)
    have h7 : wtB [] = 0 := rfl
    rw [h4, h3]
    split
    · rename_i hd
      have := h6.2 hd.1
      omega
    · have := h6.1
      omega
end Go.Proofs.YtmgbmoiefgfemaaDoor

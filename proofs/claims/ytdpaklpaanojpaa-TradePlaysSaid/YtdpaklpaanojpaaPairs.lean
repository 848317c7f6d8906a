/- Plain laws: what is matched, what is open. -/
import Derived.Test.YtdpaklpaanojpaaTradeD
import Derived.Test.YtdpaklpaanojpaaIds
namespace Go.Proofs.Ytdpaklpaanojpaa

/-- the trade that is matched under a number -/
def pairOf (l : List Said) (i : Int) : Option T7 := (l.find? (fun x : Said => decide (x.t.id = i) && bothB l x)).map (·.t)
theorem tradeAt_append (m m' : List (Int × T7)) (i : Int) : tradeAt (m ++ m') i = (tradeAt m i).or (tradeAt m' i) := by
  unfold tradeAt
  rw [List.find?_append]
  cases List.find? (fun q => q.1 == i) m <;> simp
theorem tradeAt_keys (m : List (Int × T7)) (i : Int) : (tradeAt m i).isSome = true ↔ i ∈ m.map (·.1) := by
  unfold tradeAt
  simp only [Option.isSome_map, List.find?_isSome, List.mem_map, beq_iff_eq]
theorem tradeAt_pairs (l : List Said) (i : Int) : ∀ k, k ≤ l.length → tradeAt (pairsTo l k) i = ((l.take k).find? (fun x : Said => decide (x.t.id = i) && bothB l x)).map (·.t)
  | 0, _ => rfl
  | k + 1, hk => by
    have ih := tradeAt_pairs l i k (by omega)
    have hlt : k < l.length := by omega
    rw [← List.take_append_getElem hlt, List.find?_append]
    have hstep : pairsTo l (k + 1) = if l[k].t.id ∈ (pairsTo l k).map (·.1) ∨ bothB l l[k] = false then pairsTo l k else pairsTo l k ++ [(l[k].t.id, l[k].t)] := by
      rw [pairsTo, List.getElem?_eq_getElem hlt]
    rw [hstep]
    split
    · rename_i h
      rw [ih]
      rcases h with h | h
      · by_cases hi : l[k].t.id = i
        · have h1 := (tradeAt_keys (pairsTo l k) i).2 (hi ▸ h)
          rw [ih] at h1
          cases hf : (l.take k).find? (fun x : Said => decide (x.t.id = i) && bothB l x) with
          | none => rw [hf] at h1; simp at h1
          | some y => simp
        · simp [hi]
      · simp [h]
    · rename_i h
      rw [not_or] at h
      have hb : bothB l l[k] = true := by simpa using h.2
      rw [tradeAt_append, ih]
      cases hf : (l.take k).find? (fun x : Said => decide (x.t.id = i) && bothB l x) with
      | none =>
        by_cases hi : l[k].t.id = i <;> simp [tradeAt, hi, hb]
      | some y => simp
theorem tradeAt_all (l : List Said) (i : Int) : tradeAt (pairsTo l l.length) i = pairOf l i := by
  rw [tradeAt_pairs l i l.length (Nat.le_refl _), List.take_length]
  rfl
theorem matchedOf_eq (l : List Said) : matchedOf l = (idsOf l).filterMap (pairOf l) := by
  unfold matchedOf
  rw [show tradeAt (pairsTo l l.length) = pairOf l from funext (tradeAt_all l)]
theorem openOf_eq (l : List Said) : openOf l = (idsOf l).filter (fun i => (pairOf l i).isNone) := by
  unfold openOf
  rw [show tradeAt (pairsTo l l.length) = pairOf l from funext (tradeAt_all l)]
theorem idsOf_mem (l : List Said) (x : Int) : x ∈ idsOf l ↔ ∃ y ∈ l, y.t.id = x := by
  unfold idsOf
  rw [compact_mem, (asc_perm _).mem_iff, List.mem_map]
theorem idsOf_strict (l : List Said) : (idsOf l).Pairwise (· < ·) := compact_strict _ (asc_sorted _)
theorem pairOf_some {l : List Said} {i : Int} {t : T7} (h : pairOf l i = some t) : t.id = i ∧ ∃ x ∈ l, x.t = t ∧ bothB l x = true := by
  unfold pairOf at h
  obtain ⟨x, hx, rfl⟩ := Option.map_eq_some_iff.1 h
  have h1 := List.find?_some hx
  simp only [Bool.and_eq_true, decide_eq_true_eq] at h1
  exact ⟨h1.1, x, List.mem_of_find?_eq_some hx, rfl, h1.2⟩
theorem pairOf_isSome (l : List Said) (i : Int) : (pairOf l i).isSome = true ↔ ∃ x ∈ l, x.t.id = i ∧ bothB l x = true := by
  unfold pairOf
  simp only [Option.isSome_map, List.find?_isSome, Bool.and_eq_true, decide_eq_true_eq]
theorem bothB_true (l : List Said) (x : Said) : bothB l x = true ↔ ∃ y ∈ l, y.who ≠ x.who ∧ y.t = x.t := by
  unfold bothB
  simp
/-- the numbers of what is matched: those of the numbers under which a trade is matched -/
theorem matched_ids (l : List Said) : (matchedOf l).map (·.id) = (idsOf l).filter (fun i => (pairOf l i).isSome) := by
  rw [matchedOf_eq]
  generalize idsOf l = ids
  induction ids with
  | nil => rfl
  | cons i ids ih =>
    cases h : pairOf l i with
    | none => rw [List.filterMap_cons_none h, ih, List.filter_cons_of_neg (by simp [h])]
    | some t => rw [List.filterMap_cons_some h, List.map_cons, ih, List.filter_cons_of_pos (by simp [h]), (pairOf_some h).1]
theorem matched_strict (l : List Said) : ((matchedOf l).map (·.id)).Pairwise (· < ·) := by
  rw [matched_ids]
  exact (idsOf_strict l).filter _
theorem matched_mem {l : List Said} {t : T7} (h : t ∈ matchedOf l) : pairOf l t.id = some t := by
  rw [matchedOf_eq, List.mem_filterMap] at h
  obtain ⟨i, _, hi⟩ := h
  rwa [(pairOf_some hi).1]
theorem open_mem (l : List Said) (i : Int) : i ∈ openOf l ↔ (∃ y ∈ l, y.t.id = i) ∧ pairOf l i = none := by
  rw [openOf_eq, List.mem_filter, idsOf_mem, Option.isNone_iff_eq_none]
theorem matched_or_open {l : List Said} {x : Said} (h : x ∈ l) : x.t.id ∈ openOf l ∨ x.t.id ∈ (matchedOf l).map (·.id) := by
  rw [open_mem, matched_ids, List.mem_filter, idsOf_mem]
  cases hp : pairOf l x.t.id with
  | none => exact .inl ⟨⟨x, h, rfl⟩, rfl⟩
  | some t => exact .inr ⟨⟨x, h, rfl⟩, rfl⟩
theorem length_le_of_subset : ∀ {l l' : List Int}, l.Pairwise (· < ·) → l'.Pairwise (· < ·) → (∀ x ∈ l, x ∈ l') → l.length ≤ l'.length
  | [], _, _, _, _ => Nat.zero_le _
  | a :: l, [], _, _, h => by have := h a (by simp); simp at this
  | a :: l, b :: l', h1, h2, h => by
    have h1' := List.pairwise_cons.1 h1
    have h2' := List.pairwise_cons.1 h2
    rcases List.mem_cons.1 (h a (by simp)) with hab | hab
    · have := length_le_of_subset h1'.2 h2'.2 (fun x hx => by
        rcases List.mem_cons.1 (h x (by simp [hx])) with e | e
        · have := h1'.1 x hx; omega
        · exact e)
      simp only [List.length_cons]; omega
    · have := length_le_of_subset (l := a :: l) (l' := l') h1 h2'.2 (fun x hx => by
        rcases List.mem_cons.1 (h x hx) with e | e
        · have hb := h2'.1 a hab
          rcases List.mem_cons.1 hx with e' | e'
          · omega
          · have := h1'.1 x e'; omega
        · exact e)
      simp only [List.length_cons] at this ⊢; omega
theorem matched_grows (l l' : List Said) : (matchedOf l).length ≤ (matchedOf (l ++ l')).length := by
  have h := length_le_of_subset (matched_strict l) (matched_strict (l ++ l')) (fun i hi => by
    rw [matched_ids, List.mem_filter, idsOf_mem, pairOf_isSome] at hi ⊢
    obtain ⟨⟨y, hy, hi1⟩, x, hx, hxi, hb⟩ := hi
    refine ⟨⟨y, by simp [hy], hi1⟩, x, by simp [hx], hxi, ?_⟩
    rw [bothB_true] at hb ⊢
    obtain ⟨z, hz, hb⟩ := hb
    exact ⟨z, by simp [hz], hb⟩)
  simpa using h
end Go.Proofs.Ytdpaklpaanojpaa

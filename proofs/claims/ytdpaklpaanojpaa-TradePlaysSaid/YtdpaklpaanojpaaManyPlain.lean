/- TradeMany: the plain laws. -/
import Derived.Test.YtdpaklpaanojpaaLawTrade
import Derived.Test.YtdpaklpaanojpaaPairs
namespace Go.Proofs.Ytdpaklpaanojpaa

def tk (k : Nat) : T7 := ⟨k, (k : Int) % 4, ((k : Int) + 1) % 4, (k : Int) % 2, (k : Int) + 1, (k : Int) / 2 % 2, 7⟩
def manyL (n j : Nat) : List Said := (List.range n).map (fun k : Nat => (⟨(k : Int) % 4, tk k⟩ : Said)) ++ (List.range j).map (fun r => (⟨((n - 1 - r : Nat) + 1 : Int) % 4, tk (n - 1 - r)⟩ : Said))
theorem manyL_length (n j : Nat) : (manyL n j).length = n + j := by simp [manyL]
theorem manyL_buy (i : Nat) : manyL (i + 1) 0 = manyL i 0 ++ [⟨(i : Int) % 4, tk i⟩] := by simp [manyL, List.range_succ]
theorem manyL_sell (n j : Nat) : manyL n (j + 1) = manyL n j ++ [⟨((n - 1 - j : Nat) + 1 : Int) % 4, tk (n - 1 - j)⟩] := by simp [manyL, List.range_succ]
theorem manyL_mem {n j : Nat} {x : Said} (h : x ∈ manyL n j) (hj : j ≤ n) : ∃ k, k < n ∧ x.t = tk k ∧ (x.who = (k : Int) % 4 ∨ (n - j ≤ k ∧ x.who = ((k : Int) + 1) % 4)) := by
  unfold manyL at h
  rcases List.mem_append.1 h with h | h
  · obtain ⟨k, hk, rfl⟩ := List.mem_map.1 h
    exact ⟨k, List.mem_range.1 hk, rfl, .inl rfl⟩
  · obtain ⟨r, hr, rfl⟩ := List.mem_map.1 h
    have := List.mem_range.1 hr
    exact ⟨n - 1 - r, by omega, rfl, .inr ⟨by omega, rfl⟩⟩
theorem tk_may (k : Nat) (hk : k < 100) : mayT (tk k) 4 2 2 = 0 := by
  have h : ¬ ((k : Int) % 4 = ((k : Int) + 1) % 4) := by omega
  have h2 : (0 ≤ (k : Int) ∧ (k : Int) < 65536) ∧ (0 ≤ (k : Int) % 4 ∧ (k : Int) % 4 < 4) ∧ (0 ≤ ((k : Int) + 1) % 4 ∧ ((k : Int) + 1) % 4 < 4) ∧ (0 ≤ (k : Int) % 2 ∧ (k : Int) % 2 < 2) ∧ (0 ≤ (k : Int) / 2 % 2 ∧ (k : Int) / 2 % 2 < 2) ∧ (0 ≤ (k : Int) + 1 ∧ (k : Int) + 1 ≤ 4611686018427387904) ∧ (k : Int) + 1 ≠ 0 := by omega
  obtain ⟨a1, a2, a3, a4, a5, a6, a7⟩ := h2
  simp [mayT, tk, amongB, amount, a1, a2, a3, a4, a5, a6, a7, h]
theorem put_buy (i : Nat) (hi : i < 100) : putR 4 2 2 (manyL i 0) ((i : Int) % 4) (tk i) = (manyL (i + 1) 0, 0) := by
  unfold putR
  rw [if_neg (by rw [tk_may i hi]; simp), if_neg (by simp [tk]), if_neg, if_neg (by rw [manyL_length]; omega), manyL_buy]
  intro h
  obtain ⟨x, hx, hb⟩ := List.any_eq_true.1 h
  obtain ⟨k, hk, ht, _⟩ := manyL_mem hx (by omega)
  simp only [Bool.and_eq_true, decide_eq_true_eq, ht, tk] at hb
  omega
theorem put_sell (n j i : Nat) (hn : n ≤ 100) (hj : j + i + 1 = n) : putR 4 2 2 (manyL n j) (((i : Int) + 1) % 4) (tk i) = (manyL n (j + 1), 0) := by
  have hi : n - 1 - j = i := by omega
  unfold putR
  rw [if_neg (by rw [tk_may i (by omega)]; simp), if_neg (by simp [tk]), if_neg, if_neg (by rw [manyL_length]; omega), manyL_sell, hi]
  intro h
  obtain ⟨x, hx, hb⟩ := List.any_eq_true.1 h
  obtain ⟨k, hk, ht, hw⟩ := manyL_mem hx (by omega)
  simp only [Bool.and_eq_true, decide_eq_true_eq, ht, tk] at hb
  omega
theorem many_pair (n j i : Nat) (hj : j ≤ n) (hi : i < n) : pairOf (manyL n j) i = if n - j ≤ i then some (tk i) else none := by
  split
  · rename_i h
    have hs : (pairOf (manyL n j) i).isSome = true := by
      rw [pairOf_isSome]
      refine ⟨⟨(i : Int) % 4, tk i⟩, ?_, rfl, ?_⟩
      · exact List.mem_append_left _ (List.mem_map.2 ⟨i, List.mem_range.2 hi, rfl⟩)
      · rw [bothB_true]
        refine ⟨⟨((i : Int) + 1) % 4, tk i⟩, List.mem_append_right _ (List.mem_map.2 ⟨n - 1 - i, List.mem_range.2 (by omega), ?_⟩), by simp only; omega, rfl⟩
        rw [show n - 1 - (n - 1 - i) = i by omega]
    obtain ⟨t, ht⟩ := Option.isSome_iff_exists.1 hs
    obtain ⟨h1, x, hx, h2, _⟩ := pairOf_some ht
    obtain ⟨k, hk, hk2, _⟩ := manyL_mem hx hj
    rw [ht, ← h2, hk2]
    rw [← h2, hk2] at h1
    simp only [tk] at h1
    rw [show k = i by omega]
  · rename_i h
    cases hp : pairOf (manyL n j) i with
    | none => rfl
    | some t =>
      exfalso
      obtain ⟨h1, x, hx, h2, hb⟩ := pairOf_some hp
      obtain ⟨y, hy, hw, hty⟩ := (bothB_true _ _).1 hb
      obtain ⟨k, hk, hk2, hk3⟩ := manyL_mem hx hj
      obtain ⟨k', hk', hk2', hk3'⟩ := manyL_mem hy hj
      rw [hk2, hk2'] at hty
      rw [← h2, hk2] at h1
      have h3 : (k' : Int) = k := congrArg T7.id hty
      simp only [tk] at h1
      omega
theorem many_ids (n j : Nat) (hj : j ≤ n) : idsOf (manyL n j) = (List.range n).map (fun k : Nat => (k : Int)) := by
  refine strict_eq (fun x => ?_) (idsOf_strict _) ?_
  · rw [idsOf_mem]
    constructor
    · rintro ⟨y, hy, rfl⟩
      obtain ⟨k, hk, h1, _⟩ := manyL_mem hy hj
      rw [h1]
      exact List.mem_map.2 ⟨k, List.mem_range.2 hk, rfl⟩
    · intro h
      obtain ⟨k, hk, rfl⟩ := List.mem_map.1 h
      exact ⟨⟨(k : Int) % 4, tk k⟩, List.mem_append_left _ (List.mem_map.2 ⟨k, hk, rfl⟩), rfl⟩
  · rw [List.pairwise_map]
    exact List.Pairwise.imp (fun h => by omega) List.pairwise_lt_range
theorem range_split (n j : Nat) (hj : j ≤ n) : List.range n = List.range (n - j) ++ (List.range j).map (n - j + ·) := by
  rw [← List.range_add, show n - j + j = n by omega]
theorem filterMap_all {α β : Type} (f : α → Option β) (g : α → β) : ∀ l : List α, (∀ x ∈ l, f x = some (g x)) → l.filterMap f = l.map g
  | [], _ => rfl
  | a :: l, h => by rw [List.filterMap_cons_some (h a (by simp)), List.map_cons, filterMap_all f g l (fun x hx => h x (by simp [hx]))]
theorem many_matched (n j : Nat) (hj : j ≤ n) : matchedOf (manyL n j) = (List.range j).map (fun r => tk (n - j + r)) := by
  rw [matchedOf_eq, many_ids n j hj, List.filterMap_map, range_split n j hj, List.filterMap_append]
  have h1 : (List.range (n - j)).filterMap (pairOf (manyL n j) ∘ fun k : Nat => (k : Int)) = [] := by
    rw [List.filterMap_eq_nil_iff]
    intro a ha
    have := List.mem_range.1 ha
    simp only [Function.comp]
    rw [many_pair n j a hj (by omega), if_neg (by omega)]
  rw [h1, List.nil_append, List.filterMap_map]
  refine filterMap_all _ _ _ (fun r hr => ?_)
  have := List.mem_range.1 hr
  simp only [Function.comp]
  rw [many_pair n j (n - j + r) hj (by omega), if_pos (by omega)]
theorem many_open (n j : Nat) (hj : j ≤ n) : openOf (manyL n j) = (List.range (n - j)).map (fun k : Nat => (k : Int)) := by
  rw [openOf_eq, many_ids n j hj, List.filter_map, range_split n j hj, List.filter_append]
  have h1 : (List.range (n - j)).filter ((fun i => (pairOf (manyL n j) i).isNone) ∘ fun k : Nat => (k : Int)) = List.range (n - j) := by
    rw [List.filter_eq_self]
    intro a ha
    have := List.mem_range.1 ha
    simp only [Function.comp]
    rw [many_pair n j a hj (by omega), if_neg (by omega)]
    rfl
  have h2 : ((List.range j).map (n - j + ·)).filter ((fun i => (pairOf (manyL n j) i).isNone) ∘ fun k : Nat => (k : Int)) = [] := by
    rw [List.filter_eq_nil_iff]
    intro a ha
    obtain ⟨r, hr, rfl⟩ := List.mem_map.1 ha
    have := List.mem_range.1 hr
    simp only [Function.comp]
    rw [many_pair n j (n - j + r) hj (by omega), if_pos (by omega)]
    simp
  rw [h1, h2, List.append_nil]
end Go.Proofs.Ytdpaklpaanojpaa

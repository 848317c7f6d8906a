/- slices.Sort at []int, met by the shelf's contract, at a slice of the program's own; and plain laws of lists of keys. -/
import Derived.Test.YtdfpmlfdmhlhcaaGreatStep
import Derived.Test.YtdfpmlfdmhlhcaaGreatShelfS
namespace Go.Proofs.YtdfpmlfdmhlhcaaGreat
open Go.RowKit

def asc (l : List Int) : List Int := l.mergeSort fun x y => decide (x ≤ y)
theorem asc_length (l : List Int) : (asc l).length = l.length := by simp [asc]
theorem asc_perm (l : List Int) : (asc l).Perm l := List.mergeSort_perm l _
theorem asc_sorted (l : List Int) : (asc l).Pairwise (· ≤ ·) := by
  have h := List.pairwise_mergeSort (le := fun x y : Int => decide (x ≤ y)) (by simp only [decide_eq_true_eq]; exact fun a b c h1 h2 => Int.le_trans h1 h2) (by simp only [Bool.or_eq_true, decide_eq_true_eq]; exact fun a b => by omega) l
  exact h.imp (fun h => by simpa using h)
theorem sorted_eq : ∀ {l l' : List Int}, l.Perm l' → l.Pairwise (· ≤ ·) → l'.Pairwise (· ≤ ·) → l = l'
  | [], l', h, _, _ => by simpa using h.symm
  | a :: l, l', h, h1, h2 => by
    cases l' with
    | nil => simp at h
    | cons b l' =>
      have ha : a ∈ b :: l' := h.subset (by simp)
      have hb : b ∈ a :: l := h.symm.subset (by simp)
      rw [List.pairwise_cons] at h1 h2
      have hab : a = b := by
        rcases List.mem_cons.1 ha with e | e
        · exact e
        · rcases List.mem_cons.1 hb with e' | e'
          · exact e'.symm
          · have := h1.1 b e'; have := h2.1 a e; omega
      subst hab
      rw [sorted_eq (List.Perm.cons_inv h) h1.2 h2.2]
theorem asc_eq {l l' : List Int} (h : l.Perm l') : asc l = asc l' :=
  sorted_eq ((asc_perm l).trans (h.trans (asc_perm l').symm)) (asc_sorted l) (asc_sorted l')
/-- different keys below n are at most n -/
theorem few_keys : ∀ (n : Nat) {l : List Int}, l.Nodup → (∀ k ∈ l, 0 ≤ k ∧ k < n) → l.length ≤ n
  | 0, l, _, h => by
    cases l with
    | nil => simp
    | cons a l => have := h a (by simp); omega
  | n + 1, l, hn, h => by
    have h1 := few_keys n (l := l.erase (n : Int)) (hn.erase _) (fun k hk => by
      rw [hn.mem_erase_iff] at hk
      have := h k hk.2
      omega)
    by_cases hm : (n : Int) ∈ l
    · rw [List.length_erase_of_mem hm] at h1; omega
    · rw [List.erase_of_not_mem hm] at h1; omega
theorem perm_key {left : List (Int × Value)} {k : Int} {v : Value} (hn : (left.map (·.1)).Nodup) (h : (k, v) ∈ left) :
    (left.map (·.1)).Perm (k :: (left.filter (fun p => p.1 ≠ k)).map (·.1)) := by
  have hm : k ∈ left.map (·.1) := List.mem_map.2 ⟨_, h, rfl⟩
  have h1 := List.perm_cons_erase hm
  rw [hn.erase_eq_filter, List.filter_map] at h1
  refine h1.trans ?_
  rw [show (left.filter ((fun x => x != k) ∘ fun x => x.1)) = left.filter (fun p => p.1 ≠ k) from by congr 1; funext p; rw [Bool.eq_iff_iff]; simp]
theorem nodup_left {left : List (Int × Value)} {k : Int} (hn : (left.map (·.1)).Nodup) : ((left.filter (fun p => p.1 ≠ k)).map (·.1)).Nodup :=
  List.Pairwise.sublist (List.filter_sublist.map _) hn

theorem vecSort (S : Nat → Prop) (E : TypeId) (v : Value) (l : List Int) (w : World) (h : IsVec S w E 1 v l.length (l.map (Value.int .i64))) (hlen : l.length < 4611686018427387904) :
    Calls Tryz.prog 184 #[v] w fun e w' => e = .returned (.tuple #[]) ∧ IsRow S w' v ((asc l).map (Value.int .i64)) ∧ Mod S w w' := by
  obtain ⟨⟨hl, h1⟩, h2⟩ := h
  rcases h1 with ⟨rfl, h0⟩ | ⟨g, cap, cur, rfl, hg, hh, hn, hm, hs, ht⟩
  · obtain rfl : l = [] := List.eq_nil_of_length_eq_zero h0
    refine (Tryz.slices_Sort_int_none none 0 w).mono ?_
    rintro e w' ⟨rfl, rfl⟩
    exact ⟨rfl, ⟨none, 0, by simp [asc], fun i hi => by simp [asc] at hi⟩, Mod.refl _ _⟩
  · have hcell : ∀ j, j < l.length → w.cell? ⟨g, j, none⟩ = some (.int .i64 (l.getD j 0)) := by
      intro j hj
      rw [cell_of hh]
      have := congrArg (fun x => x[j]?) ht
      simp only [Nat.mul_one] at this
      rw [List.getElem?_take_of_lt hj] at this
      simp at this
      rw [this]
      simp [hj]
    have hH : Go.Sort.Holds (Value.int .i64) w g 0 l.toArray := by
      intro j hj
      have hj' : j < l.length := by simpa using hj
      rw [Nat.zero_add]
      exact ⟨by rw [hcell j hj']; simp [hj', getElem!_pos], free_of hh j⟩
    have hgl : g < w.heap.size := heap_lt hh
    refine (Tryz.slices_Sort_int g 0 cap l w hH hgl hlen).mono ?_
    rintro e w' ⟨rfl, n, os, rfl⟩
    have hsz : (asc l).toArray.size = l.toArray.size := by simp [asc]
    refine ⟨rfl, ⟨_, cap, by simp [asc], fun i hi => ⟨g, 0, rfl, h2 g rfl, by simp [Go.Sort.ahead]; omega, ?_⟩⟩, ?_⟩
    · have hi' : i < (asc l).toArray.size := by simpa using hi
      have hi2 : i < (asc l).length := by simpa using hi
      rw [Go.Sort.cell?_grow _ _ _ (by simpa [Go.Sort.ahead] using hgl)]
      have := Go.Sort.cell?_putRow (Value.int .i64) (Go.Sort.ahead w n) g 0 l.toArray (asc l).toArray hH hsz i hi'
      rw [show (l.mergeSort fun x y => decide (x ≤ y)) = asc l from rfl, this]
      simp [hi2, getElem!_pos]
    · refine ⟨rfl, rfl, rfl, by simp [Go.Sort.ahead], fun k hk hne => ?_⟩
      rw [Go.Sort.heap_grow_old _ _ (by simpa [Go.Sort.ahead] using hk)]
      have hkg : g ≠ k := fun e => hne (e ▸ h2 g rfl)
      simp [Go.Sort.putRow, Go.Sort.mapBlock, Go.Sort.ahead, Array.getElem?_modify, hkg]
end Go.Proofs.YtdfpmlfdmhlhcaaGreat

/- slices.Sort, then slices.Compact, at a slice of ints of the program's own. -/
namespace Go.Proofs.YtdfpmlfdmhlhcaaGreat
open Go.RowKit

theorem setCells_mod (b : Nat) : ∀ (vs : List Value) (o : Nat) (w : World), Mod (· = b) w (w.setCells b o vs)
  | [], _, w => Mod.refl _ w
  | v :: r, o, w => ((Mod.refl (· = b) w).setCell ⟨b, o, none⟩ v (fun _ => rfl)).trans (setCells_mod b r (o + 1) (w.setCell ⟨b, o, none⟩ v)) (fun _ _ h => h)
/-- a slice of ints that may be written: its cells, none of them frozen -/
structure IsOwn (S : Nat → Prop) (w : World) (v : Value) (l : List Int) : Prop where
  row : IsRow S w v (l.map (Value.int .i64))
  own : v = .slice none 0 0 ∨ ∃ g c, v = .slice (some ⟨g, 0, none⟩) l.length c ∧ S g ∧ g < w.heap.size ∧ l.length ≤ c ∧ ∀ j, j < l.length → w.frozen? ⟨g, j, none⟩ = false
theorem vecSortOwn (S : Nat → Prop) (E : TypeId) (v : Value) (l : List Int) (w : World) (h : IsVec S w E 1 v l.length (l.map (Value.int .i64))) (hlen : l.length < 4611686018427387904) :
    Calls Tryz.prog 184 #[v] w fun e w' => e = .returned (.tuple #[]) ∧ IsOwn S w' v (asc l) ∧ Mod S w w' := by
  obtain ⟨⟨hl, h1⟩, h2⟩ := h
  rcases h1 with ⟨rfl, h0⟩ | ⟨g, cap, cur, rfl, hg, hh, hn, hm, hs, ht⟩
  · obtain rfl : l = [] := List.eq_nil_of_length_eq_zero h0
    refine (Tryz.slices_Sort_int_none none 0 w).mono ?_
    rintro e w' ⟨rfl, rfl⟩
    exact ⟨rfl, ⟨⟨none, 0, by simp [asc], fun i hi => by simp [asc] at hi⟩, .inl rfl⟩, Mod.refl _ _⟩
  · have hcell : ∀ j, j < l.length → w.cell? ⟨g, j, none⟩ = some (.int .i64 (l.getD j 0)) := by
      intro j hj
      rw [cell_of hh]
      have := congrArg (fun x => x[j]?) ht
      simp only [Nat.mul_one] at this
      rw [List.getElem?_take_of_lt hj] at this
      simp at this
      rw [this]
      simp [hj]
    have hH : Go.Sort.Holds (Value.int .i64) w g 0 l.toArray := by
      intro j hj
      have hj' : j < l.length := by simpa using hj
      rw [Nat.zero_add]
      exact ⟨by rw [hcell j hj']; simp [hj', getElem!_pos], free_of hh j⟩
    have hgl : g < w.heap.size := heap_lt hh
    refine (Tryz.slices_Sort_int g 0 cap l w hH hgl hlen).mono ?_
    rintro e w' ⟨rfl, n, os, rfl⟩
    have hsz : (asc l).toArray.size = l.toArray.size := by simp [asc]
    refine ⟨rfl, ⟨⟨_, cap, by simp [asc], fun i hi => ⟨g, 0, rfl, h2 g rfl, by simp [Go.Sort.ahead]; omega, ?_⟩⟩, .inr ⟨g, cap, by rw [asc_length], h2 g rfl, by simp [Go.Sort.ahead]; omega, by rw [asc_length]; exact hn, fun j hj => ?_⟩⟩, ?_⟩
    · have hi' : i < (asc l).toArray.size := by simpa using hi
      have hi2 : i < (asc l).length := by simpa using hi
      rw [Go.Sort.cell?_grow _ _ _ (by simpa [Go.Sort.ahead] using hgl)]
      have := Go.Sort.cell?_putRow (Value.int .i64) (Go.Sort.ahead w n) g 0 l.toArray (asc l).toArray hH hsz i hi'
      rw [show (l.mergeSort fun x y => decide (x ≤ y)) = asc l from rfl, this]
      simp [hi2, getElem!_pos]
    · rw [Go.Sort.frozen?_grow _ _ _ (by simpa [Go.Sort.ahead] using hgl), Go.Sort.frozen?_putRow, Go.Sort.frozen?_ahead]
      exact free_of hh j
    · refine ⟨rfl, rfl, rfl, by simp [Go.Sort.ahead], fun k hk hne => ?_⟩
      rw [Go.Sort.heap_grow_old _ _ (by simpa [Go.Sort.ahead] using hk)]
      have hkg : g ≠ k := fun e => hne (e ▸ h2 g rfl)
      simp [Go.Sort.putRow, Go.Sort.mapBlock, Go.Sort.ahead, Array.getElem?_modify, hkg]
theorem compact_length (zs : List Int) : (Lib.compact zs).length ≤ zs.length := by
  unfold Lib.compact Lib.compactUpTo
  rw [List.length_map]
  exact Nat.le_trans (List.length_filter_le _ _) (by simp)
theorem ownCompact (S : Nat → Prop) (v : Value) (l : List Int) (w : World) (h : IsOwn S w v l) (hlen : l.length ≤ 4611686018427387904) :
    Calls Tryz.prog 141 #[v] w fun e w' => ∃ v', e = .returned v' ∧ IsRow S w' v' ((Lib.compact l).map (Value.int .i64)) ∧ Mod S w w' := by
  obtain ⟨⟨p, c0, hv0, hcells⟩, ho⟩ := h
  rcases ho with rfl | ⟨g, c, rfl, hS, hg, hc, hf⟩
  · simp only [Value.slice.injEq, List.length_map] at hv0
    have hl0 : l = [] := List.eq_nil_of_length_eq_zero hv0.2.1.symm
    subst hl0
    refine (Tryz.slices_Compact_int_empty none 0 w).mono ?_
    rintro e w' ⟨rfl, rfl⟩
    exact ⟨_, rfl, ⟨none, 0, by simp [Lib.compact, Lib.compactUpTo], fun i hi => by simp [Lib.compact, Lib.compactUpTo] at hi⟩, Mod.refl _ _⟩
  · simp only [Value.slice.injEq] at hv0
    obtain ⟨rfl, -, rfl⟩ := hv0
    have hcl : ∀ j, j < l.length → w.cell? ⟨g, 0 + j, none⟩ = some (.int .i64 (l.getD j 0)) := by
      intro j hj
      obtain ⟨b, off, hp, _, _, hx⟩ := hcells j (by simpa using hj)
      simp only [Option.some.injEq, Addr.mk.injEq, and_true] at hp
      obtain ⟨rfl, rfl⟩ := hp
      rw [hx]; simp [hj]
    refine (Tryz.slices_Compact_int_cells g 0 l.length c l w (Nat.le_refl _) (by omega) hc hcl (fun j hj => by rw [Nat.zero_add]; exact hf j hj)).mono ?_
    rintro e w' ⟨rfl, q, rfl⟩
    rw [List.take_length]
    have hcl2 := compact_length l
    have hm : Mod (· = g) w ((w.drewN q).setCells g 0 ((Lib.compact l ++ List.replicate (l.length - (Lib.compact l).length) 0).map (Value.int .i64))) := ((Mod.refl (· = g) w).drewN q).trans (setCells_mod g _ 0 (w.drewN q)) (fun _ _ h => h)
    refine ⟨_, rfl, ⟨_, c, by rw [List.length_map], fun i hi => ⟨g, 0, rfl, hS, Nat.lt_of_lt_of_le hg hm.size, ?_⟩⟩, hm.mono (fun k _ e => e ▸ hS)⟩
    have hi' : i < (Lib.compact l).length := by simpa using hi
    rw [World.cell?_setCells_in g _ 0 (w.drewN q) (fun j hj => by
      have hj' : j < l.length := by simp at hj; omega
      have : (w.drewN q).cell? ⟨g, 0 + j, none⟩ = w.cell? ⟨g, 0 + j, none⟩ := rfl
      rw [this, hcl j hj']; rfl) i (by simp; omega)]
    simp [List.getElem_append_left hi', hi']
end Go.Proofs.YtdfpmlfdmhlhcaaGreat

/- Plain laws: what slices.Compact leaves of an ascending list. -/
namespace Go.Proofs.YtdfpmlfdmhlhcaaGreat

theorem compact_eq (zs : List Int) : Lib.compact zs = ((List.range zs.length).filter (Lib.keeps zs.toArray)).map (fun j => zs.getD j 0) := by
  unfold Lib.compact Lib.compactUpTo
  apply List.map_congr_left
  intro j hj
  have hj' : j < zs.length := by
    have := (List.mem_filter.1 hj).1
    simpa using this
  simp [getElem!_pos, hj']
theorem compact_mem (zs : List Int) (x : Int) : x ∈ Lib.compact zs ↔ x ∈ zs := by
  rw [compact_eq]
  constructor
  · intro h
    obtain ⟨j, hj, rfl⟩ := List.mem_map.1 h
    have hj' : j < zs.length := by
      have := (List.mem_filter.1 hj).1
      simpa using this
    simp [hj']
  · intro h
    obtain ⟨j, hj, rfl⟩ := List.getElem_of_mem h
    induction j using Nat.strongRecOn with
    | _ j ih =>
      by_cases hk : Lib.keeps zs.toArray j = true
      · exact List.mem_map.2 ⟨j, List.mem_filter.2 ⟨List.mem_range.2 hj, hk⟩, by simp [hj]⟩
      · have hk2 : j ≠ 0 ∧ zs[j - 1]'(by omega) = zs[j] := by
          simp only [Lib.keeps] at hk
          by_cases h0 : j = 0
          · simp [h0] at hk
          · refine ⟨h0, ?_⟩
            simp [h0, getElem!_pos, hj, show j - 1 < zs.length by omega] at hk
            omega
        have := ih (j - 1) (by omega) (by omega) (List.getElem_mem _)
        rw [← hk2.2]
        exact this
theorem compact_strict (zs : List Int) (hs : zs.Pairwise (· ≤ ·)) : (Lib.compact zs).Pairwise (· < ·) := by
  rw [compact_eq, List.pairwise_map]
  refine List.Pairwise.imp_of_mem (R := (· < ·)) (fun {i j} hi hj hij => ?_) ((List.pairwise_lt_range).filter _)
  have hj' : j < zs.length := by
    have := (List.mem_filter.1 hj).1
    simpa using this
  have hk := (List.mem_filter.1 hj).2
  simp only [Lib.keeps] at hk
  have h0 : j ≠ 0 := by omega
  simp [h0, getElem!_pos, hj', show j - 1 < zs.length by omega] at hk
  have hle := List.pairwise_iff_getElem.1 hs
  have h1 : zs[j - 1]'(by omega) ≤ zs[j] := hle (j - 1) j (by omega) hj' (by omega)
  have h2 : zs[i]'(by omega) ≤ zs[j - 1]'(by omega) := by
    rcases Nat.lt_or_ge i (j - 1) with h | h
    · exact hle i (j - 1) (by omega) (by omega) h
    · have : i = j - 1 := by omega
      subst this; exact Int.le_refl _
  simp only [List.getD_eq_getElem?_getD, List.getElem?_eq_getElem hj', List.getElem?_eq_getElem (show i < zs.length by omega), Option.getD_some]
  omega
theorem strict_eq : ∀ {l l' : List Int}, (∀ x, x ∈ l ↔ x ∈ l') → l.Pairwise (· < ·) → l'.Pairwise (· < ·) → l = l'
  | [], [], _, _, _ => rfl
  | [], b :: l', h, _, _ => by have := (h b).2 (by simp); simp at this
  | a :: l, [], h, _, _ => by have := (h a).1 (by simp); simp at this
  | a :: l, b :: l', h, h1, h2 => by
    rw [List.pairwise_cons] at h1 h2
    have hab : a = b := by
      rcases List.mem_cons.1 ((h a).1 (by simp)) with e | e
      · exact e
      · rcases List.mem_cons.1 ((h b).2 (by simp)) with e' | e'
        · exact e'.symm
        · have := h1.1 b e'; have := h2.1 a e; omega
    subst hab
    congr 1
    refine strict_eq (fun x => ?_) h1.2 h2.2
    constructor
    · intro hx
      rcases List.mem_cons.1 ((h x).1 (List.mem_cons_of_mem _ hx)) with e | e
      · have := h1.1 x hx; omega
      · exact e
    · intro hx
      rcases List.mem_cons.1 ((h x).2 (List.mem_cons_of_mem _ hx)) with e | e
      · have := h2.1 x hx; omega
      · exact e
end Go.Proofs.YtdfpmlfdmhlhcaaGreat

/- slices.Sort at []int, met by the shelf's contract, at a slice of the program's own; and plain laws of lists of keys. -/
import Derived.Test.YtdfahddpkkeldaaGreatShelfS
import Derived.Test.YtdfahddpkkeldaaGreatVec
namespace Go.Proofs.YtdfahddpkkeldaaGreat
open Go.RowKit
def asc (l : List Int) : List Int := l.mergeSort fun x y => decide (x ≤ y)
theorem asc_length (l : List Int) : (asc l).length = l.length := by simp [asc]
theorem asc_perm (l : List Int) : (asc l).Perm l := List.mergeSort_perm l _
theorem asc_sorted (l : List Int) : (asc l).Pairwise (· ≤ ·) := by
 have h := List.pairwise_mergeSort (le := fun x y : Int => decide (x ≤ y)) (by simp only [decide_eq_true_eq]; exact fun a b c h1 h2 => Int.le_trans h1 h2) (by simp only [Bool.or_eq_true, decide_eq_true_eq]; exact fun a b => by omega) l
 exact h.imp (fun h => by simpa using h)
theorem sorted_eq : ∀ {l l' : List Int}, l.Perm l' → l.Pairwise (· ≤ ·) → l'.Pairwise (· ≤ ·) → l = l'
 | [], l', h, _, _ => by simpa using h.symm
 | a :: l, l', h, h1, h2 => by
  cases l' with
  | nil => simp at h
  | cons b l' =>
   have ha : a ∈ b :: l' := h.subset (by simp)
   have hb : b ∈ a :: l := h.symm.subset (by simp)
   rw [List.pairwise_cons] at h1 h2
   have hab : a = b := by
    rcases List.mem_cons.1 ha with e | e
    ·exact e
    ·rcases List.mem_cons.1 hb with e' | e'
     ·exact e'.symm
     ·have := h1.1 b e'; have := h2.1 a e; omega
   subst hab
   rw [sorted_eq (List.Perm.cons_inv h) h1.2 h2.2]
theorem asc_eq {l l' : List Int} (h : l.Perm l') : asc l = asc l' :=
 sorted_eq ((asc_perm l).trans (h.trans (asc_perm l').symm)) (asc_sorted l) (asc_sorted l')
/-- different keys below n are at most n -/
theorem few_keys : ∀ (n : Nat) {l : List Int}, l.Nodup → (∀ k ∈ l, 0 ≤ k ∧ k < n) → l.length ≤ n
  | 0, l, _, h => by
    cases l with
    | nil => simp
    | cons a l => have := h a (by simp); omega
  | n + 1, l, hn, h => by
    have h1 := few_keys n (l := l.erase (n : Int)) (hn.erase _) (fun k hk => by
      rw [hn.mem_erase_iff] at hk
      have := h k hk.2
      omega)
    by_cases hm : (n : Int) ∈ l
    · rw [List.length_erase_of_mem hm] at h1; omega
    · rw [List.erase_of_not_mem hm] at h1; omega
theorem perm_key {left : List (Int × Value)} {k : Int} {v : Value} (hn : (left.map (·.1)).Nodup) (h : (k, v) ∈ left) :
  (left.map (·.1)).Perm (k :: (left.filter (fun p => p.1 ≠ k)).map (·.1)) := by
 have hm : k ∈ left.map (·.1) := List.mem_map.2 ⟨_, h, rfl⟩
 have h1 := List.perm_cons_erase hm
 rw [hn.erase_eq_filter, List.filter_map] at h1
 refine h1.trans ?_
 rw [show (left.filter ((fun x => x != k) ∘ fun x => x.1)) = left.filter (fun p => p.1 ≠ k) from by congr 1; funext p; rw [Bool.eq_iff_iff]; simp]
theorem nodup_left {left : List (Int × Value)} {k : Int} (hn : (left.map (·.1)).Nodup) : ((left.filter (fun p => p.1 ≠ k)).map (·.1)).Nodup :=
 List.Pairwise.sublist (List.filter_sublist.map _) hn
theorem vecSort (S : Nat → Prop) (E : TypeId) (v : Value) (l : List Int) (w : World) (h : IsVec S w E 1 v l.length (l.map (Value.int .i64))) (hlen : l.length < 4611686018427387904) :
    Calls Tryz.prog 39 #[v] w fun e w' => e = .returned (.tuple #[]) ∧ IsRow S w' v ((asc l).map (Value.int .i64)) ∧ Mod S w w' := by
  obtain ⟨⟨hl, h1⟩, h2⟩ := h
  rcases h1 with ⟨rfl, h0⟩ | ⟨g, cap, cur, rfl, hg, hh, hn, hm, hs, ht⟩
  · obtain rfl : l = [] := List.eq_nil_of_length_eq_zero h0
    refine (Tryz.slices_Sort_int_none none 0 w).mono ?_
    rintro e w' ⟨rfl, rfl⟩
    exact ⟨rfl, ⟨none, 0, by simp [asc], fun i hi => by simp [asc] at hi⟩, Mod.refl _ _⟩
  · have hcell : ∀ j, j < l.length → w.cell? ⟨g, j, none⟩ = some (.int .i64 (l.getD j 0)) := by
      intro j hj
      rw [cell_of hh]
      have := congrArg (fun x => x[j]?) ht
      simp only [Nat.mul_one] at this
      rw [List.getElem?_take_of_lt hj] at this
      simp at this
      rw [this]
      simp [hj]
    have hH : Go.Sort.Holds (Value.int .i64) w g 0 l.toArray := by
      intro j hj
      have hj' : j < l.length := by simpa using hj
      rw [Nat.zero_add]
      exact ⟨by rw [hcell j hj']; simp [hj', getElem!_pos], free_of hh j⟩
    have hgl : g < w.heap.size := heap_lt hh
    refine (Tryz.slices_Sort_int g 0 cap l w hH hgl hlen).mono ?_
    rintro e w' ⟨rfl, n, os, rfl⟩
    have hsz : (asc l).toArray.size = l.toArray.size := by simp [asc]
    refine ⟨rfl, ⟨_, cap, by simp [asc], fun i hi => ⟨g, 0, rfl, h2 g rfl, by simp [Go.Sort.ahead]; omega, ?_⟩⟩, ?_⟩
    · have hi' : i < (asc l).toArray.size := by simpa using hi
      have hi2 : i < (asc l).length := by simpa using hi
      rw [Go.Sort.cell?_grow _ _ _ (by simpa [Go.Sort.ahead] using hgl)]
      have := Go.Sort.cell?_putRow (Value.int .i64) (Go.Sort.ahead w n) g 0 l.toArray (asc l).toArray hH hsz i hi'
      rw [show (l.mergeSort fun x y => decide (x ≤ y)) = asc l from rfl, this]
      simp [hi2, getElem!_pos]
    · refine ⟨rfl, rfl, rfl, by simp [Go.Sort.ahead], fun k hk hne => ?_⟩
      rw [Go.Sort.heap_grow_old _ _ (by simpa [Go.Sort.ahead] using hk)]
      have hkg : g ≠ k := fun e => hne (e ▸ h2 g rfl)
      simp [Go.Sort.putRow, Go.Sort.mapBlock, Go.Sort.ahead, Array.getElem?_modify, hkg]
end Go.Proofs.YtdfahddpkkeldaaGreat

/- slices.Sort, then slices.Compact, at a slice of ints of the program's own. -/
import Derived.Test.YtpkhjdhbkkepgaaSort
namespace Go.Proofs.Ytpkhjdhbkkepgaa
open Go.RowKit

theorem setCells_mod (b : Nat) : ∀ (vs : List Value) (o : Nat) (w : World), Mod (· = b) w (w.setCells b o vs)
  | [], _, w => Mod.refl _ w
  | v :: r, o, w => ((Mod.refl (· = b) w).setCell ⟨b, o, none⟩ v (fun _ => rfl)).trans (setCells_mod b r (o + 1) (w.setCell ⟨b, o, none⟩ v)) (fun _ _ h => h)
/-- a slice of ints that may be written: its cells, none of them frozen -/
structure IsOwn (S : Nat → Prop) (w : World) (v : Value) (l : List Int) : Prop where
  row : IsRow S w v (l.map (Value.int .i64))
  own : v = .slice none 0 0 ∨ ∃ g c, v = .slice (some ⟨g, 0, none⟩) l.length c ∧ S g ∧ g < w.heap.size ∧ l.length ≤ c ∧ ∀ j, j < l.length → w.frozen? ⟨g, j, none⟩ = false
theorem vecSortOwn (S : Nat → Prop) (E : TypeId) (v : Value) (l : List Int) (w : World) (h : IsVec S w E 1 v l.length (l.map (Value.int .i64))) (hlen : l.length < 4611686018427387904) :
    Calls Try.prog 84 #[v] w fun e w' => e = .returned (.tuple #[]) ∧ IsOwn S w' v (asc l) ∧ Mod S w w' := by
  obtain ⟨⟨hl, h1⟩, h2⟩ := h
  rcases h1 with ⟨rfl, h0⟩ | ⟨g, cap, cur, rfl, hg, hh, hn, hm, hs, ht⟩
  · obtain rfl : l = [] := List.eq_nil_of_length_eq_zero h0
    refine (Try.slices_Sort_int_none none 0 w).mono ?_
    rintro e w' ⟨rfl, rfl⟩
    exact ⟨rfl, ⟨⟨none, 0, by simp [asc], fun i hi => by simp [asc] at hi⟩, .inl rfl⟩, Mod.refl _ _⟩
  · have hcell : ∀ j, j < l.length → w.cell? ⟨g, j, none⟩ = some (.int .i64 (l.getD j 0)) := by
      intro j hj
      rw [cell_of hh]
      have := congrArg (fun x => x[j]?) ht
      simp only [Nat.mul_one] at this
      rw [List.getElem?_take_of_lt hj] at this
      simp at this
      rw [this]
      simp [hj]
    have hH : Go.Sort.Holds (Value.int .i64) w g 0 l.toArray := by
      intro j hj
      have hj' : j < l.length := by simpa using hj
      rw [Nat.zero_add]
      exact ⟨by rw [hcell j hj']; simp [hj', getElem!_pos], free_of hh j⟩
    have hgl : g < w.heap.size := heap_lt hh
    refine (Try.slices_Sort_int g 0 cap l w hH hgl hlen).mono ?_
    rintro e w' ⟨rfl, n, os, rfl⟩
    have hsz : (asc l).toArray.size = l.toArray.size := by simp [asc]
    refine ⟨rfl, ⟨⟨_, cap, by simp [asc], fun i hi => ⟨g, 0, rfl, h2 g rfl, by simp [Go.Sort.ahead]; omega, ?_⟩⟩, .inr ⟨g, cap, by rw [asc_length], h2 g rfl, by simp [Go.Sort.ahead]; omega, by rw [asc_length]; exact hn, fun j hj => ?_⟩⟩, ?_⟩
    · have hi' : i < (asc l).toArray.size := by simpa using hi
      have hi2 : i < (asc l).length := by simpa using hi
      rw [Go.Sort.cell?_grow _ _ _ (by simpa [Go.Sort.ahead] using hgl)]
      have := Go.Sort.cell?_putRow (Value.int .i64) (Go.Sort.ahead w n) g 0 l.toArray (asc l).toArray hH hsz i hi'
      rw [show (l.mergeSort fun x y => decide (x ≤ y)) = asc l from rfl, this]
      simp [hi2, getElem!_pos]
    · rw [Go.Sort.frozen?_grow _ _ _ (by simpa [Go.Sort.ahead] using hgl), Go.Sort.frozen?_putRow, Go.Sort.frozen?_ahead]
      exact free_of hh j
    · refine ⟨rfl, rfl, rfl, by simp [Go.Sort.ahead], fun k hk hne => ?_⟩
      rw [Go.Sort.heap_grow_old _ _ (by simpa [Go.Sort.ahead] using hk)]
      have hkg : g ≠ k := fun e => hne (e ▸ h2 g rfl)
      simp [Go.Sort.putRow, Go.Sort.mapBlock, Go.Sort.ahead, Array.getElem?_modify, hkg]
theorem compact_length (zs : List Int) : (Lib.compact zs).length ≤ zs.length := by
  unfold Lib.compact Lib.compactUpTo
  rw [List.length_map]
  exact Nat.le_trans (List.length_filter_le _ _) (by simp)
theorem ownCompact (S : Nat → Prop) (v : Value) (l : List Int) (w : World) (h : IsOwn S w v l) (hlen : l.length ≤ 4611686018427387904) :
    Calls Try.prog 67 #[v] w fun e w' => ∃ v', e = .returned v' ∧ IsRow S w' v' ((Lib.compact l).map (Value.int .i64)) ∧ Mod S w w' := by
  obtain ⟨⟨p, c0, hv0, hcells⟩, ho⟩ := h
  rcases ho with rfl | ⟨g, c, rfl, hS, hg, hc, hf⟩
  · simp only [Value.slice.injEq, List.length_map] at hv0
    have hl0 : l = [] := List.eq_nil_of_length_eq_zero hv0.2.1.symm
    subst hl0
    refine (Try.slices_Compact_int_empty none 0 w).mono ?_
    rintro e w' ⟨rfl, rfl⟩
    exact ⟨_, rfl, ⟨none, 0, by simp [Lib.compact, Lib.compactUpTo], fun i hi => by simp [Lib.compact, Lib.compactUpTo] at hi⟩, Mod.refl _ _⟩
  · simp only [Value.slice.injEq] at hv0
    obtain ⟨rfl, -, rfl⟩ := hv0
    have hcl : ∀ j, j < l.length → w.cell? ⟨g, 0 + j, none⟩ = some (.int .i64 (l.getD j 0)) := by
      intro j hj
      obtain ⟨b, off, hp, _, _, hx⟩ := hcells j (by simpa using hj)
      simp only [Option.some.injEq, Addr.mk.injEq, and_true] at hp
      obtain ⟨rfl, rfl⟩ := hp
      rw [hx]; simp [hj]
    refine (Try.slices_Compact_int_cells g 0 l.length c l w (Nat.le_refl _) (by omega) hc hcl (fun j hj => by rw [Nat.zero_add]; exact hf j hj)).mono ?_
    rintro e w' ⟨rfl, q, rfl⟩
    rw [List.take_length]
    have hcl2 := compact_length l
    have hm : Mod (· = g) w ((w.drewN q).setCells g 0 ((Lib.compact l ++ List.replicate (l.length - (Lib.compact l).length) 0).map (Value.int .i64))) := ((Mod.refl (· = g) w).drewN q).trans (setCells_mod g _ 0 (w.drewN q)) (fun _ _ h => h)
    refine ⟨_, rfl, ⟨_, c, by rw [List.length_map], fun i hi => ⟨g, 0, rfl, hS, Nat.lt_of_lt_of_le hg hm.size, ?_⟩⟩, hm.mono (fun k _ e => e ▸ hS)⟩
    have hi' : i < (Lib.compact l).length := by simpa using hi
    rw [World.cell?_setCells_in g _ 0 (w.drewN q) (fun j hj => by
      have hj' : j < l.length := by simp at hj; omega
      have : (w.drewN q).cell? ⟨g, 0 + j, none⟩ = w.cell? ⟨g, 0 + j, none⟩ := rfl
      rw [this, hcl j hj']; rfl) i (by simp; omega)]
    simp [List.getElem_append_left hi', hi']
end Go.Proofs.Ytpkhjdhbkkepgaa

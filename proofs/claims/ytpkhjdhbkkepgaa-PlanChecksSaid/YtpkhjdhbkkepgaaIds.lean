/- Plain laws: what slices.Compact leaves of an ascending list. -/
import Derived.Test.YtpkhjdhbkkepgaaSortC
namespace Go.Proofs.Ytpkhjdhbkkepgaa

theorem compact_eq (zs : List Int) : Lib.compact zs = ((List.range zs.length).filter (Lib.keeps zs.toArray)).map (fun j => zs.getD j 0) := by
  unfold Lib.compact Lib.compactUpTo
  apply List.map_congr_left
  intro j hj
  have hj' : j < zs.length := by
    have := (List.mem_filter.1 hj).1
    simpa using this
  simp [getElem!_pos, hj']
theorem compact_mem (zs : List Int) (x : Int) : x ∈ Lib.compact zs ↔ x ∈ zs := by
  rw [compact_eq]
  constructor
  · intro h
    obtain ⟨j, hj, rfl⟩ := List.mem_map.1 h
    have hj' : j < zs.length := by
      have := (List.mem_filter.1 hj).1
      simpa using this
    simp [hj']
  · intro h
    obtain ⟨j, hj, rfl⟩ := List.getElem_of_mem h
    induction j using Nat.strongRecOn with
    | _ j ih =>
      by_cases hk : Lib.keeps zs.toArray j = true
      · exact List.mem_map.2 ⟨j, List.mem_filter.2 ⟨List.mem_range.2 hj, hk⟩, by simp [hj]⟩
      · have hk2 : j ≠ 0 ∧ zs[j - 1]'(by omega) = zs[j] := by
          simp only [Lib.keeps] at hk
          by_cases h0 : j = 0
          · simp [h0] at hk
          · refine ⟨h0, ?_⟩
            simp [h0, getElem!_pos, hj, show j - 1 < zs.length by omega] at hk
            omega
        have := ih (j - 1) (by omega) (by omega) (List.getElem_mem _)
        rw [← hk2.2]
        exact this
theorem compact_strict (zs : List Int) (hs : zs.Pairwise (· ≤ ·)) : (Lib.compact zs).Pairwise (· < ·) := by
  rw [compact_eq, List.pairwise_map]
  refine List.Pairwise.imp_of_mem (R := (· < ·)) (fun {i j} hi hj hij => ?_) ((List.pairwise_lt_range).filter _)
  have hj' : j < zs.length := by
    have := (List.mem_filter.1 hj).1
    simpa using this
  have hk := (List.mem_filter.1 hj).2
  simp only [Lib.keeps] at hk
  have h0 : j ≠ 0 := by omega
  simp [h0, getElem!_pos, hj', show j - 1 < zs.length by omega] at hk
  have hle := List.pairwise_iff_getElem.1 hs
  have h1 : zs[j - 1]'(by omega) ≤ zs[j] := hle (j - 1) j (by omega) hj' (by omega)
  have h2 : zs[i]'(by omega) ≤ zs[j - 1]'(by omega) := by
    rcases Nat.lt_or_ge i (j - 1) with h | h
    · exact hle i (j - 1) (by omega) (by omega) h
    · have : i = j - 1 := by omega
      subst this; exact Int.le_refl _
  simp only [List.getD_eq_getElem?_getD, List.getElem?_eq_getElem hj', List.getElem?_eq_getElem (show i < zs.length by omega), Option.getD_some]
  omega
theorem strict_eq : ∀ {l l' : List Int}, (∀ x, x ∈ l ↔ x ∈ l') → l.Pairwise (· < ·) → l'.Pairwise (· < ·) → l = l'
  | [], [], _, _, _ => rfl
  | [], b :: l', h, _, _ => by have := (h b).2 (by simp); simp at this
  | a :: l, [], h, _, _ => by have := (h a).1 (by simp); simp at this
  | a :: l, b :: l', h, h1, h2 => by
    rw [List.pairwise_cons] at h1 h2
    have hab : a = b := by
      rcases List.mem_cons.1 ((h a).1 (by simp)) with e | e
      · exact e
      · rcases List.mem_cons.1 ((h b).2 (by simp)) with e' | e'
        · exact e'.symm
        · have := h1.1 b e'; have := h2.1 a e; omega
    subst hab
    congr 1
    refine strict_eq (fun x => ?_) h1.2 h2.2
    constructor
    · intro hx
      rcases List.mem_cons.1 ((h x).1 (List.mem_cons_of_mem _ hx)) with e | e
      · have := h1.1 x hx; omega
      · exact e
    · intro hx
      rcases List.mem_cons.1 ((h x).2 (List.mem_cons_of_mem _ hx)) with e | e
      · have := h2.1 x hx; omega
      · exact e
end Go.Proofs.Ytpkhjdhbkkepgaa

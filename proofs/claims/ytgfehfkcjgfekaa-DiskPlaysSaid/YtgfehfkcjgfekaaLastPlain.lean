/- DiskLasts: the plain laws: what is dirty of so many sectors, and what a crash leaves of them. -/
import Derived.Test.YtgfehfkcjgfekaaLawDiskReads
namespace Go.Proofs.Ytgfehfkcjgfekaa
open Go.RowKit

def odd (x : UInt8) : Prop := x.toNat % 2 = 1
instance (x : UInt8) : Decidable (odd x) := inferInstanceAs (Decidable (_ = _))
/-- the sectors below i that are written anew -/
def dirtyTo (f : Nat → UInt8) : Nat → List Nat
  | 0 => []
  | i + 1 => if odd (f i) then dirtyTo f i ++ [i] else dirtyTo f i
theorem dirtyTo_lt (f : Nat → UInt8) : ∀ i j, j ∈ dirtyTo f i → j < i
  | 0, j, h => by simp [dirtyTo] at h
  | i + 1, j, h => by
    unfold dirtyTo at h
    split at h
    · rcases List.mem_append.1 h with h | h
      · have := dirtyTo_lt f i j h; omega
      · have : j = i := by simpa using h
        omega
    · have := dirtyTo_lt f i j h; omega
theorem dirtyTo_odd (f : Nat → UInt8) : ∀ i j, j ∈ dirtyTo f i → odd (f j)
  | 0, j, h => by simp [dirtyTo] at h
  | i + 1, j, h => by
    unfold dirtyTo at h
    split at h
    · rcases List.mem_append.1 h with h | h
      · exact dirtyTo_odd f i j h
      · obtain rfl : j = i := by simpa using h
        assumption
    · exact dirtyTo_odd f i j h
theorem dirtyTo_mem (f : Nat → UInt8) : ∀ i j, j < i → odd (f j) → j ∈ dirtyTo f i
  | 0, j, h, _ => by omega
  | i + 1, j, h, ho => by
    unfold dirtyTo
    by_cases hj : j < i
    · have := dirtyTo_mem f i j hj ho
      split <;> simp [this]
    · obtain rfl : j = i := by omega
      simp [ho]
theorem dirtyTo_le (f : Nat → UInt8) : ∀ i, (dirtyTo f i).length ≤ i
  | 0 => by simp [dirtyTo]
  | i + 1 => by
    have := dirtyTo_le f i
    unfold dirtyTo
    split <;> simp <;> omega
theorem dirtyTo_sorted (f : Nat → UInt8) : ∀ i, (dirtyTo f i).Pairwise (· < ·)
  | 0 => by simp [dirtyTo]
  | i + 1 => by
    unfold dirtyTo
    split
    · rw [List.pairwise_append]
      exact ⟨dirtyTo_sorted f i, by simp, fun a ha b hb => by have := dirtyTo_lt f i a ha; simp at hb; omega⟩
    · exact dirtyTo_sorted f i
/-- a dirty one lies at its own place -/
theorem dirtyTo_at (f : Nat → UInt8) : ∀ i m, m < (dirtyTo f i).length → ∃ j, j < i ∧ odd (f j) ∧ (dirtyTo f j).length = m ∧ (dirtyTo f i).getD m 0 = j
  | 0, m, h => by simp [dirtyTo] at h
  | i + 1, m, h => by
    have hd : dirtyTo f (i + 1) = if odd (f i) then dirtyTo f i ++ [i] else dirtyTo f i := rfl
    rw [hd] at h ⊢
    split at h
    · rename_i ho
      rw [if_pos ho]
      by_cases hm : m < (dirtyTo f i).length
      · obtain ⟨j, h1, h2, h3, h4⟩ := dirtyTo_at f i m hm
        refine ⟨j, by omega, h2, h3, ?_⟩
        rw [← h4]; simp [List.getElem?_append_left hm]
      · have hm' : m = (dirtyTo f i).length := by simp at h; omega
        exact ⟨i, by omega, ho, hm'.symm, by subst hm'; simp⟩
    · rename_i ho
      rw [if_neg ho]
      obtain ⟨j, h1, h2, h3, h4⟩ := dirtyTo_at f i m h
      exact ⟨j, by omega, h2, h3, h4⟩
theorem dirtyTo_mono (f : Nat → UInt8) (i : Nat) : ∀ d, (dirtyTo f i).length ≤ (dirtyTo f (i + d)).length
  | 0 => Nat.le_refl _
  | d + 1 => by
    have := dirtyTo_mono f i d
    have hd : dirtyTo f (i + (d + 1)) = if odd (f (i + d)) then dirtyTo f (i + d) ++ [i + d] else dirtyTo f (i + d) := rfl
    rw [hd]
    split
    · rw [List.length_append]; omega
    · exact this
theorem dirtyTo_place (f : Nat → UInt8) (j k : Nat) (hj : odd (f j)) (hk : odd (f k)) (h : (dirtyTo f j).length = (dirtyTo f k).length) : j = k := by
  have key : ∀ a b, odd (f a) → a < b → (dirtyTo f a).length < (dirtyTo f b).length := by
    intro a b ha hab
    have h1 := dirtyTo_mono f (a + 1) (b - (a + 1))
    rw [show a + 1 + (b - (a + 1)) = b by omega] at h1
    have h2 : (dirtyTo f (a + 1)).length = (dirtyTo f a).length + 1 := by rw [dirtyTo, if_pos ha]; simp
    omega
  rcases Nat.lt_trichotomy j k with h1 | h1 | h1
  · have := key j k hj h1; omega
  · exact h1
  · have := key k j hk h1; omega
def pendTo (f : Nat → UInt8) (i : Nat) : List (Int × List UInt8) := (dirtyTo f i).map (pend1 f)
theorem pendTo_length (f : Nat → UInt8) (i : Nat) : (pendTo f i).length = (dirtyTo f i).length := by simp [pendTo]
theorem pendTo_odd (f : Nat → UInt8) (i : Nat) (h : odd (f i)) : bput (pendTo f i) i (textOf (f i) 64) = pendTo f (i + 1) := by
  unfold bput
  rw [if_neg (by
    simp only [pendTo, List.map_map, List.mem_map, not_exists, not_and]
    intro x hx e
    have := dirtyTo_lt f i x hx
    simp [pend1] at e
    omega)]
  simp [pendTo, dirtyTo, h, pend1]
theorem pendTo_even (f : Nat → UInt8) (i : Nat) (h : ¬ odd (f i)) : pendTo f (i + 1) = pendTo f i := by simp [pendTo, dirtyTo, h]
theorem pendTo_find (f : Nat → UInt8) (n i : Nat) (h : i < n) (ho : odd (f i)) : (pendTo f n).find? (fun p => p.1 == (i : Int)) = some ((i : Int), textOf (f i) 64) := by
  have hm := dirtyTo_mem f n i h ho
  unfold pendTo
  rw [List.find?_map]
  have : (dirtyTo f n).find? ((fun p : Int × List UInt8 => p.1 == (i : Int)) ∘ pend1 f) = some i := by
    cases hf : (dirtyTo f n).find? ((fun p : Int × List UInt8 => p.1 == (i : Int)) ∘ pend1 f) with
    | none =>
      rw [List.find?_eq_none] at hf
      have := hf i hm
      simp [pend1] at this
    | some x =>
      have := List.find?_some hf
      simp [pend1] at this
      rw [show x = i by omega]
  rw [this]; rfl
/-- what is to be read of sector i in the end -/
def wantOf (fa fb : Nat → UInt8) (keep : List Bool) (i : Nat) : UInt8 := if odd (fb i) ∧ keep.getD (dirtyTo fb i).length false = true then fb i else fa i
def rowsOf (f : Nat → UInt8) (n : Nat) : List (List UInt8) := (List.range n).map (fun i => textOf (f i) 64)
theorem rowsOf_length (f : Nat → UInt8) (n : Nat) : (rowsOf f n).length = n := by simp [rowsOf]
theorem synced_pends (f : Nat → UInt8) (n : Nat) : DS.synced ⟨List.replicate n zeros64, pends f n, -1, false⟩ = rowsOf f n := by
  unfold DS.synced rowsOf
  simp only [List.length_replicate]
  apply List.map_congr_left
  intro i hi
  unfold laid
  rw [pends_find f n i (List.mem_range.1 hi)]
  simp
theorem dirt_pendTo (fa fb : Nat → UInt8) (n : Nat) : DS.dirt ⟨rowsOf fa n, pendTo fb n, -1, false⟩ = (dirtyTo fb n).map (fun j : Nat => (j : Int)) := by
  unfold DS.dirt
  have h : (pendTo fb n).map (·.1) = (dirtyTo fb n).map (fun j : Nat => (j : Int)) := by
    simp only [pendTo, List.map_map]
    exact List.map_congr_left (fun _ _ => rfl)
  rw [show (DS.mk (rowsOf fa n) (pendTo fb n) (-1) false).pend = pendTo fb n from rfl, h]
  exact sorted_eq (asc_perm _) (asc_sorted _) (by
    rw [List.pairwise_map]
    exact (dirtyTo_sorted fb n).imp (fun h => by omega))
theorem layTo_pendTo (fa fb : Nat → UInt8) (keep : List Bool) (n : Nat) : ∀ m, m ≤ (dirtyTo fb n).length →
    DS.layTo ⟨rowsOf fa n, pendTo fb n, -1, false⟩ keep m = (List.range n).map (fun i => if odd (fb i) ∧ keep.getD (dirtyTo fb i).length false = true ∧ (dirtyTo fb i).length < m then textOf (fb i) 64 else textOf (fa i) 64)
  | 0, _ => by
    unfold DS.layTo rowsOf
    exact List.map_congr_left fun i _ => by simp
  | m + 1, h => by
    have ih := layTo_pendTo fa fb keep n m (by omega)
    obtain ⟨j, h1, h2, h3, h4⟩ := dirtyTo_at fb n m (by omega)
    have hg : (DS.dirt ⟨rowsOf fa n, pendTo fb n, -1, false⟩).getD m 0 = (j : Int) := by
      rw [dirt_pendTo]
      have hm : m < (dirtyTo fb n).length := by omega
      rw [← h4]; simp [hm]
    have ha : DS.at ⟨rowsOf fa n, pendTo fb n, -1, false⟩ (j : Int) = textOf (fb j) 64 := by
      unfold DS.at
      rw [show (DS.mk (rowsOf fa n) (pendTo fb n) (-1) false).pend = pendTo fb n from rfl, pendTo_find fb n j h1 h2]
    unfold DS.layTo
    rw [ih, hg, ha]
    apply List.ext_getElem
    · split <;> simp
    · intro i hi hi'
      have hin : i < n := by simpa using hi'
      by_cases hk : keep.getD m false = true
      · simp only [hk, if_true, List.getElem_set, List.getElem_map, List.getElem_range, Int.toNat_natCast]
        by_cases hji : j = i
        · subst hji
          rw [if_pos rfl, if_pos ⟨h2, by rw [h3]; exact hk, by omega⟩]
        · rw [if_neg hji]
          by_cases ho : odd (fb i)
          · have hne : (dirtyTo fb i).length ≠ m := fun e => hji (dirtyTo_place fb j i h2 ho (by omega))
            simp only [show ((dirtyTo fb i).length < m) ↔ ((dirtyTo fb i).length < m + 1) by omega]
          · simp [ho]
      · simp only [hk, if_false, Bool.false_eq_true, List.getElem_map, List.getElem_range]
        by_cases hm : (dirtyTo fb i).length = m
        · rw [hm, if_neg (fun h => hk h.2.1), if_neg (fun h => hk h.2.1)]
        · simp only [show ((dirtyTo fb i).length < m) ↔ ((dirtyTo fb i).length < m + 1) by omega]
theorem crash_pendTo (fa fb : Nat → UInt8) (keep : List Bool) (n : Nat) : DS.crash ⟨rowsOf fa n, pendTo fb n, -1, false⟩ keep = ⟨rowsOf (wantOf fa fb keep) n, [], -1, false⟩ := by
  unfold DS.crash
  rw [layTo_pendTo fa fb keep n _ (by rw [dirt_pendTo]; simp)]
  congr 1
  unfold rowsOf
  apply List.map_congr_left
  intro i hi
  have hin : i < n := List.mem_range.1 hi
  rw [show (DS.dirt ⟨List.map (fun i => textOf (fa i) 64) (List.range n), pendTo fb n, -1, false⟩) = _ from dirt_pendTo fa fb n]
  simp only [List.length_map]
  unfold wantOf
  by_cases ho : odd (fb i)
  · have h1 := dirtyTo_mono fb (i + 1) (n - (i + 1))
    rw [show i + 1 + (n - (i + 1)) = n by omega] at h1
    have h2 : (dirtyTo fb (i + 1)).length = (dirtyTo fb i).length + 1 := by rw [dirtyTo, if_pos ho]; simp
    simp only [ho, show (dirtyTo fb i).length < (dirtyTo fb n).length by omega, and_true]
    split <;> rfl
  · simp [ho]
theorem read_rows (f : Nat → UInt8) (n k : Nat) (h : k < n) : DS.read ⟨rowsOf f n, [], -1, false⟩ (k : Int) = (textOf (f k) 64, 0) := by
  have hs : DS.sector ⟨rowsOf f n, [], -1, false⟩ (k : Int) = 0 := by simp [DS.sector, rowsOf_length]; omega
  simp only [DS.read, hs]
  simp [rowsOf, h]
end Go.Proofs.Ytgfehfkcjgfekaa

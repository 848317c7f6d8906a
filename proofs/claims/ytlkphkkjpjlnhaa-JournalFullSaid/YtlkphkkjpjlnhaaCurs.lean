/- What is read of a disk's sectors; plain. -/
import Derived.Test.YtlkphkkjpjlnhaaDiskB
namespace Go.Proofs.Ytlkphkkjpjlnhaa
open Go.RowKit
/-- what is read of sector i -/
def DS.cur (d : DS) (i : Nat) : List UInt8 := match d.pend.find? (fun p => p.1 == (i : Int)) with | some p => p.2 | none => d.lasts.getD i []
def DS.curs (d : DS) : List (List UInt8) := (List.range d.lasts.length).map d.cur
theorem curs_length (d : DS) : d.curs.length = d.lasts.length := by simp [DS.curs]
theorem synced_curs (d : DS) : d.synced = d.curs := by
  unfold DS.synced DS.curs
  apply List.map_congr_left
  intro i _
  unfold laid DS.cur
  cases d.pend.find? (fun p => p.1 == (i : Int)) <;> simp
theorem curs_none (l : List (List UInt8)) (f : Int) (b : Bool) : DS.curs ⟨l, [], f, b⟩ = l := by
  apply List.ext_getElem
  · simp [DS.curs]
  · intro i h1 h2
    simp [DS.curs, DS.cur, h2]
theorem read_cur (d : DS) (i : Int) : d.read i = if d.sector i ≠ 0 then ([], d.sector i) else (d.curs.getD i.toNat [], 0) := by
  unfold DS.read
  by_cases h : d.sector i ≠ 0
  · rw [if_pos h, if_pos h]
  · rw [if_neg h, if_neg h]
    have h2 := DS.sector_ok (by simpa using h : d.sector i = 0)
    obtain ⟨n, rfl⟩ := Int.eq_ofNat_of_zero_le h2.2.1
    have hn : n < d.lasts.length := by omega
    simp only [DS.curs, Int.toNat_natCast]
    rw [show ((List.range d.lasts.length).map d.cur).getD n [] = d.cur n by simp [hn]]
    unfold DS.cur
    cases d.pend.find? (fun p => p.1 == (n : Int)) <;> rfl
theorem find_bput (m : List (Int × List UInt8)) (k j : Int) (l : List UInt8) : (bput m k l).find? (fun p => p.1 == j) = if j = k then some (k, l) else m.find? (fun p => p.1 == j) := by
  unfold bput
  split
  · rename_i hk
    induction m with
    | nil => simp at hk
    | cons a m ih =>
      rw [List.map_cons, List.find?_cons, List.find?_cons]
      by_cases ha : a.1 = k
      · rw [if_pos ha]
        by_cases hj : j = k
        · subst hj; simp
        · rw [if_neg hj]
          have h1 : ((k, l).1 == j) = false := by simp; omega
          have h2 : (a.1 == j) = false := by simp; omega
          rw [h1, h2]
          simp only
          by_cases hkm : k ∈ m.map (·.1)
          · have := ih hkm
            rw [if_neg hj] at this
            exact this
          · have : ∀ x ∈ m, ¬ x.1 = k := fun x hx e => hkm (List.mem_map.2 ⟨x, hx, e⟩)
            rw [show m.map (fun p => if p.1 = k then (k, l) else p) = m from by
              rw [List.map_congr_left (g := id) (fun x hx => by rw [if_neg (this x hx)]; rfl)]; simp]
      · rw [if_neg ha]
        have hkm : k ∈ m.map (·.1) := by
          rcases List.mem_cons.1 hk with h | h
          · exact absurd h.symm ha
          · exact h
        by_cases haj : a.1 = j
        · have h1 : (a.1 == j) = true := by simp [haj]
          rw [h1, if_neg (by omega)]
        · have h1 : (a.1 == j) = false := by simp [haj]
          rw [h1]
          exact ih hkm
  · rename_i hk
    rw [List.find?_append]
    by_cases hj : j = k
    · subst hj
      rw [if_pos rfl, List.find?_eq_none.2 (fun x hx => by simp; exact fun e => hk (List.mem_map.2 ⟨x, hx, e⟩))]
      simp
    · rw [if_neg hj]
      have : [(k, l)].find? (fun p => p.1 == j) = none := by simp; omega
      rw [this]
      simp
theorem curs_bput (d : DS) (k : Nat) (l : List UInt8) : DS.curs { d with pend := bput d.pend k l } = d.curs.set k l := by
  apply List.ext_getElem
  · simp [DS.curs]
  · intro i h1 h2
    simp only [DS.curs, List.getElem_map, List.getElem_range, List.getElem_set]
    simp only [DS.cur, find_bput]
    by_cases h : k = i
    · subst h; simp
    · rw [if_neg h, if_neg (by omega)]
end Go.Proofs.Ytlkphkkjpjlnhaa

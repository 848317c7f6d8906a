/- The reference's desk: the plain laws: its pair, its ids. -/
import Derived.Test.YtdpaklpaanojpaaBothPlain
namespace Go.Proofs.Ytdpaklpaanojpaa

/-- the confirmation in place i has a later one like it -/
def hasLater (l : List Said) (id : Int) (i : Nat) : Prop := ∃ x, l[i]? = some x ∧ x.t.id = id ∧ ∃ m y, i < m ∧ l[m]? = some y ∧ y.t = x.t
theorem later_both {l : List Said} (hi : Inv l) {id : Int} {i : Nat} {x : Said} (hx : l[i]? = some x) (h : hasLater l id i) : x.t.id = id ∧ bothB l x = true := by
  obtain ⟨x', hx', h1, m, y, him, hy, ht⟩ := h
  rw [hx] at hx'
  obtain rfl : x = x' := Option.some.inj hx'
  refine ⟨h1, (bothB_true l x).2 ⟨y, List.mem_of_getElem? hy, ?_, ht⟩⟩
  intro hw
  obtain ⟨hil, hxe⟩ := List.getElem?_eq_some_iff.1 hx
  obtain ⟨hml, hye⟩ := List.getElem?_eq_some_iff.1 hy
  have := List.pairwise_iff_getElem.1 hi.once i m hil hml him
  rw [hxe, hye] at this
  exact this ⟨hw.symm, by rw [ht]⟩
theorem pair_at {l : List Said} (hi : Inv l) {id : Int} {i : Nat} {x : Said} (hx : l[i]? = some x) (h : hasLater l id i) (hno : ∀ j, j < i → ¬ hasLater l id j) : pairOf l id = some x.t := by
  obtain ⟨hil, hxe⟩ := List.getElem?_eq_some_iff.1 hx
  unfold pairOf
  have hf : l.find? (fun x : Said => decide (x.t.id = id) && bothB l x) = some x := by
    rw [List.find?_eq_some_iff_getElem]
    obtain ⟨h1, h2⟩ := later_both hi hx h
    refine ⟨by simp [h1, h2], i, hil, hxe, fun j hj => ?_⟩
    simp only [Bool.not_eq_true', Bool.and_eq_false_iff, decide_eq_false_iff_not]
    by_cases hid : l[j].t.id = id
    · refine .inr ?_
      by_cases hb : bothB l l[j] = true
      · exfalso
        obtain ⟨y, hy, hw, ht⟩ := (bothB_true l l[j]).1 hb
        obtain ⟨m, hm, rfl⟩ := List.getElem_of_mem hy
        rcases Nat.lt_trichotomy j m with hjm | hjm | hjm
        · exact hno j hj ⟨l[j], List.getElem?_eq_getElem _, hid, m, l[m], hjm, List.getElem?_eq_getElem _, ht⟩
        · subst hjm; exact hw rfl
        · exact hno m (by omega) ⟨l[m], List.getElem?_eq_getElem _, by rw [ht]; exact hid, j, l[j], hjm, List.getElem?_eq_getElem _, ht.symm⟩
      · simpa using hb
    · exact .inl hid
  rw [hf]; rfl
theorem pair_none {l : List Said} {id : Int} (hno : ∀ j, j < l.length → ¬ hasLater l id j) : pairOf l id = none := by
  cases hp : pairOf l id with
  | none => rfl
  | some t =>
    exfalso
    obtain ⟨h1, x, hx, h2, hb⟩ := pairOf_some hp
    obtain ⟨y, hy, hw, ht⟩ := (bothB_true l x).1 hb
    obtain ⟨j, hj, rfl⟩ := List.getElem_of_mem hx
    obtain ⟨m, hm, rfl⟩ := List.getElem_of_mem hy
    rcases Nat.lt_trichotomy j m with hjm | hjm | hjm
    · exact hno j hj ⟨l[j], List.getElem?_eq_getElem _, by rw [h2]; exact h1, m, l[m], hjm, List.getElem?_eq_getElem _, ht⟩
    · subst hjm; exact hw rfl
    · exact hno m hm ⟨l[m], List.getElem?_eq_getElem _, by rw [ht, h2]; exact h1, j, l[j], hjm, List.getElem?_eq_getElem _, ht.symm⟩
/-- so many first ones' numbers -/
theorem ids_same (l : List Said) (k : Nat) (hk : k < l.length) (h : l[k].t.id ∈ idsOf (l.take k)) : idsOf (l.take (k + 1)) = idsOf (l.take k) := by
  refine strict_eq (fun x => ?_) (idsOf_strict _) (idsOf_strict _)
  rw [idsOf_mem, idsOf_mem, ← List.take_append_getElem hk]
  obtain ⟨y, hy, hyi⟩ := (idsOf_mem _ _).1 h
  constructor
  · rintro ⟨z, hz, rfl⟩
    rcases List.mem_append.1 hz with hz | hz
    · exact ⟨z, hz, rfl⟩
    · obtain rfl : z = l[k] := by simpa using hz
      exact ⟨y, hy, hyi⟩
  · rintro ⟨z, hz, rfl⟩
    exact ⟨z, List.mem_append_left _ hz, rfl⟩
theorem ids_ins (l : List Said) (k : Nat) (hk : k < l.length) (ids : List Int) (hids : idsOf (l.take k) = ids) (h : l[k].t.id ∉ ids) (q : Nat) (hq : q ≤ ids.length) (h1 : ∀ j, (hj : j < ids.length) → q ≤ j → l[k].t.id < ids[j]) (h2 : ∀ j, (hj : j < ids.length) → j + 1 = q → ids[j] ≤ l[k].t.id) :
    idsOf (l.take (k + 1)) = ids.take q ++ [l[k].t.id] ++ ids.drop q := by
  have hs := idsOf_strict (l.take k)
  have hmem := fun x => idsOf_mem (l.take k) x
  rw [hids] at hs
  simp only [hids] at hmem
  refine strict_eq (fun x => ?_) (idsOf_strict _) ?_
  · rw [idsOf_mem, ← List.take_append_getElem hk, List.append_assoc, List.mem_append, List.singleton_append, List.mem_cons]
    have hsplit : (x ∈ ids.take q ∨ x ∈ ids.drop q) ↔ x ∈ ids := by rw [← List.mem_append, List.take_append_drop]
    constructor
    · rintro ⟨z, hz, rfl⟩
      rcases List.mem_append.1 hz with hz | hz
      · rcases hsplit.2 ((hmem _).2 ⟨z, hz, rfl⟩) with e | e
        · exact .inl e
        · exact .inr (.inr e)
      · obtain rfl : z = l[k] := by simpa using hz
        exact .inr (.inl rfl)
    · rintro (e | e | e)
      · obtain ⟨z, hz, hzi⟩ := (hmem _).1 (hsplit.1 (.inl e))
        exact ⟨z, List.mem_append_left _ hz, hzi⟩
      · exact ⟨l[k], List.mem_append_right _ (by simp), e.symm⟩
      · obtain ⟨z, hz, hzi⟩ := (hmem _).1 (hsplit.1 (.inr e))
        exact ⟨z, List.mem_append_left _ hz, hzi⟩
  · have hp := List.pairwise_iff_getElem.1 hs
    have hne : ∀ j, (hj : j < ids.length) → ids[j] ≠ l[k].t.id := fun j hj e => h (e ▸ List.getElem_mem hj)
    have hlow : ∀ j, (hj : j < ids.length) → j < q → ids[j] < l[k].t.id := fun j hj hjq => by
      rcases (show j + 1 = q ∨ j + 1 < q by omega) with e | e
      · have := h2 j hj e
        have := hne j hj
        omega
      · by_cases hql : q - 1 < ids.length
        · have h3 := h2 (q - 1) hql (by omega)
          have := hp j (q - 1) hj hql (by omega)
          omega
        · exact absurd hjq (fun _ => by have := hq; omega)
    rw [List.append_assoc, List.pairwise_append]
    refine ⟨hs.sublist (List.take_sublist q ids), ?_, ?_⟩
    · rw [List.singleton_append, List.pairwise_cons]
      refine ⟨fun x hx => ?_, hs.sublist (List.drop_sublist q ids)⟩
      obtain ⟨j, hj, rfl⟩ := List.getElem_of_mem hx
      simp only [List.length_drop] at hj
      rw [List.getElem_drop]
      exact h1 (q + j) (by omega) (by omega)
    · intro x hx y hy
      obtain ⟨j, hj, rfl⟩ := List.getElem_of_mem hx
      simp only [List.length_take] at hj
      rw [List.getElem_take]
      have h3 := hlow j (by omega) (by omega)
      rw [List.singleton_append] at hy
      rcases List.mem_cons.1 hy with rfl | hy
      · exact h3
      · obtain ⟨m, hm, rfl⟩ := List.getElem_of_mem hy
        simp only [List.length_drop] at hm
        rw [List.getElem_drop]
        have := h1 (q + m) (by omega) (by omega)
        omega
end Go.Proofs.Ytdpaklpaanojpaa

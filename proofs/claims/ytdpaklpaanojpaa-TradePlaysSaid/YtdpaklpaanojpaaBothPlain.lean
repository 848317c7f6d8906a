/- TradeBoth: the plain laws. -/
import Derived.Test.YtdpaklpaanojpaaLawTrade
import Derived.Test.YtdpaklpaanojpaaPairs
namespace Go.Proofs.Ytdpaklpaanojpaa

/-- what stands in a desk's list: each side's own confirmation, each number once a side -/
structure Inv (l : List Said) : Prop where
  side : ∀ x ∈ l, (x.who = x.t.buyer ∨ x.who = x.t.seller) ∧ x.t.buyer ≠ x.t.seller
  once : l.Pairwise (fun x y => ¬ (x.who = y.who ∧ x.t.id = y.t.id))
theorem Inv.nil : Inv [] := ⟨by simp, List.Pairwise.nil⟩
theorem put_bad (p c a : Int) (l : List Said) (who : Int) (t : T7) (h : (putR p c a l who t).2 ≠ 0) : (putR p c a l who t).1 = l := by
  unfold putR at h ⊢
  split
  · rfl
  · split
    · rfl
    · split
      · rfl
      · split
        · rfl
        · rename_i h1 h2 h3 h4
          rw [if_neg h1, if_neg h2, if_neg h3, if_neg h4] at h
          exact absurd rfl h
theorem put_ok (p c a : Int) (l : List Said) (who : Int) (t : T7) (h : (putR p c a l who t).2 = 0) : (putR p c a l who t).1 = l ++ [⟨who, t⟩] ∧ (Inv l → Inv (l ++ [⟨who, t⟩])) := by
  unfold putR at h ⊢
  split
  · rename_i h1; rw [if_pos h1] at h; exact absurd h h1
  · rename_i h1
    rw [if_neg h1] at h
    split
    · rename_i h2; rw [if_pos h2] at h; simp at h
    · rename_i h2
      rw [if_neg h2] at h
      split
      · rename_i h3; rw [if_pos h3] at h; simp at h
      · rename_i h3
        rw [if_neg h3] at h
        split
        · rename_i h4; rw [if_pos h4] at h; simp at h
        · refine ⟨rfl, fun hi => ⟨fun x hx => ?_, ?_⟩⟩
          · rcases List.mem_append.1 hx with hx | hx
            · exact hi.side x hx
            · obtain rfl : x = ⟨who, t⟩ := by simpa using hx
              refine ⟨?_, ?_⟩
              · simp only
                by_cases e : who = t.buyer
                · exact .inl e
                · exact .inr (by simp only [ne_eq, not_and, Decidable.not_not] at h2; exact h2 e)
              · intro e
                apply h1
                intro h0
                simp only at e
                unfold mayT at h0
                rw [if_pos e] at h0
                split at h0 <;> simp at h0
          · rw [List.pairwise_append]
            refine ⟨hi.once, by simp, fun x hx y hy => ?_⟩
            obtain rfl : y = ⟨who, t⟩ := by simpa using hy
            intro e
            apply h3
            exact List.any_eq_true.2 ⟨x, hx, by simp [e.1, e.2]⟩
theorem two_of {a b : Int} (hab : a ≠ b) : ∀ l : List Int, l.Nodup → (∀ x ∈ l, x = a ∨ x = b) → a ∈ l → b ∈ l → l.length = 2
  | [], _, _, h, _ => by simp at h
  | [x], _, _, h, h' => by simp at h h'; omega
  | [x, y], _, _, _, _ => rfl
  | x :: y :: z :: l, hn, hm, _, _ => by
    have hx := hm x (by simp); have hy := hm y (by simp); have hz := hm z (by simp)
    simp only [List.nodup_cons, List.mem_cons, not_or] at hn
    omega
def sideB (t : T7) (x : Said) : Bool := decide (x.t = t ∧ (x.who = t.buyer ∨ x.who = t.seller))
theorem sides_two {l : List Said} (hi : Inv l) {t : T7} (h : t ∈ matchedOf l) : l.countP (sideB t) = 2 := by
  obtain ⟨h1, x, hx, rfl, hb⟩ := pairOf_some (matched_mem h)
  obtain ⟨y, hy, hw, hty⟩ := (bothB_true _ _).1 hb
  rw [List.countP_eq_length_filter]
  have hf : ∀ z ∈ l.filter (sideB x.t), z ∈ l ∧ z.t = x.t ∧ (z.who = x.t.buyer ∨ z.who = x.t.seller) := fun z hz => by
    have := List.mem_filter.1 hz
    simpa [sideB] using this
  have hlen : (l.filter (sideB x.t)).length = ((l.filter (sideB x.t)).map (·.who)).length := by simp
  rw [hlen]
  refine two_of (hi.side x hx).2 _ ?_ ?_ ?_ ?_
  · rw [List.Nodup, List.pairwise_map]
    refine List.Pairwise.imp_of_mem (fun {u v} hu hv huv => ?_) (hi.once.filter _)
    intro e
    exact huv ⟨e, by rw [(hf u hu).2.1, (hf v hv).2.1]⟩
  · intro w hw'
    obtain ⟨z, hz, rfl⟩ := List.mem_map.1 hw'
    exact (hf z hz).2.2
  · have hxs := (hi.side x hx).1
    have hys := (hi.side y hy).1
    rw [hty] at hys
    rcases hxs with e | e
    · exact List.mem_map.2 ⟨x, List.mem_filter.2 ⟨hx, by simp [sideB, e]⟩, e⟩
    · rcases hys with e' | e'
      · exact List.mem_map.2 ⟨y, List.mem_filter.2 ⟨hy, by simp [sideB, e', hty]⟩, e'⟩
      · exact absurd (e'.trans e.symm) hw
  · have hxs := (hi.side x hx).1
    have hys := (hi.side y hy).1
    rw [hty] at hys
    rcases hxs with e | e
    · rcases hys with e' | e'
      · exact absurd (e'.trans e.symm) hw
      · exact List.mem_map.2 ⟨y, List.mem_filter.2 ⟨hy, by simp [sideB, e', hty]⟩, e'⟩
    · exact List.mem_map.2 ⟨x, List.mem_filter.2 ⟨hx, by simp [sideB, e]⟩, e⟩
theorem matched_not_open {l : List Said} {t : T7} (h : t ∈ matchedOf l) : t.id ∉ openOf l := by
  rw [open_mem, matched_mem h]
  simp
theorem matched_rises {l : List Said} {k : Nat} (hk : k + 1 < (matchedOf l).length) : (matchedOf l)[k].id < (matchedOf l)[k + 1].id := by
  have h := List.pairwise_iff_getElem.1 (matched_strict l) k (k + 1) (by simpa using (by omega : k < (matchedOf l).length)) (by simpa using hk) (by omega)
  simpa using h
end Go.Proofs.Ytdpaklpaanojpaa

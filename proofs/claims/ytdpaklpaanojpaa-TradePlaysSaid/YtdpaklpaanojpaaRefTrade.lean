/- The reference's desk: in, below, May, NewDesk. -/
import Derived.Test.YtdpaklpaanojpaaTradeB
namespace Go.Proofs.Ytdpaklpaanojpaa
open Go.RowKit

theorem refIn (n a b : Int) (w : World) : Calls Try.prog 25 #[.int .i64 n, .int .i64 a, .int .i64 b] w fun e w' => e = .returned (.bool (decide (a ≤ n ∧ n ≤ b))) ∧ w = w' := by
  rcases (show n < a ∨ (a ≤ n ∧ n ≤ b) ∨ (a ≤ n ∧ ¬ n ≤ b) by omega) with h | ⟨h, h'⟩ | ⟨h, h'⟩
  all_goals
    go_enter Try.func25, Try.ntmps25
    go_wp2
    go_ret
    exact ⟨by simp; try omega, rfl⟩
theorem refBelow (n m : Int) (w : World) : Calls Try.prog 28 #[.int .i64 n, .int .i64 m] w fun e w' => e = .returned (.bool (amongB n m)) ∧ w = w' := by
  rcases (show n < 0 ∨ (0 ≤ n ∧ n < m) ∨ (0 ≤ n ∧ ¬ n < m) by omega) with h | ⟨h, h'⟩ | ⟨h, h'⟩
  all_goals
    go_enter Try.func28, Try.ntmps28
    go_wp2
    go_ret
    exact ⟨by simp [amongB]; try omega, rfl⟩
theorem mayT_of (t : T7) (p c a : Int) : mayT t p c a = if (0 ≤ t.id ∧ t.id ≤ 65535) ∧ amongB t.buyer p = true ∧ amongB t.seller p = true ∧ amongB t.cash c = true ∧ amongB t.asset a = true ∧ (1 ≤ t.price ∧ t.price ≤ 4611686018427387904) ∧ (1 ≤ t.qty ∧ t.qty ≤ 4611686018427387904) then (if t.buyer = t.seller then 14 else 0) else 1 := by
  unfold mayT
  congr 1
  simp only [amongB, amount, decide_eq_true_eq, eq_iff_iff]
  omega
set_option maxHeartbeats 4000000 in
theorem refMay (t : T7) (p c a : Int) (w : World) : Calls Try.prog 15 #[t.val, .int .i64 p, .int .i64 c, .int .i64 a] w fun e w' => e = .returned (.int .i64 (mayT t p c a)) ∧ Mod nil w w' := by
  obtain ⟨r, hr⟩ : ∃ r, mayT t p c a = r := ⟨_, rfl⟩
  rw [hr]
  rw [mayT_of] at hr
  have HR := Lib.hid hr
  clear hr
  obtain ⟨t1, t2, t3, t4, t5, t6, t7⟩ := t
  simp only [T7.val]
  obtain ⟨x1, h1⟩ : ∃ x, decide (0 ≤ t1 ∧ t1 ≤ 65535) = x := ⟨_, rfl⟩
  obtain ⟨x2, h2⟩ : ∃ x, amongB t2 p = x := ⟨_, rfl⟩
  obtain ⟨x3, h3⟩ : ∃ x, amongB t3 p = x := ⟨_, rfl⟩
  obtain ⟨x4, h4⟩ : ∃ x, amongB t4 c = x := ⟨_, rfl⟩
  obtain ⟨x5, h5⟩ : ∃ x, amongB t6 a = x := ⟨_, rfl⟩
  obtain ⟨x6, h6⟩ : ∃ x, decide (1 ≤ t5 ∧ t5 ≤ 4611686018427387904) = x := ⟨_, rfl⟩
  obtain ⟨x7, h7⟩ : ∃ x, decide (1 ≤ t7 ∧ t7 ≤ 4611686018427387904) = x := ⟨_, rfl⟩
  have H1 := Lib.hid h1
  have H2 := Lib.hid h2
  have H3 := Lib.hid h3
  have H4 := Lib.hid h4
  have H5 := Lib.hid h5
  have H6 := Lib.hid h6
  have H7 := Lib.hid h7
  clear h1 h2 h3 h4 h5 h6 h7
  have ha : Mod nil w (w.alloc (.cells #[.int .i64 t1, .int .i64 t2, .int .i64 t3, .int .i64 t4, .int .i64 t5, .int .i64 t6, .int .i64 t7] 31)) := (Mod.refl nil w).alloc _
  have ht : (w.alloc (.cells #[.int .i64 t1, .int .i64 t2, .int .i64 t3, .int .i64 t4, .int .i64 t5, .int .i64 t6, .int .i64 t7] 31)).heap[w.heap.size]? = some (.cells #[.int .i64 t1, .int .i64 t2, .int .i64 t3, .int .i64 t4, .int .i64 t5, .int .i64 t6, .int .i64 t7] 31 (0, 0)) := heap_alloc_new _ _
  have HM := Lib.hid ha
  have HT := Lib.hid ht
  clear ha ht
  go_enter Try.func15, Try.ntmps15
  go_wp2_with fail
  generalize w.alloc (.cells #[.int .i64 t1, .int .i64 t2, .int .i64 t3, .int .i64 t4, .int .i64 t5, .int .i64 t6, .int .i64 t7] 31) = w1 at HM HT ⊢
  generalize w.heap.size = g at HT ⊢
  have q0 : w1.cell? ⟨g, 0, none⟩ = some (.int .i64 t1) := cell_of HT.out 0
  have q1 : w1.cell? ⟨g, 1, none⟩ = some (.int .i64 t2) := cell_of HT.out 1
  have q2 : w1.cell? ⟨g, 2, none⟩ = some (.int .i64 t3) := cell_of HT.out 2
  have q3 : w1.cell? ⟨g, 3, none⟩ = some (.int .i64 t4) := cell_of HT.out 3
  have q4 : w1.cell? ⟨g, 4, none⟩ = some (.int .i64 t5) := cell_of HT.out 4
  have q5 : w1.cell? ⟨g, 5, none⟩ = some (.int .i64 t6) := cell_of HT.out 5
  have q6 : w1.cell? ⟨g, 6, none⟩ = some (.int .i64 t7) := cell_of HT.out 6
  refine (refIn t1 0 65535 _).mono ?_
  rw [H1.out]
  rintro e w2 ⟨rfl, rfl⟩
  cases x1
  · go_wp2_with fail
    go_ret
    have hR := HR.out
    have hH := H1.out
    rw [if_neg (fun hh => by simp_all)] at hR
    rw [← hR]
    exact ⟨rfl, HM.out⟩
  · go_wp2_with fail
    refine (refBelow t2 p _).mono ?_
    rw [H2.out]
    rintro e w2 ⟨rfl, rfl⟩
    cases x2
    · go_wp2_with fail
      go_ret
      have hR := HR.out
      have hH := H2.out
      rw [if_neg (fun hh => by simp_all)] at hR
      rw [← hR]
      exact ⟨rfl, HM.out⟩
    · go_wp2_with fail
      refine (refBelow t3 p _).mono ?_
      rw [H3.out]
      rintro e w2 ⟨rfl, rfl⟩
      cases x3
      · go_wp2_with fail
        go_ret
        have hR := HR.out
        have hH := H3.out
        rw [if_neg (fun hh => by simp_all)] at hR
        rw [← hR]
        exact ⟨rfl, HM.out⟩
      · go_wp2_with fail
        refine (refBelow t4 c _).mono ?_
        rw [H4.out]
        rintro e w2 ⟨rfl, rfl⟩
        cases x4
        · go_wp2_with fail
          go_ret
          have hR := HR.out
          have hH := H4.out
          rw [if_neg (fun hh => by simp_all)] at hR
          rw [← hR]
          exact ⟨rfl, HM.out⟩
        · go_wp2_with fail
          refine (refBelow t6 a _).mono ?_
          rw [H5.out]
          rintro e w2 ⟨rfl, rfl⟩
          cases x5
          · go_wp2_with fail
            go_ret
            have hR := HR.out
            have hH := H5.out
            rw [if_neg (fun hh => by simp_all)] at hR
            rw [← hR]
            exact ⟨rfl, HM.out⟩
          · go_wp2_with fail
            refine (refIn t5 1 4611686018427387904 _).mono ?_
            rw [H6.out]
            rintro e w2 ⟨rfl, rfl⟩
            cases x6
            · go_wp2_with fail
              go_ret
              have hR := HR.out
              have hH := H6.out
              rw [if_neg (fun hh => by simp_all)] at hR
              rw [← hR]
              exact ⟨rfl, HM.out⟩
            · go_wp2_with fail
              refine (refIn t7 1 4611686018427387904 _).mono ?_
              rw [H7.out]
              rintro e w2 ⟨rfl, rfl⟩
              cases x7
              · go_wp2_with fail
                go_ret
                have hR := HR.out
                have hH := H7.out
                rw [if_neg (fun hh => by simp_all)] at hR
                rw [← hR]
                exact ⟨rfl, HM.out⟩
              · by_cases hbs : t2 = t3
                · subst hbs
                  go_wp2_with fail
                  go_ret
                  have hR := HR.out
                  rw [if_pos ⟨of_decide_eq_true H1.out, H2.out, H3.out, H4.out, H5.out, of_decide_eq_true H6.out, of_decide_eq_true H7.out⟩, if_pos trivial] at hR
                  rw [← hR]
                  exact ⟨rfl, HM.out⟩
                · have hb : (t2 == t3) = false := by simpa using hbs
                  have HB := Lib.hid hbs
                  clear hbs
                  go_wp2_with fail
                  go_ret
                  have hR := HR.out
                  rw [if_pos ⟨of_decide_eq_true H1.out, H2.out, H3.out, H4.out, H5.out, of_decide_eq_true H6.out, of_decide_eq_true H7.out⟩, if_neg HB.out] at hR
                  rw [← hR]
                  exact ⟨rfl, HM.out⟩
/-- the reference's desk: its object in block x, who confirmed and what in two slices of its own -/
structure IsRefT (w : World) (x : Nat) (S : Nat → Prop) (p c a : Int) (l : List Said) : Prop where
  ex : ∃ S1 S2 v1 v2, w.heap[x]? = some (.cells #[.int .i64 p, .int .i64 c, .int .i64 a, v1, v2] 45 (0, 0)) ∧ IsVec S1 w 3 1 v1 l.length (l.map (fun y => Value.int .i64 y.who)) ∧ IsVec S2 w 31 7 v2 l.length (l.flatMap (fun y => y.t.vals)) ∧ (∀ k, S1 k → S k ∧ ¬ S2 k) ∧ (∀ k, S2 k → S k)
  nb : ¬ S x
  top : ∀ k, S k → k < w.heap.size
theorem IsRefT.mod {w w' : World} {x : Nat} {S T : Nat → Prop} {p c a : Int} {l : List Said} (h : IsRefT w x S p c a l) (m : Mod T w w') (hs : ∀ k, k < w.heap.size → (k = x ∨ S k) → ¬ T k) : IsRefT w' x S p c a l := by
  obtain ⟨S1, S2, v1, v2, h1, h2, h3, h4, h5⟩ := h.ex
  exact ⟨⟨S1, S2, v1, v2, (m.block x (heap_lt h1) (hs x (heap_lt h1) (.inl rfl))).trans h1, h2.mod m (fun k hk hp => hs k hk (.inr (h4 k hp).1)), h3.mod m (fun k hk hp => hs k hk (.inr (h5 k hp))), h4, h5⟩, h.nb, fun k hk => Nat.lt_of_lt_of_le (h.top k hk) m.size⟩
theorem IsRefT.modNil {w w' : World} {x : Nat} {S : Nat → Prop} {p c a : Int} {l : List Said} (h : IsRefT w x S p c a l) (m : Mod nil w w') : IsRefT w' x S p c a l := h.mod m (fun _ _ _ f => f)
theorem refNewDesk_bad (p c a : Int) (w : World) (h : ¬ newOk p c a) :
    Calls Try.prog 13 #[.int .i64 p, .int .i64 c, .int .i64 a] w fun e w' => e = .returned (.tuple #[.pointer none, .int .i64 1]) ∧ w = w' := by
  obtain ⟨x1, h1⟩ : ∃ x, decide (2 ≤ p ∧ p ≤ 16) = x := ⟨_, rfl⟩
  obtain ⟨x2, h2⟩ : ∃ x, decide (1 ≤ c ∧ c ≤ 4) = x := ⟨_, rfl⟩
  obtain ⟨x3, h3⟩ : ∃ x, decide (1 ≤ a ∧ a ≤ 4) = x := ⟨_, rfl⟩
  have hx : (x1 && x2 && x3) = false := by
    rw [← h1, ← h2, ← h3]
    unfold newOk at h
    simp
    omega
  have H1 := Lib.hid h1
  have H2 := Lib.hid h2
  have H3 := Lib.hid h3
  clear h1 h2 h3 h
  go_enter Try.func13, Try.ntmps13
  go_wp2_with fail
  refine (refIn p 2 16 _).mono ?_
  rw [H1.out]
  rintro e w2 ⟨rfl, rfl⟩
  cases x1
  · go_wp2_with fail
    go_ret2
    exact ⟨rfl, rfl⟩
  · go_wp2_with fail
    refine (refIn c 1 4 _).mono ?_
    rw [H2.out]
    rintro e w2 ⟨rfl, rfl⟩
    cases x2
    · go_wp2_with fail
      go_ret2
      exact ⟨rfl, rfl⟩
    · go_wp2_with fail
      refine (refIn a 1 4 _).mono ?_
      rw [H3.out]
      rintro e w2 ⟨rfl, rfl⟩
      cases x3
      · go_wp2_with fail
        go_ret2
        exact ⟨rfl, rfl⟩
      · simp at hx
theorem refNewDesk (p c a : Int) (w : World) (h : newOk p c a) :
    Calls Try.prog 13 #[.int .i64 p, .int .i64 c, .int .i64 a] w fun e w' => ∃ x, e = .returned (.tuple #[.pointer (some ⟨x, 0, none⟩), .int .i64 0]) ∧ IsRefT w' x (fun _ => False) p c a [] ∧ w.heap.size ≤ x ∧ Mod nil w w' := by
  have H1 : Hid (decide (2 ≤ p ∧ p ≤ 16) = true) := Lib.hid (by unfold newOk at h; simp; omega)
  have H2 : Hid (decide (1 ≤ c ∧ c ≤ 4) = true) := Lib.hid (by unfold newOk at h; simp; omega)
  have H3 : Hid (decide (1 ≤ a ∧ a ≤ 4) = true) := Lib.hid (by unfold newOk at h; simp; omega)
  clear h
  go_enter Try.func13, Try.ntmps13
  go_wp2_with fail
  refine (refIn p 2 16 _).mono ?_
  rw [H1.out]
  rintro e w2 ⟨rfl, rfl⟩
  go_wp2_with fail
  refine (refIn c 1 4 _).mono ?_
  rw [H2.out]
  rintro e w2 ⟨rfl, rfl⟩
  go_wp2_with fail
  refine (refIn a 1 4 _).mono ?_
  rw [H3.out]
  rintro e w2 ⟨rfl, rfl⟩
  go_wp2_with fail
  go_ret2
  exact ⟨_, rfl, ⟨⟨fun _ => False, fun _ => False, _, _, heap_alloc_new _ _, IsVec.nil _ _ _ _, IsVec.nil _ _ _ _, fun _ h => h.elim, fun _ h => h.elim⟩, id, fun _ h => h.elim⟩, Nat.le_refl _, (Mod.refl nil w).alloc _⟩
end Go.Proofs.Ytdpaklpaanojpaa

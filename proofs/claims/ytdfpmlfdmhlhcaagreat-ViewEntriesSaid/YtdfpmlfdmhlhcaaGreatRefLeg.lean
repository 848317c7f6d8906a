/- cflref18.leg. (Printed by wip/tools/gen_refleg.py.) -/
import Derived.Test.YtdfpmlfdmhlhcaaGreatRefPlan
import Derived.Deep.QuietTactic
import Derived.BigQuiet
namespace Go.Proofs.YtdfpmlfdmhlhcaaGreat
open Go.RowKit
theorem refInQ (n a b : Int) (r : Bool) (h : decide (a ≤ n ∧ n ≤ b) = r) (w : World) : Calls Tryz.prog 53 #[.int .i64 n, .int .i64 a, .int .i64 b] w fun e w' => e = .returned (.bool r) ∧ w' = w := by
  subst h
  exact refIn n a b w
set_option maxRecDepth 100000 in
set_option maxHeartbeats 8000000 in
theorem refLeg (T : Nat → Prop) (p : Option Addr) (n cap : Nat) (l : List It) (w : World) (hrow : IsIts T w (.slice p n cap) l) (hmax : n ≤ 1000000) :
    Calls Tryz.prog 150 #[.slice p n cap] w fun e w' => e = .returned (.bool (legB l)) ∧ Mod nil w w' := by
  refine (?_ : ∀ Post : Ending → World → Prop, Hid (∀ e w', (e = .returned (.bool (legB l)) ∧ Mod nil w w') → Post e w') → Calls Tryz.prog 150 #[.slice p n cap] w Post) _ (Lib.hid (fun _ _ h => h))
  intro Post HPOST
  obtain rfl : n = l.length := by obtain ⟨p', c', h⟩ := hrow.form; simp only [Value.slice.injEq] at h; exact h.2.1
  obtain ⟨n, hn⟩ : ∃ n, l.length = n := ⟨_, rfl⟩
  rw [hn] at hrow hmax ⊢
  have HROW := Lib.hid hrow
  have HN := Lib.hid hn
  clear hrow hn
  go_enter Tryz.func150, Tryz.ntmps150
  go_wp2_with fail
  go_loopw [3] (fun v wr => ∃ (i : Nat) (was : Int), i ≤ n ∧ v = .int .i64 i ∧ Hid (legFrom (-1) l = legFrom was (l.drop i)) ∧ Hid ((i = 0 ∧ was = -1) ∨ (0 < i ∧ ∃ y, l[i - 1]? = some y ∧ y.ok ∧ was = y.place)) ∧ Hid (Mod nil w wr)) (fun v _ => n - (intOf v).toNat)
  case atStart => exact ⟨0, -1, by omega, rfl, Lib.hid rfl, Lib.hid (.inl ⟨rfl, rfl⟩), Lib.hid (Mod.refl _ _)⟩
  case round =>
    obtain ⟨i, was, hi, rfl, HLF, HPV, HM⟩ := hrel
    by_cases hlt : i < n
    · have hil : i < l.length := by rw [HN.out]; exact hlt
      obtain ⟨b, off, rfl, -, hbw, k0, k1, k2⟩ := (HROW.out.modNil HM.out).at i hil
      obtain ⟨x, hx⟩ : ∃ x, l[i] = x := ⟨_, rfl⟩
      have hd : l.drop i = x :: l.drop (i + 1) := by rw [← hx]; exact List.drop_eq_getElem_cons hil
      have HX : Hid (legFrom (-1) l = (decide x.ok && decide (was < x.place) && legFrom x.place (l.drop (i + 1)))) := Lib.hid (by rw [HLF.out, hd]; rfl)
      have hxs : l[i + 1 - 1]? = some x := by rw [Nat.add_sub_cancel, List.getElem?_eq_getElem hil, hx]
      rw [hx] at k0 k1 k2
      have HXS := Lib.hid hxs
      obtain ⟨led, asset, amt⟩ := x
      simp only at k0 k1 k2
      clear hx hd hxs
      go_upto_region 5 with (fail)
      obtain ⟨g, hg⟩ : ∃ g, wr.heap.size = g := ⟨_, rfl⟩
      (try rw [hg])
      generalize hw2 : World.alloc wr _ = w2
      have hm2 : Mod nil wr w2 := by rw [← hw2]; exact (Mod.refl _ _).alloc _
      have hb2 : w2.heap[g]? = some (.cells #[.int .i64 led, .int .i64 asset, .int .i64 amt] 135 (0, 0)) := by rw [← hw2, ← hg]; exact heap_alloc_new _ _
      have q0 := cell_of hb2 0
      have q1 := cell_of hb2 1
      have q2 := cell_of hb2 2
      simp only [List.getElem?_toArray, List.getElem?_cons_zero, List.getElem?_cons_succ] at q0 q1 q2
      have HM2 := Lib.hid (HM.out.thenNil hm2)
      have HBAD0 : Hid (¬ ((It.mk led asset amt).ok ∧ was < (It.mk led asset amt).place) → ∀ k, Post (.returned (.bool false)) (w2.drewN k)) := Lib.hid (fun h k => HPOST.out _ _ ⟨by
        have h2 : legFrom (-1) l = false := by
          rw [HX.out]
          by_cases h3 : (It.mk led asset amt).ok
          · rw [decide_eq_false (fun h4 : was < _ => h ⟨h3, h4⟩)]; simp
          · rw [decide_eq_false h3]; rfl
        unfold legB
        rw [h2, Bool.and_false], HM2.out.drewN k⟩)
      clear hw2 hm2 hb2 k0 k1 k2 hg
      by_cases c1 : 0 ≤ led ∧ led ≤ 1
      case neg =>
        have D1 := decide_eq_false c1
        have E1 : (decide (0 ≤ led) && decide (led ≤ 1)) = false := by rw [← Bool.decide_and]; exact D1
        have HBAD := Lib.hid (HBAD0.out (fun h => c1 ⟨h.1.1, h.1.2.1⟩))
        clear c1
        go_upto_region 5 with (fail)
        go_quiet (first | (go_at_call 53; exact Calls.quiet_of_same (refIn _ _ _ _)))
        go_wp2_with fail
        exact HBAD.out _
      have D1 := decide_eq_true c1
      have E1 : (decide (0 ≤ led) && decide (led ≤ 1)) = true := by rw [← Bool.decide_and]; exact D1
      by_cases c2 : 0 ≤ asset ∧ asset ≤ 3
      case neg =>
        have D2 := decide_eq_false c2
        have E2 : (decide (0 ≤ asset) && decide (asset ≤ 3)) = false := by rw [← Bool.decide_and]; exact D2
        have HBAD := Lib.hid (HBAD0.out (fun h => c2 ⟨h.1.2.2.1, by have h4 : asset < 4 := h.1.2.2.2.1; omega⟩))
        clear c2
        go_upto_region 5 with (fail)
        go_quiet (first | (go_at_call 53; exact Calls.quiet_of_same (refIn _ _ _ _)))
        go_wp2_with fail
        exact HBAD.out _
      have D2 := decide_eq_true c2
      have E2 : (decide (0 ≤ asset) && decide (asset ≤ 3)) = true := by rw [← Bool.decide_and]; exact D2
      by_cases c3 : 1 ≤ amt ∧ amt ≤ 4611686018427387904
      case neg =>
        have D3 := decide_eq_false c3
        have E3 : (decide (1 ≤ amt) && decide (amt ≤ 4611686018427387904)) = false := by rw [← Bool.decide_and]; exact D3
        have HBAD := Lib.hid (HBAD0.out (fun h => c3 ⟨by have h4 : 0 < amt := h.1.2.2.2.2.1; omega, h.1.2.2.2.2.2⟩))
        clear c3
        go_upto_region 5 with (fail)
        go_quiet (first | (go_at_call 53; exact Calls.quiet_of_same (refIn _ _ _ _)))
        go_wp2_with fail
        exact HBAD.out _
      have D3 := decide_eq_true c3
      have E3 : (decide (1 ≤ amt) && decide (amt ≤ 4611686018427387904)) = true := by rw [← Bool.decide_and]; exact D3
      have hok : (It.mk led asset amt).ok := ⟨c1.1, c1.2, c2.1, by show asset < 4; omega, by show 0 < amt; omega, c3.2⟩
      have HPREV : Hid ((i + 1 = 0 ∧ (It.mk led asset amt).place = -1) ∨ (0 < i + 1 ∧ ∃ y, l[i + 1 - 1]? = some y ∧ y.ok ∧ (It.mk led asset amt).place = y.place)) := Lib.hid (.inr ⟨by omega, _, HXS.out, hok, rfl⟩)
      have HGO : Hid (was < (It.mk led asset amt).place → legFrom (-1) l = legFrom (It.mk led asset amt).place (l.drop (i + 1))) := Lib.hid (fun h => by rw [HX.out, decide_eq_true hok, decide_eq_true h]; rfl)
      have hpl : (It.mk led asset amt).place = led * 4 + asset := rfl
      rcases HPV.out with ⟨rfl, rfl⟩ | ⟨hi0, y, hy, hyok, rfl⟩
      · have HGOOD := Lib.hid (HGO.out (by rw [hpl]; omega))
        have i := 0
        clear hok hpl c1 c2 c3
        go_upto_region 5 with (fail)
        go_quiet (first | (go_at_call 53; exact Calls.quiet_of_same (refIn _ _ _ _)))
        go_wp2_with fail
        exact ⟨⟨0 + 1, _, by omega, by go_num, HGOOD, HPREV, Lib.hid (HM2.out.drewN _)⟩, by simp [intOf]; omega⟩
      · obtain ⟨j, hj⟩ : ∃ j, i - 1 = j := ⟨_, rfl⟩
        have hjl : j < l.length := by omega
        obtain ⟨b2, off2, hb2, -, -, k0, k1, -⟩ := (HROW.out.modNil HM2.out).at j hjl
        simp only [Option.some.injEq, Addr.mk.injEq, and_true] at hb2
        obtain ⟨rfl, rfl⟩ := hb2
        rw [hj, List.getElem?_eq_getElem hjl] at hy
        have hy2 := Option.some.inj hy
        rw [hy2] at k0 k1
        have f1 : IntKind.i64.wrap ((i : Int) - 1) = (j : Int) := by rw [IntKind.wrap_i64]; omega
        have hjn : j < n := by omega
        clear hy hy2
        obtain ⟨pl, pa, pm⟩ := y
        obtain ⟨y1, y2, y3, y4, -, -⟩ := hyok
        have hpy : (It.mk pl pa pm).place = pl * 4 + pa := rfl
        simp only at k0 k1 y1 y2 y3 y4
        have D4 : decide (0 < i) = true := decide_eq_true hi0
        clear hjl hj HLF HPV
        rcases (show led < pl ∨ (led = pl ∧ asset ≤ pa) ∨ (led = pl ∧ ¬ asset ≤ pa) ∨ (¬ led < pl ∧ ¬ led = pl) by omega) with h | ⟨h, h2⟩ | ⟨h, h2⟩ | ⟨h, h2⟩
        · have HBAD := Lib.hid (HBAD0.out (fun h3 => by have h4 := h3.2; rw [hpl, hpy] at h4; omega))
          have D5 : decide (led < pl) = true := decide_eq_true h
          clear hpl hpy hok c1 c2 c3 y1 y2 y3 y4
          go_upto_region 5 with (fail)
          go_quiet (first | (go_at_call 53; exact Calls.quiet_of_same (refIn _ _ _ _)))
          go_wp2_with fail
          exact HBAD.out _
        · have HBAD := Lib.hid (HBAD0.out (fun h3 => by have h4 := h3.2; rw [hpl, hpy] at h4; omega))
          have D5 : decide (led < pl) = false := decide_eq_false (by omega)
          have D6 : (led == pl) = true := by simpa using h
          have D7 : decide (asset ≤ pa) = true := decide_eq_true h2
          clear hpl hpy hok c1 c2 c3 y1 y2 y3 y4 h
          go_upto_region 5 with (fail)
          go_quiet (first | (go_at_call 53; exact Calls.quiet_of_same (refIn _ _ _ _)))
          go_wp2_with fail
          exact HBAD.out _
        · have HGOOD := Lib.hid (HGO.out (by rw [hpl, hpy]; omega))
          have D5 : decide (led < pl) = false := decide_eq_false (by omega)
          have D6 : (led == pl) = true := by simpa using h
          have D7 : decide (asset ≤ pa) = false := decide_eq_false h2
          clear hpl hpy hok c1 c2 c3 y1 y2 y3 y4 h
          go_upto_region 5 with (fail)
          go_quiet (first | (go_at_call 53; exact Calls.quiet_of_same (refIn _ _ _ _)))
          go_wp2_with fail
          exact ⟨⟨i + 1, _, by omega, by go_num, HGOOD, HPREV, Lib.hid (HM2.out.drewN _)⟩, by simp [intOf]; omega⟩
        · have HGOOD := Lib.hid (HGO.out (by rw [hpl, hpy]; omega))
          have D5 : decide (led < pl) = false := decide_eq_false h
          have D6 : (led == pl) = false := by simpa using h2
          clear hpl hpy hok c1 c2 c3 y1 y2 y3 y4
          go_upto_region 5 with (fail)
          go_quiet (first | (go_at_call 53; exact Calls.quiet_of_same (refIn _ _ _ _)))
          go_wp2_with fail
          exact ⟨⟨i + 1, _, by omega, by go_num, HGOOD, HPREV, Lib.hid (HM2.out.drewN _)⟩, by simp [intOf]; omega⟩
    · obtain rfl : n = i := by omega
      have HEND := Lib.hid (HPOST.out (.returned (.bool (decide (1 ≤ (n : Int)) && decide ((n : Int) ≤ 8)))) wr ⟨by
        have h := HLF.out
        rw [List.drop_eq_nil_of_le (by rw [HN.out]; exact Nat.le_refl _)] at h
        unfold legB
        rw [h, HN.out]
        simp only [legFrom, Bool.and_true]
        congr 2
        rw [Bool.eq_iff_iff]
        simp only [Bool.and_eq_true, decide_eq_true_eq]
        omega, HM.out⟩)
      go_wp2_with fail
      refine (refIn (n : Int) 1 8 wr).mono ?_
      rintro e w' ⟨rfl, rfl⟩
      go_wp2_with fail
      exact HEND.out
end Go.Proofs.YtdfpmlfdmhlhcaaGreat

/- Package plan: leg, and slices.ContainsFunc over the legs. -/
import Derived.Test.YtdfpmlfdmhlhcaaGreatItems
import Derived.Test.YtdfpmlfdmhlhcaaGreatPlanA
namespace Go.Proofs.YtdfpmlfdmhlhcaaGreat
open Go.RowKit
def amountN (n : Int) : Prop := 0 ≤ n ∧ n ≤ 4611686018427387904
def It.ok (x : It) : Prop := 0 ≤ x.led ∧ x.led ≤ 1 ∧ 0 ≤ x.asset ∧ x.asset < 4 ∧ 0 < x.amt ∧ x.amt ≤ 4611686018427387904
instance (x : It) : Decidable x.ok := inferInstanceAs (Decidable (_ ∧ _))
def It.place (x : It) : Int := x.led * 4 + x.asset
/-- items whose places rise, all of them right -/
def legFrom : Int → List It → Bool
  | _, [] => true
  | was, x :: r => decide x.ok && decide (was < x.place) && legFrom x.place r
def legB (l : List It) : Bool := decide (1 ≤ l.length) && decide (l.length ≤ 8) && legFrom (-1) l
theorem info_item : (Tryz.prog.info? 135).map (·.size) = some 3 := by kernel_rfl
set_option maxRecDepth 100000 in
set_option maxHeartbeats 4000000 in
theorem planLeg (T : Nat → Prop) (p : Option Addr) (n cap : Nat) (l : List It) (w : World) (hrow : IsIts T w (.slice p n cap) l) (hmax : n ≤ 1000000) :
    Calls Tryz.prog 97 #[.slice p n cap] w fun e w' => e = .returned (.bool (legB l)) ∧ Mod nil w w' := by
  refine (?_ : ∀ Post : Ending → World → Prop, Hid (∀ e w', (e = .returned (.bool (legB l)) ∧ Mod nil w w') → Post e w') → Calls Tryz.prog 97 #[.slice p n cap] w Post) _ (Lib.hid (fun _ _ h => h))
  intro Post HPOST
  obtain rfl : n = l.length := by obtain ⟨p', c', h⟩ := hrow.form; simp only [Value.slice.injEq] at h; exact h.2.1
  obtain ⟨n, hn⟩ : ∃ n, l.length = n := ⟨_, rfl⟩
  rw [hn] at hrow hmax ⊢
  have HROW := Lib.hid hrow
  have HN := Lib.hid hn
  clear hrow hn
  by_cases hlen : 1 ≤ n ∧ n ≤ 8
  · have hb : legB l = legFrom (-1) l := by unfold legB; rw [HN.out, decide_eq_true hlen.1, decide_eq_true hlen.2]; rfl
    rw [hb] at HPOST
    obtain ⟨hl1, hl2⟩ := hlen
    clear hb
    go_enter Tryz.func97, Tryz.ntmps97
    go_wp2_with fail
    go_loopw [3, 17] (fun v3 v17 wr => ∃ (i : Nat) (was : Int), i ≤ n ∧ v17 = .int .i64 i ∧ v3 = .int .i64 was ∧ -1 ≤ was ∧ was ≤ 7 ∧ Hid (legFrom (-1) l = legFrom was (l.drop i)) ∧ Hid (Mod nil w wr)) (fun _ v _ => n - (intOf v).toNat)
    case atStart => exact ⟨0, -1, by omega, rfl, rfl, by omega, by omega, Lib.hid rfl, Lib.hid (Mod.refl _ _)⟩
    case round =>
      obtain ⟨i, was, hi, rfl, rfl, hw1, hw2, HLF, HM⟩ := hrel
      by_cases hlt : i < n
      · have hil : i < l.length := by rw [HN.out]; exact hlt
        obtain ⟨b, off, rfl, -, hbw, k0, k1, k2⟩ := (HROW.out.modNil HM.out).at i hil
        obtain ⟨x, hx⟩ : ∃ x, l[i] = x := ⟨_, rfl⟩
        have hd : l.drop i = x :: l.drop (i + 1) := by rw [← hx]; exact List.drop_eq_getElem_cons hil
        have HX : Hid (legFrom (-1) l = (decide x.ok && decide (was < x.place) && legFrom x.place (l.drop (i + 1)))) := Lib.hid (by rw [HLF.out, hd]; rfl)
        rw [hx] at k0 k1 k2
        obtain ⟨led, asset, amt⟩ := x
        simp only at k0 k1 k2
        clear hx hd
        go_upto_region 7 with (fail)
        obtain ⟨g, hg⟩ : ∃ g, wr.heap.size = g := ⟨_, rfl⟩
        (try rw [hg])
        generalize hw2 : World.alloc wr _ = w2
        have hm2 : Mod nil wr w2 := by rw [← hw2]; exact (Mod.refl _ _).alloc _
        have hb2 : w2.heap[g]? = some (.cells #[.int .i64 led, .int .i64 asset, .int .i64 amt] 135 (0, 0)) := by rw [← hw2, ← hg]; exact heap_alloc_new _ _
        have q0 := cell_of hb2 0
        have q1 := cell_of hb2 1
        have q2 := cell_of hb2 2
        simp only [List.getElem?_toArray, List.getElem?_cons_zero, List.getElem?_cons_succ] at q0 q1 q2
        have HM2 := Lib.hid (HM.out.thenNil hm2)
        have HBAD : Hid (¬ (It.mk led asset amt).ok → Post (.returned (.bool false)) w2) := Lib.hid (fun h => HPOST.out _ _ ⟨by rw [HX.out, decide_eq_false h]; rfl, HM2.out⟩)
        have HAM := Lib.hid (numAmount amt w2)
        clear hw2 hm2 hb2 hg k0 k1 k2 HM HLF
        rcases (show led < 0 ∨ (0 ≤ led ∧ 1 < led) ∨ (0 ≤ led ∧ led ≤ 1 ∧ asset < 0) ∨ (0 ≤ led ∧ led ≤ 1 ∧ 0 ≤ asset ∧ 4 ≤ asset) ∨ (0 ≤ led ∧ led ≤ 1 ∧ 0 ≤ asset ∧ asset < 4) by omega) with h1 | ⟨h1, h2⟩ | ⟨h1, h2, h3⟩ | ⟨h1, h2, h3, h4⟩ | ⟨h1, h2, h3, h4⟩
        · have HE := Lib.hid (HBAD.out (by unfold It.ok; simp only; omega))
          go_wp2_with fail
          exact HE.out
        · have HE := Lib.hid (HBAD.out (by unfold It.ok; simp only; omega))
          go_wp2_with fail
          exact HE.out
        · have HE := Lib.hid (HBAD.out (by unfold It.ok; simp only; omega))
          go_wp2_with fail
          exact HE.out
        · have HE := Lib.hid (HBAD.out (by unfold It.ok; simp only; omega))
          go_wp2_with fail
          exact HE.out
        · by_cases ha : 0 ≤ amt ∧ amt ≤ 4611686018427387904
          · rw [decide_eq_true ha] at HAM
            obtain ⟨ha1, ha2⟩ := ha
            by_cases h0 : amt = 0
            · have HE := Lib.hid (HBAD.out (by unfold It.ok; simp only; omega))
              subst h0
              go_wp2_with fail
              refine HAM.out.mono ?_
              rintro e w' ⟨rfl, rfl⟩
              go_wp2_with fail
              exact HE.out
            · have h0b : (amt == 0) = false := by simp [h0]
              have hok : (It.mk led asset amt).ok := ⟨h1, h2, h3, h4, by simp only; omega, ha2⟩
              obtain ⟨pl, hpl⟩ : ∃ pl, led * 4 + asset = pl := ⟨_, rfl⟩
              have hplace : (It.mk led asset amt).place = pl := hpl
              have e1 : IntKind.i64.wrap (led * 4) = led * 4 := by rw [IntKind.wrap_i64]; omega
              have e2 : IntKind.i64.wrap (led * 4 + asset) = pl := by rw [IntKind.wrap_i64]; omega
              have hpl7 : 0 ≤ pl ∧ pl ≤ 7 := by omega
              have HX2 : Hid (legFrom (-1) l = (decide (was < pl) && legFrom pl (l.drop (i + 1)))) := Lib.hid (by rw [HX.out, decide_eq_true hok, hplace]; rfl)
              clear hok hplace HX
              go_wp2_with fail
              refine HAM.out.mono ?_
              rintro e w' ⟨rfl, rfl⟩
              by_cases hwp : pl ≤ was
              · have HE : Hid (Post (.returned (.bool false)) w2) := Lib.hid (HPOST.out _ _ ⟨by rw [HX2.out, decide_eq_false (by omega)]; rfl, HM2.out⟩)
                go_wp2_with fail
                exact HE.out
              · have HLN : Hid (legFrom (-1) l = legFrom pl (l.drop (i + 1))) := Lib.hid (by rw [HX2.out, decide_eq_true (by omega)]; rfl)
                go_wp2_with fail
                exact ⟨⟨i + 1, pl, by omega, by go_num, rfl, by omega, by omega, HLN, HM2⟩, by simp [intOf]; omega⟩
          · rw [decide_eq_false ha] at HAM
            have HE := Lib.hid (HBAD.out (by unfold It.ok; simp only; omega))
            go_wp2_with fail
            refine HAM.out.mono ?_
            rintro e w' ⟨rfl, rfl⟩
            go_wp2_with fail
            exact HE.out
      · obtain rfl : i = n := by omega
        have HE : Hid (Post (.returned (.bool true)) wr) := Lib.hid (HPOST.out _ _ ⟨by rw [HLF.out, List.drop_eq_nil_of_le (by rw [HN.out]; exact Nat.le_refl _)]; rfl, HM.out⟩)
        clear HLF HM
        go_wp2_with fail
        exact HE.out
  · have HE : Hid (Post (.returned (.bool false)) w) := Lib.hid (HPOST.out _ _ ⟨by
      unfold legB
      rw [HN.out]
      rcases (show ¬ 1 ≤ n ∨ ¬ n ≤ 8 by omega) with h | h
      · rw [decide_eq_false h]; rfl
      · rw [decide_eq_false h, Bool.and_false, Bool.false_and], Mod.refl _ _⟩)
    rcases (show n < 1 ∨ (1 ≤ n ∧ 8 < n) by omega) with h | ⟨h, h'⟩
    all_goals
      clear hlen
      go_enter Tryz.func97, Tryz.ntmps97
      go_wp2_with fail
      exact HE.out
theorem planNotLeg (T : Nat → Prop) (p : Option Addr) (n cap : Nat) (l : List It) (w : World) (hrow : IsIts T w (.slice p n cap) l) (hmax : n ≤ 1000000) :
    Calls Tryz.prog 96 #[.slice p n cap] w fun e w' => e = .returned (.bool (!legB l)) ∧ Mod nil w w' := by
  have H := Lib.hid (planLeg T p n cap l w hrow hmax)
  clear hrow
  go_enter Tryz.func96, Tryz.ntmps96
  go_wp2_with fail
  refine H.out.mono ?_
  rintro e w' ⟨rfl, hm⟩
  have HM := Lib.hid hm
  clear hm
  go_wp2_with fail
  go_ret
  exact ⟨rfl, HM.out⟩
set_option maxRecDepth 100000 in
set_option maxHeartbeats 4000000 in
theorem indexLegs (T : Nat → Prop) (p : Option Addr) (n cap : Nat) (ls : List (List It)) (w : World) (hrow : IsLegs T w (.slice p n cap) ls) (hmax : n ≤ 1000000) (hl : ∀ l ∈ ls, l.length ≤ 1000000) :
    Calls Tryz.prog 142 #[.slice p n cap, .func (.func 96) #[] #[]] w fun e w' => (∃ k : Int, e = .returned (.int .i64 k) ∧ -1 ≤ k ∧ (0 ≤ k ↔ ∃ l ∈ ls, legB l = false)) ∧ Mod nil w w' := by
  refine (?_ : ∀ Post : Ending → World → Prop, Hid (∀ e w', ((∃ k : Int, e = .returned (.int .i64 k) ∧ -1 ≤ k ∧ (0 ≤ k ↔ ∃ l ∈ ls, legB l = false)) ∧ Mod nil w w') → Post e w') → Calls Tryz.prog 142 #[.slice p n cap, .func (.func 96) #[] #[]] w Post) _ (Lib.hid (fun _ _ h => h))
  intro Post HPOST
  obtain rfl : n = ls.length := by obtain ⟨p', c', h⟩ := hrow.form; simp only [Value.slice.injEq] at h; exact h.2.1
  obtain ⟨n, hn⟩ : ∃ n, ls.length = n := ⟨_, rfl⟩
  rw [hn] at hrow hmax ⊢
  have HROW := Lib.hid hrow
  have HN := Lib.hid hn
  have HL := Lib.hid hl
  clear hrow hn hl
  go_enter Tryz.func142, Tryz.ntmps142
  go_wp2_with fail
  go_loopw [8] (fun v8 wr => ∃ i : Nat, i ≤ n ∧ v8 = .int .i64 i ∧ Hid (∀ l ∈ ls.take i, legB l = true) ∧ Hid (Mod nil w wr)) (fun v _ => n - (intOf v).toNat)
  case atStart => exact ⟨0, by omega, rfl, Lib.hid (by simp), Lib.hid (Mod.refl _ _)⟩
  case round =>
    obtain ⟨i, hi, rfl, HLF, HM⟩ := hrel
    by_cases hlt : i < n
    · have hil : i < ls.length := by rw [HN.out]; exact hlt
      obtain ⟨b, off, x, rfl, -, hbw, hx, hits⟩ := (HROW.out.modNil HM.out).at i hil
      obtain ⟨l, hll⟩ : ∃ l, ls[i] = l := ⟨_, rfl⟩
      rw [hll] at hits
      obtain ⟨px, cx, rfl⟩ := hits.form
      have hlm : l ∈ ls := by rw [← hll]; exact List.getElem_mem _
      have hll2 := HL.out l hlm
      have HC := Lib.hid (planNotLeg T px l.length cx l wr hits hll2)
      have HT : Hid (ls.take (i + 1) = ls.take i ++ [l]) := Lib.hid (by rw [List.take_succ_eq_append_getElem hil, hll])
      have HLM := Lib.hid hlm
      clear hits hll hlm
      obtain ⟨L, hL⟩ : ∃ L, l.length = L := ⟨_, rfl⟩
      rw [hL] at hx HC
      clear hL hll2
      go_wp2_with fail
      refine HC.out.mono ?_
      rintro e w' ⟨rfl, hm⟩
      have HM2 := Lib.hid (HM.out.thenNil hm)
      clear hm
      cases hlb : legB l with
      | true =>
        have HLN : Hid (∀ l ∈ ls.take (i + 1), legB l = true) := Lib.hid (by
          rw [HT.out]
          intro y hy
          rcases List.mem_append.1 hy with h | h
          · exact HLF.out y h
          · rw [List.mem_singleton.1 h]; exact hlb)
        clear hlb
        go_wp2_with fail
        exact ⟨⟨i + 1, by omega, by go_num, HLN, HM2⟩, by simp [intOf]; omega⟩
      | false =>
        have HE : Hid (Post (.returned (.int .i64 i)) w') := Lib.hid (HPOST.out _ _ ⟨⟨i, rfl, by omega, ⟨fun _ => ⟨l, HLM.out, hlb⟩, fun _ => by omega⟩⟩, HM2.out⟩)
        clear hlb
        go_wp2_with fail
        exact HE.out
    · obtain rfl : i = n := by omega
      have HE : Hid (Post (.returned (.int .i64 (-1))) wr) := Lib.hid (HPOST.out _ _ ⟨⟨-1, rfl, by omega, ⟨fun h => by omega, fun ⟨l, h1, h2⟩ => by
        have := HLF.out l (by rw [List.take_of_length_le (by rw [HN.out]; exact Nat.le_refl _)]; exact h1)
        rw [this] at h2; cases h2⟩⟩, HM.out⟩)
      clear HLF HM
      go_wp2_with fail
      exact HE.out
theorem containsLegs (T : Nat → Prop) (p : Option Addr) (n cap : Nat) (ls : List (List It)) (w : World) (hrow : IsLegs T w (.slice p n cap) ls) (hmax : n ≤ 1000000) (hl : ∀ l ∈ ls, l.length ≤ 1000000) :
    Calls Tryz.prog 95 #[.slice p n cap, .func (.func 96) #[] #[]] w fun e w' => e = .returned (.bool (!ls.all legB)) ∧ Mod nil w w' := by
  have H := Lib.hid (indexLegs T p n cap ls w hrow hmax hl)
  obtain ⟨r, hr0⟩ : ∃ r, (!ls.all legB) = r := ⟨_, rfl⟩
  rw [hr0]
  have HR0 := Lib.hid hr0
  clear hrow hl hr0
  go_enter Tryz.func95, Tryz.ntmps95
  go_wp2_with fail
  refine H.out.mono ?_
  rintro e w' ⟨⟨k, rfl, hk1, hk⟩, hm⟩
  have HM := Lib.hid hm
  obtain rfl : decide (0 ≤ k) = r := by
    rw [← HR0.out, Bool.eq_iff_iff, decide_eq_true_iff, hk]
    simp
  clear hm hk
  go_wp2_with fail
  go_ret
  exact ⟨rfl, HM.out⟩
end Go.Proofs.YtdfpmlfdmhlhcaaGreat

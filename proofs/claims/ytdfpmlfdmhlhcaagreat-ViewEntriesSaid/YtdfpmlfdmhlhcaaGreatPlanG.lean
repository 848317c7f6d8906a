/- Package ring: Same; package plan: Same, End. -/
import Derived.Test.YtdfpmlfdmhlhcaaGreatPlanF
namespace Go.Proofs.YtdfpmlfdmhlhcaaGreat
open Go.RowKit
deriving instance DecidableEq for Pl
theorem equalItemsF (S T : Nat → Prop) (pa pb : Option Addr) (na ca nb cb : Nat) (la lb : List It) (w : World) (ha : IsIts S w (.slice pa na ca) la) (hb : IsIts T w (.slice pb nb cb) lb) (hm : na ≤ 1000000) :
    Calls Tryz.prog 158 #[.slice pa na ca, .slice pb nb cb] w fun e w' => e = .returned (.bool (decide (la = lb))) ∧ Mod nil w w' := by
  have H := Lib.hid (equalItems S T pa pb na ca nb cb la lb w ha hb hm)
  clear ha hb
  go_enter Tryz.func158, Tryz.ntmps158
  go_wp2_with fail
  refine H.out.mono ?_
  rintro e w' ⟨rfl, hm'⟩
  have HM := Lib.hid hm'
  clear hm'
  go_wp2_with fail
  go_ret
  exact ⟨rfl, HM.out⟩
set_option maxRecDepth 100000 in
set_option maxHeartbeats 2000000 in
theorem equalLegs (S T : Nat → Prop) (pa pb : Option Addr) (na ca nb cb : Nat) (la lb : List (List It)) (w : World) (ha : IsLegs S w (.slice pa na ca) la) (hb : IsLegs T w (.slice pb nb cb) lb) (hm : na ≤ 1000000) (hl : ∀ l ∈ la, l.length ≤ 1000000) :
    Calls Tryz.prog 157 #[.slice pa na ca, .slice pb nb cb, .func (.func 158) #[] #[]] w fun e w' => e = .returned (.bool (decide (la = lb))) ∧ Mod nil w w' := by
  refine (?_ : ∀ Post : Ending → World → Prop, Hid (∀ e w', (e = .returned (.bool (decide (la = lb))) ∧ Mod nil w w') → Post e w') → Calls Tryz.prog 157 #[.slice pa na ca, .slice pb nb cb, .func (.func 158) #[] #[]] w Post) _ (Lib.hid (fun _ _ h => h))
  intro Post HPOST
  have hla : la.length = na := by obtain ⟨_, _, h⟩ := ha.form; simp only [Value.slice.injEq] at h; exact h.2.1.symm
  have hlb : lb.length = nb := by obtain ⟨_, _, h⟩ := hb.form; simp only [Value.slice.injEq] at h; exact h.2.1.symm
  by_cases hnm : na = nb
  · subst hnm
    have HA := Lib.hid ha
    have HB := Lib.hid hb
    have HLA := Lib.hid hla
    have HLB := Lib.hid hlb
    have HL := Lib.hid hl
    have hne : ((na : Int) != (na : Int)) = false := by simp
    clear ha hb hla hlb hl
    go_enter Tryz.func157, Tryz.ntmps157
    go_wp2_with fail
    clear hne
    go_loopw [17] (fun v wr => ∃ i : Nat, i ≤ na ∧ v = .int .i64 i ∧ Hid (la.take i = lb.take i) ∧ Hid (Mod nil w wr)) (fun v _ => na - (intOf v).toNat)
    case atStart => exact ⟨0, by omega, rfl, Lib.hid (by simp), Lib.hid (Mod.refl _ _)⟩
    case round =>
      obtain ⟨i, hi, rfl, HTK, HM⟩ := hrel
      by_cases hlt : i < na
      · have hia : i < la.length := by rw [HLA.out]; exact hlt
        have hib : i < lb.length := by rw [HLB.out]; exact hlt
        obtain ⟨x, hx⟩ : ∃ x, la[i] = x := ⟨_, rfl⟩
        obtain ⟨y, hy⟩ : ∃ y, lb[i] = y := ⟨_, rfl⟩
        obtain ⟨ba, oa, va, rfl, -, -, k0, hxa⟩ := (HA.out.modNil HM.out).at i hia
        obtain ⟨bb, ob, vb, rfl, -, -, q0, hxb⟩ := (HB.out.modNil HM.out).at i hib
        rw [hx] at hxa
        rw [hy] at hxb
        obtain ⟨p1, c1, rfl⟩ := hxa.form
        obtain ⟨p2, c2, rfl⟩ := hxb.form
        have hxl : x.length ≤ 1000000 := HL.out x (by rw [← hx]; exact List.getElem_mem _)
        have HC := Lib.hid (equalItemsF _ _ p1 p2 x.length c1 y.length c2 x y wr hxa hxb hxl)
        have HTA : Hid (la.take (i + 1) = la.take i ++ [x]) := Lib.hid (by rw [List.take_succ_eq_append_getElem hia, hx])
        have HTB : Hid (lb.take (i + 1) = lb.take i ++ [y]) := Lib.hid (by rw [List.take_succ_eq_append_getElem hib, hy])
        obtain ⟨n1, hn1⟩ : ∃ n1, x.length = n1 := ⟨_, rfl⟩
        obtain ⟨n2, hn2⟩ : ∃ n2, y.length = n2 := ⟨_, rfl⟩
        rw [hn1] at k0 HC
        rw [hn2] at q0 HC
        clear hx hy hxa hxb hxl hn1 hn2
        by_cases hxy : x = y
        · rw [decide_eq_true hxy] at HC
          have HN : Hid (la.take (i + 1) = lb.take (i + 1)) := Lib.hid (by rw [HTA.out, HTB.out, HTK.out, hxy])
          clear HTA HTB hxy
          go_wp2_with fail
          refine HC.out.mono ?_
          rintro e w' ⟨rfl, hm'⟩
          have HM2 := Lib.hid (HM.out.thenNil hm')
          clear hm'
          go_wp2_with fail
          exact ⟨⟨i + 1, by omega, by go_num, HN, HM2⟩, by simp [intOf]; omega⟩
        · rw [decide_eq_false hxy] at HC
          have HNE : Hid (¬ la = lb) := Lib.hid (by
            intro e
            have h1 := HTA.out
            rw [e, HTB.out] at h1
            have h2 := List.append_cancel_left h1
            exact hxy (by simpa using h2.symm))
          clear HTA HTB hxy
          go_wp2_with fail
          refine HC.out.mono ?_
          rintro e w' ⟨rfl, hm'⟩
          have HE : Hid (Post (.returned (.bool false)) w') := Lib.hid (HPOST.out _ _ ⟨by rw [decide_eq_false HNE.out], HM.out.thenNil hm'⟩)
          clear hm'
          go_wp2_with fail
          exact HE.out
      · obtain rfl : i = na := by omega
        have HEND : Hid (Post (.returned (.bool true)) wr) := Lib.hid (HPOST.out _ _ ⟨by
          have h := HTK.out
          rw [List.take_of_length_le (by rw [HLA.out]; exact Nat.le_refl _), List.take_of_length_le (by rw [HLB.out]; exact Nat.le_refl _)] at h
          rw [decide_eq_true h], HM.out⟩)
        clear HTK HM
        go_wp2_with fail
        exact HEND.out
  · have hne : ((na : Int) != (nb : Int)) = true := by rw [bne_iff_ne]; omega
    have HEND : Hid (Post (.returned (.bool false)) w) := Lib.hid (HPOST.out _ _ ⟨by rw [decide_eq_false]; intro e; rw [e] at hla; omega, Mod.refl _ _⟩)
    clear ha hb hla hlb
    go_enter Tryz.func157, Tryz.ntmps157
    go_wp2_with fail
    exact HEND.out
set_option maxRecDepth 100000 in
set_option maxHeartbeats 2000000 in
theorem ringSame (S T : Nat → Prop) (pa pb qa qb : Option Addr) (na ca nb cb ma da mb db : Nat) (la lb : List Int) (ka kb : List (List It)) (w : World) (ha : IsRow S w (.slice pa na ca) (la.map (.int .i64))) (hb : IsRow T w (.slice pb nb cb) (lb.map (.int .i64)))
    (hka : IsLegs S w (.slice qa ma da) ka) (hkb : IsLegs T w (.slice qb mb db) kb) (hna : na ≤ 1000000) (hma : ma ≤ 1000000) (hl : ∀ l ∈ ka, l.length ≤ 1000000) :
    Calls Tryz.prog 119 #[.agg #[.slice pa na ca, .slice qa ma da], .agg #[.slice pb nb cb, .slice qb mb db]] w fun e w' => e = .returned (.bool (decide (la = lb ∧ ka = kb))) ∧ Mod nil w w' := by
  refine (?_ : ∀ Post : Ending → World → Prop, Hid (∀ e w', (e = .returned (.bool (decide (la = lb ∧ ka = kb))) ∧ Mod nil w w') → Post e w') → Calls Tryz.prog 119 #[.agg #[.slice pa na ca, .slice qa ma da], .agg #[.slice pb nb cb, .slice qb mb db]] w Post) _ (Lib.hid (fun _ _ h => h))
  intro Post HPOST
  have HA := Lib.hid ha
  have HB := Lib.hid hb
  have HKA := Lib.hid hka
  have HKB := Lib.hid hkb
  have HL := Lib.hid hl
  clear ha hb hka hkb hl
  obtain ⟨r1, hr1⟩ : ∃ r, w.heap.size = r := ⟨_, rfl⟩
  obtain ⟨r2, hr2⟩ : ∃ r, r1 + 1 = r := ⟨_, rfl⟩
  go_enter Tryz.func119, Tryz.ntmps119
  go_upto_region 1 with (fail)
  (try rw [hr1])
  (try rw [hr2])
  generalize hw1 : World.alloc (World.alloc w _) _ = w1
  have hm1 : Mod nil w w1 := by rw [← hw1]; exact ((Mod.refl _ _).alloc _).alloc _
  have hb1 : w1.heap[r1]? = some (.cells #[.slice pa na ca, .slice qa ma da] 73 (0, 0)) := by rw [← hw1]; exact heap_alloc_old (by rw [← hr1]; exact heap_alloc_new _ _)
  have hb2 : w1.heap[r2]? = some (.cells #[.slice pb nb cb, .slice qb mb db] 73 (0, 0)) := by
    rw [← hw1]
    have := heap_alloc_new (w.alloc (.cells #[.slice pa na ca, .slice qa ma da] 73)) (.cells #[.slice pb nb cb, .slice qb mb db] 73)
    rw [World.size_alloc, hr1, hr2] at this
    exact this
  have a0 := cell_of hb1 0
  have a1 := cell_of hb1 1
  have b0 := cell_of hb2 0
  have b1 := cell_of hb2 1
  simp only [List.getElem?_toArray, List.getElem?_cons_zero, List.getElem?_cons_succ] at a0 a1 b0 b1
  have HM1 := Lib.hid hm1
  have HC1 := Lib.hid (equalInts _ _ pa pb na ca nb cb la lb w1 (HA.out.modNil hm1) (HB.out.modNil hm1) hna)
  clear hw1 hm1 hb1 hb2 hr1 hr2
  by_cases h1 : la = lb
  · rw [decide_eq_true h1] at HC1
    go_wp2_with fail
    refine HC1.out.mono ?_
    rintro e w2 ⟨rfl, hm2⟩
    have a1' := cell_kept a1 hm2 (World.block_lt_of_cell? _ _ a1) (not_nil _)
    have b1' := cell_kept b1 hm2 (World.block_lt_of_cell? _ _ b1) (not_nil _)
    have HM2 := Lib.hid (HM1.out.thenNil hm2)
    have HC2 := Lib.hid (equalLegs _ _ qa qb ma da mb db ka kb w2 (HKA.out.modNil HM2.out) (HKB.out.modNil HM2.out) hma HL.out)
    have HD : Hid (decide (la = lb ∧ ka = kb) = decide (ka = kb)) := Lib.hid (by simp [h1])
    clear hm2 a0 a1 b0 b1 h1
    go_wp2_with fail
    refine HC2.out.mono ?_
    rintro e w3 ⟨rfl, hm3⟩
    have HE := Lib.hid (HPOST.out _ _ ⟨by rw [HD.out], HM2.out.thenNil hm3⟩)
    clear hm3
    go_wp2_with fail
    exact HE.out
  · rw [decide_eq_false h1] at HC1
    have HD : Hid (decide (la = lb ∧ ka = kb) = false) := Lib.hid (by simp [h1])
    clear h1
    go_wp2_with fail
    refine HC1.out.mono ?_
    rintro e w2 ⟨rfl, hm2⟩
    have HE := Lib.hid (HPOST.out _ w2 ⟨by rw [HD.out], HM1.out.thenNil hm2⟩)
    clear hm2
    go_wp2_with fail
    exact HE.out
end Go.Proofs.YtdfpmlfdmhlhcaaGreat

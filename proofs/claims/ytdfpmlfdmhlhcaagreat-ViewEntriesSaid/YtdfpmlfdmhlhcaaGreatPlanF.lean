/- Comparisons of ints, items, legs, rings, plans. (Printed by wip/tools/gen_planf.py.) -/
import Derived.Test.YtdfpmlfdmhlhcaaGreatPlanE
namespace Go.Proofs.YtdfpmlfdmhlhcaaGreat
open Go.RowKit
def It.val (x : It) : Value := .agg #[.int .i64 x.led, .int .i64 x.asset, .int .i64 x.amt]
theorem item_eq (x y : It) (w : World) : (binOp .eql 135 x.val y.val).run Tryz.prog w = .ok (.bool (decide (x = y))) w := by
  obtain ⟨a1, a2, a3⟩ := x
  obtain ⟨b1, b2, b3⟩ := y
  simp only [It.val]
  by_cases h1 : a1 = b1
  · subst h1
    by_cases h2 : a2 = b2
    · subst h2
      by_cases h3 : a3 = b3
      · subst h3
        go_simp
      · have hb : (a3 == b3) = false := by simpa using h3
        go_simp
    · have hb : (a2 == b2) = false := by simpa using h2
      go_simp
  · have hb : (a1 == b1) = false := by simpa using h1
    go_simp
theorem item_ne (x y : It) (w : World) : (binOp .neq 135 x.val y.val).run Tryz.prog w = .ok (.bool (!decide (x = y))) w := by
  have h := item_eq x y w
  simp only [It.val] at h ⊢
  rw [run_eql_struct] at h
  rw [run_neq_struct]
  cases hr : (Op.equalIn 10000 135 (Value.agg #[.int .i64 x.led, .int .i64 x.asset, .int .i64 x.amt]) (Value.agg #[.int .i64 y.led, .int .i64 y.asset, .int .i64 y.amt])).run Tryz.prog w with
  | ok v w1 =>
    rw [hr] at h
    simp only [Result.andThen_ok, Result.ok.injEq, Value.bool.injEq] at h ⊢
    obtain ⟨rfl, rfl⟩ := h
    exact ⟨rfl, rfl⟩
  | halt x w1 => rw [hr] at h; simp [Result.andThen] at h
set_option maxRecDepth 100000 in
set_option maxHeartbeats 1000000 in
theorem equalInts (S T : Nat → Prop) (pa pb : Option Addr) (na ca nb cb : Nat) (la lb : List Int) (w : World) (ha : IsRow S w (.slice pa na ca) (la.map (.int .i64))) (hb : IsRow T w (.slice pb nb cb) (lb.map (.int .i64))) (hm : na ≤ 1000000) :
    Calls Tryz.prog 50 #[.slice pa na ca, .slice pb nb cb] w fun e w' => e = .returned (.bool (decide (la = lb))) ∧ Mod nil w w' := by
  refine (?_ : ∀ Post : Ending → World → Prop, Hid (∀ e w', (e = .returned (.bool (decide (la = lb))) ∧ Mod nil w w') → Post e w') → Calls Tryz.prog 50 #[.slice pa na ca, .slice pb nb cb] w Post) _ (Lib.hid (fun _ _ h => h))
  intro Post HPOST
  have hla : la.length = na := by obtain ⟨_, _, h, _⟩ := ha; simp only [Value.slice.injEq, List.length_map] at h; exact h.2.1.symm
  have hlb : lb.length = nb := by obtain ⟨_, _, h, _⟩ := hb; simp only [Value.slice.injEq, List.length_map] at h; exact h.2.1.symm
  by_cases hnm : na = nb
  · subst hnm
    have HA := Lib.hid ha
    have HB := Lib.hid hb
    have HLA := Lib.hid hla
    have HLB := Lib.hid hlb
    have hne : ((na : Int) != (na : Int)) = false := by simp
    clear ha hb hla hlb
    go_enter Tryz.func50, Tryz.ntmps50
    go_wp2_with fail
    clear hne
    go_loopw [13] (fun v wr => ∃ i k : Nat, i ≤ na ∧ v = .int .i64 i ∧ Hid (la.take i = lb.take i) ∧ wr = w.drewN k) (fun v _ => na - (intOf v).toNat)
    case atStart => exact ⟨0, 0, by omega, rfl, Lib.hid (by simp), rfl⟩
    case round =>
      obtain ⟨i, k, hi, rfl, HTK, rfl⟩ := hrel
      by_cases hlt : i < na
      · have hia : i < la.length := by rw [HLA.out]; exact hlt
        have hib : i < lb.length := by rw [HLB.out]; exact hlt
        obtain ⟨x, hx⟩ : ∃ x, la[i] = x := ⟨_, rfl⟩
        obtain ⟨y, hy⟩ : ∃ y, lb[i] = y := ⟨_, rfl⟩
        obtain ⟨pa', ca', hva, hca⟩ := HA.out
        obtain ⟨ba, oa, rfl, -, -, hxa⟩ := hca i (by rw [List.length_map]; exact hia)
        simp only [Value.slice.injEq] at hva
        obtain ⟨rfl, -, -⟩ := hva
        obtain ⟨pb', cb', hvb, hcb⟩ := HB.out
        obtain ⟨bb, ob, rfl, -, -, hxb⟩ := hcb i (by rw [List.length_map]; exact hib)
        simp only [Value.slice.injEq] at hvb
        obtain ⟨rfl, -, -⟩ := hvb
        have k0 : w.cell? ⟨ba, oa + i, none⟩ = some (.int .i64 x) := by rw [hxa, ← hx]; simp [hia]
        have q0 : w.cell? ⟨bb, ob + i, none⟩ = some (.int .i64 y) := by rw [hxb, ← hy]; simp [hib]
        clear hca hcb hxa hxb
        have HTA : Hid (la.take (i + 1) = la.take i ++ [x]) := Lib.hid (by rw [List.take_succ_eq_append_getElem hia, hx])
        have HTB : Hid (lb.take (i + 1) = lb.take i ++ [y]) := Lib.hid (by rw [List.take_succ_eq_append_getElem hib, hy])
        clear hx hy
        by_cases hxy : x = y
        · subst hxy
          have HN : Hid (la.take (i + 1) = lb.take (i + 1)) := Lib.hid (by rw [HTA.out, HTB.out, HTK.out])
          have hcmp : (x != x) = false := by simp
          clear HTA HTB
          go_upto_region 6 with (fail)
          go_quiet (fail)
          go_wp2_with fail
          exact ⟨⟨i + 1, _, by omega, by go_num, HN, rfl⟩, by simp [intOf]; omega⟩
        · have HE : Hid (∀ j, Post (.returned (.bool false)) ((w.drewN k).drewN j)) := Lib.hid (fun j => HPOST.out _ _ ⟨by
            rw [decide_eq_false]
            intro e
            have h1 := HTA.out
            rw [e, HTB.out] at h1
            have h2 := List.append_cancel_left h1
            exact hxy (by simpa using h2.symm), ((Mod.refl nil w).drewN k).drewN j⟩)
          have hcmp : (x != y) = true := by simp [hxy]
          clear HTA HTB
          go_upto_region 6 with (fail)
          go_quiet (fail)
          go_wp2_with fail
          exact HE.out _
      · obtain rfl : i = na := by omega
        have HEND : Hid (Post (.returned (.bool true)) (w.drewN k)) := Lib.hid (HPOST.out _ _ ⟨by
          have h := HTK.out
          rw [List.take_of_length_le (by rw [HLA.out]; exact Nat.le_refl _), List.take_of_length_le (by rw [HLB.out]; exact Nat.le_refl _)] at h
          rw [decide_eq_true h], (Mod.refl nil w).drewN k⟩)
        go_wp2_with fail
        exact HEND.out
  · have hne : ((na : Int) != (nb : Int)) = true := by rw [bne_iff_ne]; omega
    have HEND : Hid (Post (.returned (.bool false)) w) := Lib.hid (HPOST.out _ _ ⟨by rw [decide_eq_false]; intro e; rw [e] at hla; omega, Mod.refl _ _⟩)
    clear ha hb hla hlb
    go_enter Tryz.func50, Tryz.ntmps50
    go_wp2_with fail
    exact HEND.out
set_option maxRecDepth 100000 in
set_option maxHeartbeats 1000000 in
theorem equalItems (S T : Nat → Prop) (pa pb : Option Addr) (na ca nb cb : Nat) (la lb : List It) (w : World) (ha : IsIts S w (.slice pa na ca) la) (hb : IsIts T w (.slice pb nb cb) lb) (hm : na ≤ 1000000) :
    Calls Tryz.prog 159 #[.slice pa na ca, .slice pb nb cb] w fun e w' => e = .returned (.bool (decide (la = lb))) ∧ Mod nil w w' := by
  refine (?_ : ∀ Post : Ending → World → Prop, Hid (∀ e w', (e = .returned (.bool (decide (la = lb))) ∧ Mod nil w w') → Post e w') → Calls Tryz.prog 159 #[.slice pa na ca, .slice pb nb cb] w Post) _ (Lib.hid (fun _ _ h => h))
  intro Post HPOST
  have hla : la.length = na := by obtain ⟨_, _, h⟩ := ha.form; simp only [Value.slice.injEq] at h; exact h.2.1.symm
  have hlb : lb.length = nb := by obtain ⟨_, _, h⟩ := hb.form; simp only [Value.slice.injEq] at h; exact h.2.1.symm
  by_cases hnm : na = nb
  · subst hnm
    have HA := Lib.hid ha
    have HB := Lib.hid hb
    have HLA := Lib.hid hla
    have HLB := Lib.hid hlb
    have hne : ((na : Int) != (na : Int)) = false := by simp
    clear ha hb hla hlb
    go_enter Tryz.func159, Tryz.ntmps159
    go_wp2_with fail
    clear hne
    go_loopw [13] (fun v wr => ∃ i k : Nat, i ≤ na ∧ v = .int .i64 i ∧ Hid (la.take i = lb.take i) ∧ wr = w.drewN k) (fun v _ => na - (intOf v).toNat)
    case atStart => exact ⟨0, 0, by omega, rfl, Lib.hid (by simp), rfl⟩
    case round =>
      obtain ⟨i, k, hi, rfl, HTK, rfl⟩ := hrel
      by_cases hlt : i < na
      · have hia : i < la.length := by rw [HLA.out]; exact hlt
        have hib : i < lb.length := by rw [HLB.out]; exact hlt
        obtain ⟨x, hx⟩ : ∃ x, la[i] = x := ⟨_, rfl⟩
        obtain ⟨y, hy⟩ : ∃ y, lb[i] = y := ⟨_, rfl⟩
        obtain ⟨ba, oa, rfl, -, -, k0, k1, k2⟩ := HA.out.at i hia
        obtain ⟨bb, ob, rfl, -, -, q0, q1, q2⟩ := HB.out.at i hib
        rw [hx] at k0 k1 k2
        rw [hy] at q0 q1 q2
        have HTA : Hid (la.take (i + 1) = la.take i ++ [x]) := Lib.hid (by rw [List.take_succ_eq_append_getElem hia, hx])
        have HTB : Hid (lb.take (i + 1) = lb.take i ++ [y]) := Lib.hid (by rw [List.take_succ_eq_append_getElem hib, hy])
        clear hx hy
        by_cases hxy : x = y
        · subst hxy
          have HN : Hid (la.take (i + 1) = lb.take (i + 1)) := Lib.hid (by rw [HTA.out, HTB.out, HTK.out])
          have hcmp := item_ne x x
          rw [decide_eq_true rfl] at hcmp
          obtain ⟨x1, x2, x3⟩ := x
          simp only [It.val, Bool.not_true] at hcmp k0 k1 k2 q0 q1 q2
          clear HTA HTB
          go_upto_region 6 with (fail)
          go_quiet (fail)
          go_wp2_with fail
          exact ⟨⟨i + 1, _, by omega, by go_num, HN, rfl⟩, by simp [intOf]; omega⟩
        · have HE : Hid (∀ j, Post (.returned (.bool false)) ((w.drewN k).drewN j)) := Lib.hid (fun j => HPOST.out _ _ ⟨by
            rw [decide_eq_false]
            intro e
            have h1 := HTA.out
            rw [e, HTB.out] at h1
            have h2 := List.append_cancel_left h1
            exact hxy (by simpa using h2.symm), ((Mod.refl nil w).drewN k).drewN j⟩)
          have hcmp := item_ne x y
          rw [decide_eq_false hxy] at hcmp
          obtain ⟨x1, x2, x3⟩ := x
          obtain ⟨y1, y2, y3⟩ := y
          simp only [It.val, Bool.not_false] at hcmp k0 k1 k2 q0 q1 q2
          clear HTA HTB
          go_upto_region 6 with (fail)
          go_quiet (fail)
          go_wp2_with fail
          exact HE.out _
      · obtain rfl : i = na := by omega
        have HEND : Hid (Post (.returned (.bool true)) (w.drewN k)) := Lib.hid (HPOST.out _ _ ⟨by
          have h := HTK.out
          rw [List.take_of_length_le (by rw [HLA.out]; exact Nat.le_refl _), List.take_of_length_le (by rw [HLB.out]; exact Nat.le_refl _)] at h
          rw [decide_eq_true h], (Mod.refl nil w).drewN k⟩)
        go_wp2_with fail
        exact HEND.out
  · have hne : ((na : Int) != (nb : Int)) = true := by rw [bne_iff_ne]; omega
    have HEND : Hid (Post (.returned (.bool false)) w) := Lib.hid (HPOST.out _ _ ⟨by rw [decide_eq_false]; intro e; rw [e] at hla; omega, Mod.refl _ _⟩)
    clear ha hb hla hlb
    go_enter Tryz.func159, Tryz.ntmps159
    go_wp2_with fail
    exact HEND.out
set_option maxRecDepth 100000 in
set_option maxHeartbeats 1000000 in
theorem sameItems (S T : Nat → Prop) (pa pb : Option Addr) (na ca nb cb : Nat) (la lb : List It) (w : World) (ha : IsIts S w (.slice pa na ca) la) (hb : IsIts T w (.slice pb nb cb) lb) (hm : na ≤ 1000000) :
    Calls Tryz.prog 110 #[.slice pa na ca, .slice pb nb cb] w fun e w' => e = .returned (.bool (decide (la = lb))) ∧ Mod nil w w' := by
  refine (?_ : ∀ Post : Ending → World → Prop, Hid (∀ e w', (e = .returned (.bool (decide (la = lb))) ∧ Mod nil w w') → Post e w') → Calls Tryz.prog 110 #[.slice pa na ca, .slice pb nb cb] w Post) _ (Lib.hid (fun _ _ h => h))
  intro Post HPOST
  have hla : la.length = na := by obtain ⟨_, _, h⟩ := ha.form; simp only [Value.slice.injEq] at h; exact h.2.1.symm
  have hlb : lb.length = nb := by obtain ⟨_, _, h⟩ := hb.form; simp only [Value.slice.injEq] at h; exact h.2.1.symm
  by_cases hnm : na = nb
  · subst hnm
    have HA := Lib.hid ha
    have HB := Lib.hid hb
    have HLA := Lib.hid hla
    have HLB := Lib.hid hlb
    have hne : ((na : Int) != (na : Int)) = false := by simp
    clear ha hb hla hlb
    go_enter Tryz.func110, Tryz.ntmps110
    go_wp2_with fail
    clear hne
    go_loopw [5] (fun v wr => ∃ i k : Nat, i ≤ na ∧ v = .int .i64 i ∧ Hid (la.take i = lb.take i) ∧ wr = w.drewN k) (fun v _ => na - (intOf v).toNat)
    case atStart => exact ⟨0, 0, by omega, rfl, Lib.hid (by simp), rfl⟩
    case round =>
      obtain ⟨i, k, hi, rfl, HTK, rfl⟩ := hrel
      by_cases hlt : i < na
      · have hia : i < la.length := by rw [HLA.out]; exact hlt
        have hib : i < lb.length := by rw [HLB.out]; exact hlt
        obtain ⟨x, hx⟩ : ∃ x, la[i] = x := ⟨_, rfl⟩
        obtain ⟨y, hy⟩ : ∃ y, lb[i] = y := ⟨_, rfl⟩
        obtain ⟨ba, oa, rfl, -, -, k0, k1, k2⟩ := HA.out.at i hia
        obtain ⟨bb, ob, rfl, -, -, q0, q1, q2⟩ := HB.out.at i hib
        rw [hx] at k0 k1 k2
        rw [hy] at q0 q1 q2
        have HTA : Hid (la.take (i + 1) = la.take i ++ [x]) := Lib.hid (by rw [List.take_succ_eq_append_getElem hia, hx])
        have HTB : Hid (lb.take (i + 1) = lb.take i ++ [y]) := Lib.hid (by rw [List.take_succ_eq_append_getElem hib, hy])
        clear hx hy
        by_cases hxy : x = y
        · subst hxy
          have HN : Hid (la.take (i + 1) = lb.take (i + 1)) := Lib.hid (by rw [HTA.out, HTB.out, HTK.out])
          have hcmp := item_ne x x
          rw [decide_eq_true rfl] at hcmp
          obtain ⟨x1, x2, x3⟩ := x
          simp only [It.val, Bool.not_true] at hcmp k0 k1 k2 q0 q1 q2
          clear HTA HTB
          go_upto_region 6 with (fail)
          go_quiet (fail)
          go_wp2_with fail
          exact ⟨⟨i + 1, _, by omega, by go_num, HN, rfl⟩, by simp [intOf]; omega⟩
        · have HE : Hid (∀ j, Post (.returned (.bool false)) ((w.drewN k).drewN j)) := Lib.hid (fun j => HPOST.out _ _ ⟨by
            rw [decide_eq_false]
            intro e
            have h1 := HTA.out
            rw [e, HTB.out] at h1
            have h2 := List.append_cancel_left h1
            exact hxy (by simpa using h2.symm), ((Mod.refl nil w).drewN k).drewN j⟩)
          have hcmp := item_ne x y
          rw [decide_eq_false hxy] at hcmp
          obtain ⟨x1, x2, x3⟩ := x
          obtain ⟨y1, y2, y3⟩ := y
          simp only [It.val, Bool.not_false] at hcmp k0 k1 k2 q0 q1 q2
          clear HTA HTB
          go_upto_region 6 with (fail)
          go_quiet (fail)
          go_wp2_with fail
          exact HE.out _
      · obtain rfl : i = na := by omega
        have HEND : Hid (Post (.returned (.bool true)) (w.drewN k)) := Lib.hid (HPOST.out _ _ ⟨by
          have h := HTK.out
          rw [List.take_of_length_le (by rw [HLA.out]; exact Nat.le_refl _), List.take_of_length_le (by rw [HLB.out]; exact Nat.le_refl _)] at h
          rw [decide_eq_true h], (Mod.refl nil w).drewN k⟩)
        go_wp2_with fail
        exact HEND.out
  · have hne : ((na : Int) != (nb : Int)) = true := by rw [bne_iff_ne]; omega
    have HEND : Hid (Post (.returned (.bool false)) w) := Lib.hid (HPOST.out _ _ ⟨by rw [decide_eq_false]; intro e; rw [e] at hla; omega, Mod.refl _ _⟩)
    clear ha hb hla hlb
    go_enter Tryz.func110, Tryz.ntmps110
    go_wp2_with fail
    exact HEND.out
end Go.Proofs.YtdfpmlfdmhlhcaaGreat

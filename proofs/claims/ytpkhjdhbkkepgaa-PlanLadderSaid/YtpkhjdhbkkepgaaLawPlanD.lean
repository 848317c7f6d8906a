/- cfllaw21: PlanLadder. (Printed by wip/tools/gen_lawpland.py.) -/
import Derived.Test.YtpkhjdhbkkepgaaLawPlan
import Derived.Test.YtpkhjdhbkkepgaaPlanM
namespace Go.Proofs.Ytpkhjdhbkkepgaa
open Go.ChangeShapes Go.WideShapes Go.ChangeAt Go.RowKit

theorem bytes_length (P : Pl) (h : checkN P 16 4 4 = 0) : P.bytes.length ≤ 10000 := by
  obtain ⟨⟨hd1, hd2, ⟨hp2, hp16, hrng, -⟩, hnn, hlg, -, -⟩, -, hz⟩ := make_own (checkN_self h)
  have e1 := flat_length (fun x => nb x 1) 1 P.ps (fun x _ => by rw [nb_length]; omega)
  have e2 := flat_length legE 81 P.ls (fun x hx => legE_length (legB_ok (List.all_eq_true.1 hlg x hx)).2.1)
  unfold Pl.bytes
  simp only [List.length_append, nb_length]
  rw [hnn] at e2
  have e3 : P.ps.length * 81 ≤ 16 * 81 := Nat.mul_le_mul_right _ hp16
  omega
set_option maxRecDepth 100000 in
set_option maxHeartbeats 8000000 in
theorem lawPlanLadder (deal start eps wait : Int) (pp pl : Option Addr) (np cp nl cl : Nat) (ps : List Int) (ls : List (List It)) (H : List UInt8) (w : World) (hp : IsRow (· < w.heap.size) w (.slice pp np cp) (ps.map (.int .i64))) (hl : IsLegs (· < w.heap.size) w (.slice pl nl cl) ls) (hnp : np ≤ maxLen) (hnl : nl ≤ maxLen) (hhm : H.length ≤ maxLen) :
    Calls Try.prog 7 #[.int .i64 deal, .agg #[.slice pp np cp, .slice pl nl cl], .string ⟨H.toArray⟩, .int .i64 start, .int .i64 eps, .int .i64 wait] w fun e w' => e = .returned (.bool true) ∧ Mod nil w w' := by
  refine (?_ : ∀ Post : Ending → World → Prop, Hid (∀ e w', (e = .returned (.bool true) ∧ Mod nil w w') → Post e w') → Calls Try.prog 7 #[.int .i64 deal, .agg #[.slice pp np cp, .slice pl nl cl], .string ⟨H.toArray⟩, .int .i64 start, .int .i64 eps, .int .i64 wait] w Post) _ (Lib.hid (fun _ _ h => h))
  intro Post HPOST
  have hpl : ps.length = np := by obtain ⟨_, _, h, _⟩ := hp; simp only [Value.slice.injEq, List.length_map] at h; exact h.2.1.symm
  have hll : ls.length = nl := by obtain ⟨_, _, h⟩ := hl.form; simp only [Value.slice.injEq] at h; exact h.2.1.symm
  obtain ⟨nh, hnh⟩ : ∃ n, H.length = n := ⟨_, rfl⟩
  have hzl : (⟨H.toArray⟩ : ByteArray).size = nh := by rw [← hnh]; rfl
  have hzl2 : H.toArray.size = nh := by rw [← hnh]; rfl
  rw [hnh] at hhm
  have HP := Lib.hid hp
  have HL := Lib.hid hl
  have HPL := Lib.hid hpl
  have HLL := Lib.hid hll
  have HNH := Lib.hid hnh
  obtain ⟨r, hr⟩ : ∃ r, w.heap.size = r := ⟨_, rfl⟩
  unfold maxLen at hhm
  clear hp hl hpl hll hnh
  go_enter Try.func7, Try.ntmps7
  go_upto_region 1 with (fail)
  (try rw [hr])
  generalize hw1 : World.alloc w _ = w1
  have hm1 : Mod nil w w1 := by rw [← hw1]; exact (Mod.refl _ _).alloc _
  have hb1 : w1.heap[r]? = some (.cells #[.slice pp np cp, .slice pl nl cl] 25 (0, 0)) := by rw [← hw1, ← hr]; exact heap_alloc_new _ _
  have r0 := cell_of hb1 0
  have r1 := cell_of hb1 1
  simp only [List.getElem?_toArray, List.getElem?_cons_zero, List.getElem?_cons_succ] at r0 r1
  have HMw1 := Lib.hid hm1
  clear hw1 hm1 hb1 hr
  go_wp2_with fail
  refine (planFirst w1).mono ?_
  rintro e w' ⟨rfl, rfl⟩
  have HFEW := Lib.hid (planFew _ pp pl np cp nl cl ps ls w1 HPL.out (HL.out.modNil HMw1.out) hnp hnl)
  by_cases hfew : fewN ps ls
  case neg =>
    rw [decide_eq_false hfew] at HFEW
    clear hfew
    go_wp2_with fail
    refine HFEW.out.mono ?_
    rintro e w2 ⟨rfl, hm2⟩
    have HE := Lib.hid (HPOST.out _ w2 ⟨rfl, HMw1.out.thenNil hm2⟩)
    clear hm2
    go_wp2_with fail
    refine (planFirst w2).mono ?_
    rintro e w' ⟨rfl, rfl⟩
    go_wp2_with fail
    exact HE.out
  rw [decide_eq_true hfew] at HFEW
  have hnp1 : np ≤ 100 := by rw [← HPL.out]; exact hfew.2.1
  have hnl1 : nl ≤ 100 := by rw [← HLL.out]; exact hfew.2.2
  have HFW : Hid (∀ l ∈ ls, l.length ≤ 100) := Lib.hid (fun l hl => hfew.1 l (by rw [List.take_of_length_le hfew.2.2]; exact hl))
  clear hfew
  go_wp2_with fail
  refine HFEW.out.mono ?_
  rintro e w2 ⟨rfl, hm2⟩
  have r0' := cell_kept r0 hm2 (World.block_lt_of_cell? _ _ r0) (not_nil _)
  clear r0
  have r0 := r0'
  clear r0'
  have r1' := cell_kept r1 hm2 (World.block_lt_of_cell? _ _ r1) (not_nil _)
  clear r1
  have r1 := r1'
  clear r1'
  have HMw2 := Lib.hid (HMw1.out.thenNil hm2)
  clear hm2
  by_cases hbig : 1000 < nh
  case pos =>
    have HE := Lib.hid (HPOST.out _ w2 ⟨rfl, HMw2.out⟩)
    go_wp2_with fail
    refine (planFirst w2).mono ?_
    rintro e w' ⟨rfl, rfl⟩
    go_wp2_with fail
    exact HE.out
  obtain ⟨P1, er1, hmk1⟩ : ∃ P er, makeN deal ps ls H start eps wait = (P, er) := ⟨_, _, rfl⟩
  have hcall := planMake _ deal start eps wait pp pl np cp nl cl ps ls H w2 (HP.out.modNil HMw2.out) (HL.out.modNil HMw2.out) (by omega) (by omega) (fun l h => by have := HFW.out l h; omega) (by rw [HNH.out]; omega)
  rw [hmk1] at hcall
  have HC1 := Lib.hid hcall
  have HMK1 := Lib.hid hmk1
  clear hcall hmk1
  go_wp2_with fail
  refine HC1.out.mono ?_
  rintro e w4 ⟨v1, rfl, hpl1, hm4⟩
  have HMw4 := Lib.hid (HMw2.out.thenNil hm4)
  clear hm4 HC1 r0 r1
  rcases makeN_cases HMK1.out with ⟨rfl, dl, hmay, hlad, -, rfl⟩ | ⟨her, rfl⟩
  case inr =>
    have hb : (er1 != 0) = true := by simp [her]
    obtain ⟨p1, c1, p2, c2, p7, c7, hv, -⟩ := hpl1
    have hv : v1 = .agg #[.int .i64 0, .slice p1 0 c1, .slice p2 0 c2, .string ⟨#[]⟩, .int .i64 0, .int .i64 0, .int .i64 0, .slice p7 0 c7] := hv
    subst hv
    clear her HMK1
    go_upto_region 6 with (fail)
    obtain ⟨t, ht⟩ : ∃ x, w4.heap.size = x := ⟨_, rfl⟩
    (try rw [ht])
    generalize hw5 : World.alloc w4 _ = w5
    have hm5 : Mod nil w4 w5 := by rw [← hw5]; exact (Mod.refl _ _).alloc _
    have hb5 : w5.heap[t]? = some (.cells #[.int .i64 0, .slice p1 0 c1, .slice p2 0 c2, .string ⟨#[]⟩, .int .i64 0, .int .i64 0, .int .i64 0, .slice p7 0 c7] 30 (0, 0)) := by rw [← hw5, ← ht]; exact heap_alloc_new _ _
    have a1 := cell_of hb5 1
    simp only [List.getElem?_toArray, List.getElem?_cons_zero, List.getElem?_cons_succ] at a1
    have HE := Lib.hid (HPOST.out _ w5 ⟨rfl, HMw4.out.thenNil hm5⟩)
    clear hw5 hm5 hb5
    go_wp2_with fail
    refine (planFirst w5).mono ?_
    rintro e w' ⟨rfl, rfl⟩
    go_wp2_with fail
    exact HE.out
  have hchk : checkN ⟨deal, ps, ls, H, start, eps, wait, dl⟩ 16 4 4 = 0 := make_check HMK1.out
  have hh32 : H.length = 32 := by
    rcases makeN_cases HMK1.out with ⟨-, _, -, -, h, -⟩ | ⟨h, -⟩
    · exact h
    · exact absurd rfl h
  obtain ⟨hd1, hd2, ⟨hp2, hp16, -, -⟩, hnn, -, htk, htm⟩ := hmay
  rw [HPL.out] at hp2 hp16
  have hnlp : nl = np := by rw [← HLL.out, hnn, HPL.out]
  have hnlp2 : ls.length = np := by rw [hnn, HPL.out]
  have HNLP := Lib.hid hnlp2
  obtain ⟨hl1, hl2, hl3⟩ := ladderN_some hlad
  have hdln : dl.length = np := by rw [hl1, HPL.out]
  rw [HPL.out] at hl2 hl3
  obtain ⟨t1, t2, t3, t4⟩ := id htm
  obtain ⟨s1, s2⟩ := htk
  have hgap : gapN eps wait = 2 * eps + 2 * wait + 2 := if_pos htm
  obtain ⟨p1, c1, p2, c2, p7, c7, rfl, hq1, hq2, hq3⟩ := id hpl1
  simp only at hq1 hq2 hq3 ⊢
  have HPLA := Lib.hid hpl1
  simp only at HPLA
  rw [HPL.out, hnlp2, hdln] at HPLA ⊢
  rw [hdln] at hq3
  have HDLN := Lib.hid hdln
  have hlt : np - 1 < np := by omega
  obtain ⟨gd, od, rfl, -, -, -⟩ := row_int hq3 0 (by rw [HDLN.out]; omega)
  have HQ3 := Lib.hid hq3
  have HQC : Hid (∀ i, i < np → w4.cell? ⟨gd, od + i, none⟩ = some (.int .i64 (dl.getD i 0))) := Lib.hid (fun i hi => by
    obtain ⟨g', o', h1, -, -, h4⟩ := row_int HQ3.out i (by rw [HDLN.out]; exact hi)
    simp only [Option.some.injEq, Addr.mk.injEq, and_true] at h1
    obtain ⟨rfl, rfl⟩ := h1
    exact h4)
  have HCK := Lib.hid hchk
  have HL3 := Lib.hid hl3
  have HL2 := Lib.hid hl2
  have HGAP := Lib.hid hgap
  have HH32 := Lib.hid hh32
  clear hq1 hq2 hq3 hchk hl1 hl2 hl3 hlad hgap hpl1 htm hdln hnn hnlp2 hh32
  go_upto_region 6 with (fail)
  obtain ⟨t, ht⟩ : ∃ x, w4.heap.size = x := ⟨_, rfl⟩
  (try rw [ht])
  generalize hw5 : World.alloc w4 _ = w5
  have hm5 : Mod nil w4 w5 := by rw [← hw5]; exact (Mod.refl _ _).alloc _
  have hb5 : w5.heap[t]? = some (.cells #[.int .i64 deal, .slice p1 np c1, .slice p2 np c2, .string ⟨H.toArray⟩, .int .i64 start, .int .i64 eps, .int .i64 wait, .slice (some ⟨gd, od, none⟩) np c7] 30 (0, 0)) := by rw [← hw5, ← ht]; exact heap_alloc_new _ _
  have a0 := cell_of hb5 0
  have a1 := cell_of hb5 1
  have a2 := cell_of hb5 2
  have a3 := cell_of hb5 3
  have a4 := cell_of hb5 4
  have a5 := cell_of hb5 5
  have a6 := cell_of hb5 6
  have a7 := cell_of hb5 7
  simp only [List.getElem?_toArray, List.getElem?_cons_zero, List.getElem?_cons_succ] at a0 a1 a2 a3 a4 a5 a6 a7
  have HM5 := Lib.hid (HMw4.out.thenNil hm5)
  have HQ5 : Hid (∀ i, i < np → w5.cell? ⟨gd, od + i, none⟩ = some (.int .i64 (dl.getD i 0))) := Lib.hid (fun i hi => by
    have h := HQC.out i hi
    exact cell_kept h hm5 (World.block_lt_of_cell? _ _ h) (not_nil _))
  have HPL5 := Lib.hid (HPLA.out.modNil hm5)
  clear hw5 hm5 hb5 ht HQC HPLA HQ3
  obtain ⟨gg, hgg⟩ : ∃ x, 2 * eps + 2 * wait + 2 = x := ⟨_, rfl⟩
  obtain ⟨e2, he2⟩ : ∃ x, 2 * eps = x := ⟨_, rfl⟩
  obtain ⟨wt2, hwt2⟩ : ∃ x, 2 * wait = x := ⟨_, rfl⟩
  obtain ⟨ew, hew⟩ : ∃ x, e2 + wt2 = x := ⟨_, rfl⟩
  have f1 : IntKind.i64.wrap (2 * eps) = e2 := by rw [he2, IntKind.wrap_i64]; omega
  have f2 : IntKind.i64.wrap (2 * wait) = wt2 := by rw [hwt2, IntKind.wrap_i64]; omega
  have f3 : IntKind.i64.wrap (e2 + wt2) = ew := by rw [hew, IntKind.wrap_i64]; omega
  have f4 : IntKind.i64.wrap (ew + 2) = gg := by rw [IntKind.wrap_i64]; omega
  have HDIFF : Hid (∀ j, j + 1 < np → dl.getD j 0 - dl.getD (j + 1) 0 = gg) := Lib.hid (fun j hj => by
    rw [HL3.out j (by omega), HL3.out (j + 1) hj]
    unfold ladAt
    rw [HGAP.out, hgg]
    obtain ⟨q, hq⟩ : ∃ q, np - 1 - (j + 1) = q := ⟨_, rfl⟩
    rw [show np - 1 - j = q + 1 by omega, hq, Int.natCast_add, Int.add_mul]
    omega)
  have hggb : 0 ≤ gg ∧ gg ≤ 100000 := by omega
  have HG := Lib.hid (show e2 = 2 * eps ∧ wt2 = 2 * wait ∧ gg = 2 * eps + 2 * wait + 2 from ⟨he2.symm, hwt2.symm, hgg.symm⟩)
  clear hgg he2 hwt2 hew
  have hx0 := HQ5.out 0 (by omega)
  obtain ⟨y0, hy0⟩ : ∃ y, dl.getD 0 0 = y := ⟨_, rfl⟩
  rw [hy0, Nat.add_zero] at hx0
  have x0 := hx0
  obtain ⟨K, hK⟩ : ∃ K, np - 1 = K := ⟨_, rfl⟩
  have xk := HQ5.out K (by omega)
  obtain ⟨yk, hyk⟩ : ∃ y, dl.getD K 0 = y := ⟨_, rfl⟩
  rw [hyk] at xk
  have HY0 := Lib.hid hy0
  have HYK := Lib.hid hyk
  have HKN := Lib.hid hK
  clear hx0 hy0 hyk hK
  have HKEEP : Hid (∀ W, Mod nil w5 W → W.cell? ⟨t, 0, none⟩ = some (.int .i64 deal) ∧ W.cell? ⟨t, 1, none⟩ = some (.slice p1 np c1) ∧ W.cell? ⟨t, 2, none⟩ = some (.slice p2 np c2) ∧ W.cell? ⟨t, 3, none⟩ = some (.string ⟨H.toArray⟩) ∧ W.cell? ⟨t, 4, none⟩ = some (.int .i64 start) ∧ W.cell? ⟨t, 5, none⟩ = some (.int .i64 eps) ∧ W.cell? ⟨t, 6, none⟩ = some (.int .i64 wait) ∧ W.cell? ⟨t, 7, none⟩ = some (.slice (some ⟨gd, od, none⟩) np c7) ∧ W.cell? ⟨gd, od, none⟩ = some (.int .i64 y0) ∧ W.cell? ⟨gd, od + K, none⟩ = some (.int .i64 yk)) := Lib.hid (fun W m => ⟨cell_kept a0 m (World.block_lt_of_cell? _ _ a0) (not_nil _), cell_kept a1 m (World.block_lt_of_cell? _ _ a1) (not_nil _), cell_kept a2 m (World.block_lt_of_cell? _ _ a2) (not_nil _), cell_kept a3 m (World.block_lt_of_cell? _ _ a3) (not_nil _), cell_kept a4 m (World.block_lt_of_cell? _ _ a4) (not_nil _), cell_kept a5 m (World.block_lt_of_cell? _ _ a5) (not_nil _), cell_kept a6 m (World.block_lt_of_cell? _ _ a6) (not_nil _), cell_kept a7 m (World.block_lt_of_cell? _ _ a7) (not_nil _), cell_kept x0 m (World.block_lt_of_cell? _ _ x0) (not_nil _), cell_kept xk m (World.block_lt_of_cell? _ _ xk) (not_nil _)⟩)
  have hnp2 : ¬ np < 2 := by omega
  clear hnlp hlt
  go_wp2_with fail
  go_loopw [16] (fun v wr => ∃ i : Nat, 1 ≤ i ∧ i ≤ np ∧ v = .int .i64 i ∧ Hid (Mod nil w5 wr)) (fun v _ => np - (intOf v).toNat)
  case atStart => exact ⟨1, by omega, by omega, rfl, Lib.hid (Mod.refl _ _)⟩
  case round =>
    obtain ⟨i, hi1, hi, rfl, HMR⟩ := hrel
    clear a0 a1 a2 a3 a4 a5 a6 a7 x0 xk
    obtain ⟨a0, a1, a2, a3, a4, a5, a6, a7, x0, xk⟩ := HKEEP.out wr HMR.out
    by_cases hlt : i < np
    · obtain ⟨j, hj⟩ : ∃ j, i - 1 = j := ⟨_, rfl⟩
      have hjn : j < np := by omega
      have z1 := HQ5.out j hjn
      have z2 := HQ5.out i hlt
      have hdf := HDIFF.out j (by omega)
      rw [show j + 1 = i by omega] at hdf
      obtain ⟨u1, hu1⟩ : ∃ y, dl.getD j 0 = y := ⟨_, rfl⟩
      obtain ⟨u2, hu2⟩ : ∃ y, dl.getD i 0 = y := ⟨_, rfl⟩
      rw [hu1] at z1 hdf
      rw [hu2] at z2 hdf
      have z1 := cell_kept z1 HMR.out (World.block_lt_of_cell? _ _ z1) (not_nil _)
      have z2 := cell_kept z2 HMR.out (World.block_lt_of_cell? _ _ z2) (not_nil _)
      have f5 : IntKind.i64.wrap ((i : Int) - 1) = (j : Int) := by rw [IntKind.wrap_i64]; omega
      have f6 : IntKind.i64.wrap (u1 - u2) = gg := by rw [hdf, IntKind.wrap_i64]; omega
      have f7 : (gg != gg) = false := by simp
      clear hdf hu1 hu2 hj
      go_upto_region 14 with (fail)
      go_quiet (fail)
      clear f5 f6 z1 z2
      go_wp2_with fail
      exact ⟨⟨i + 1, by omega, by omega, by go_num, Lib.hid (HMR.out.drewN _)⟩, by simp [intOf]; omega⟩
    · obtain rfl : np = i := by omega
      have MR := HMR.out
      have hkn : np = K + 1 := by have := HKN.out; omega
      have hlast : yk = start + ((2 * (np : Int) + 3) * (wait + 1) + 4 * eps) := by
        rw [← HYK.out, HL3.out K (by omega)]
        unfold ladAt ladTop
        rw [show np - 1 - K = 0 by omega]
        simp
      have hy0k : y0 = yk + (K : Int) * gg := by
        rw [← HY0.out, ← HYK.out, HL3.out 0 (by omega), HL3.out K (by omega)]
        unfold ladAt
        rw [show np - 1 - K = 0 by omega, show np - 1 - 0 = K by omega, HGAP.out, ← HG.out.2.2]
        simp
      have hKg : 0 ≤ (K : Int) * gg := Int.mul_nonneg (by omega) hggb.1
      have hKg2 : (K : Int) * gg ≤ 16 * gg := Int.mul_le_mul_of_nonneg_right (by omega) hggb.1
      have hprod : 0 ≤ (2 * (np : Int) + 1) * (wait + 1) := Int.mul_nonneg (by omega) (by omega)
      have hprod2 : (2 * (np : Int) + 1) * (wait + 1) ≤ 33 * (wait + 1) := Int.mul_le_mul_of_nonneg_right (by omega) (by omega)
      have hprod3 : (2 * (np : Int) + 3) * (wait + 1) = (2 * (np : Int) + 1) * (wait + 1) + 2 * (wait + 1) := by rw [show 2 * (np : Int) + 3 = (2 * (np : Int) + 1) + 2 by omega, Int.add_mul]
      obtain ⟨q1, hq1⟩ : ∃ x, 2 * (np : Int) = x := ⟨_, rfl⟩
      obtain ⟨q2, hq2⟩ : ∃ x, q1 + 1 = x := ⟨_, rfl⟩
      obtain ⟨q3, hq3⟩ : ∃ x, wait + 1 = x := ⟨_, rfl⟩
      rw [hq1, hq3] at hprod3 hlast
      rw [hq1, hq2, hq3] at hprod hprod2
      rw [hq2] at hprod3
      obtain ⟨q4, hq4⟩ : ∃ x, q2 * q3 = x := ⟨_, rfl⟩
      rw [hq4] at hprod hprod2 hprod3
      rw [hprod3] at hlast
      obtain ⟨q5, hq5⟩ : ∃ x, start + q4 = x := ⟨_, rfl⟩
      obtain ⟨q6, hq6⟩ : ∃ x, q5 + eps = x := ⟨_, rfl⟩
      obtain ⟨q7, hq7⟩ : ∃ x, q6 + e2 = x := ⟨_, rfl⟩
      obtain ⟨q8, hq8⟩ : ∃ x, q7 + wait = x := ⟨_, rfl⟩
      obtain ⟨q9, hq9⟩ : ∃ x, q8 + 1 = x := ⟨_, rfl⟩
      obtain ⟨he2, hwt2, hgg⟩ := HG.out
      have g0 : IntKind.i64.wrap ((np : Int) - 1) = (K : Int) := by rw [IntKind.wrap_i64]; omega
      have g1 : IntKind.i64.wrap (2 * (np : Int)) = q1 := by rw [hq1, IntKind.wrap_i64]; omega
      have g2 : IntKind.i64.wrap (q1 + 1) = q2 := by rw [hq2, IntKind.wrap_i64]; omega
      have g3 : IntKind.i64.wrap (wait + 1) = q3 := by rw [hq3, IntKind.wrap_i64]; omega
      have g4 : IntKind.i64.wrap (q2 * q3) = q4 := by rw [hq4, IntKind.wrap_i64]; omega
      have g5 : IntKind.i64.wrap (start + q4) = q5 := by rw [hq5, IntKind.wrap_i64]; omega
      have g6 : IntKind.i64.wrap (q5 + eps) = q6 := by rw [hq6, IntKind.wrap_i64]; omega
      have g7 : IntKind.i64.wrap (q6 + e2) = q7 := by rw [hq7, IntKind.wrap_i64]; omega
      have g8 : IntKind.i64.wrap (q7 + wait) = q8 := by rw [hq8, IntKind.wrap_i64]; omega
      have g9 : IntKind.i64.wrap (q8 + 1) = q9 := by rw [hq9, IntKind.wrap_i64]; omega
      have g10 : decide (yk ≤ q9) = false := decide_eq_false (by omega)
      obtain ⟨v1, hv1⟩ : ∃ x, y0 + wt2 = x := ⟨_, rfl⟩
      obtain ⟨v2, hv2⟩ : ∃ x, v1 + e2 = x := ⟨_, rfl⟩
      obtain ⟨v3, hv3⟩ : ∃ x, v2 + 4 = x := ⟨_, rfl⟩
      have g11 : IntKind.i64.wrap (y0 + wt2) = v1 := by rw [hv1, IntKind.wrap_i64]; omega
      have g12 : IntKind.i64.wrap (v1 + e2) = v2 := by rw [hv2, IntKind.wrap_i64]; omega
      have g13 : decide (v3 ≤ v2) = false := decide_eq_false (by omega)
      have hKn : K < np := by omega
      have h0n : 0 < np := by omega
      have hend : Pl.endT ⟨deal, ps, ls, H, start, eps, wait, dl⟩ = v3 := by
        have hd := HDLN.out
        unfold Pl.endT
        simp only
        rw [if_neg (by intro h; rw [h] at hd; simp at hd; omega), HY0.out]
        omega
      have HEND : Hid (∀ W, Mod nil w5 W → Calls Try.prog 14 #[.agg #[.int .i64 deal, .slice p1 np c1, .slice p2 np c2, .string ⟨H.toArray⟩, .int .i64 start, .int .i64 eps, .int .i64 wait, .slice (some ⟨gd, od, none⟩) np c7]] W fun e w' => e = .returned (.int .i64 v3) ∧ Mod nil w5 w') := Lib.hid (fun W m => by
        have h := planEnd _ _ _ W (HPL5.out.modNil m) (fun _ => ⟨t1, by simp only; omega, by simp only; omega, by simp only; omega, by simp only; rw [HY0.out]; exact ⟨by omega, by have := HL2.out; unfold ladTop at this; rw [HGAP.out, show np - 1 = K by omega, ← hgg] at this; rw [hq1, hq3, hprod3] at this; omega⟩⟩)
        rw [hend] at h
        exact h.mono (fun e w' ⟨a, b⟩ => ⟨a, m.thenNil b⟩))
      have hfew : Pl.few ⟨deal, ps, ls, H, start, eps, wait, dl⟩ := ⟨by simp only; have := HPL.out; omega, by simp only; have := HLL.out; omega, by simp only; have := HDLN.out; omega, fun l hl => by have := HFW.out l hl; omega⟩
      have hz : H.length ≤ 1000000000 := by have := HH32.out; omega
      have HCHK : Hid (∀ W, Mod nil w5 W → Calls Try.prog 16 #[.agg #[.int .i64 deal, .slice p1 np c1, .slice p2 np c2, .string ⟨H.toArray⟩, .int .i64 start, .int .i64 eps, .int .i64 wait, .slice (some ⟨gd, od, none⟩) np c7], .int .i64 16, .int .i64 4, .int .i64 4] W fun e w' => e = .returned (.int .i64 0) ∧ Mod nil w5 w') := Lib.hid (fun W m => by
        have h := planCheck _ _ _ 16 4 4 W (HPL5.out.modNil m) hfew hz
        rw [HCK.out] at h
        exact h.mono (fun e w' ⟨a, b⟩ => ⟨a, m.thenNil b⟩))
      have HENC : Hid (∀ W, Mod nil w5 W → Calls Try.prog 21 #[.agg #[.int .i64 deal, .slice p1 np c1, .slice p2 np c2, .string ⟨H.toArray⟩, .int .i64 start, .int .i64 eps, .int .i64 wait, .slice (some ⟨gd, od, none⟩) np c7]] W fun e w' => ∃ vb, e = .returned (.tuple #[vb, .int .i64 0]) ∧ IsVec (fun k => W.heap.size ≤ k) w' 5 1 vb (Pl.bytes ⟨deal, ps, ls, H, start, eps, wait, dl⟩).length (bys (Pl.bytes ⟨deal, ps, ls, H, start, eps, wait, dl⟩)) ∧ Mod nil w5 w') := Lib.hid (fun W m => by
        have h := planEncode _ _ _ W (HPL5.out.modNil m) hfew hz
        rw [show encF ⟨deal, ps, ls, H, start, eps, wait, dl⟩ = (Pl.bytes ⟨deal, ps, ls, H, start, eps, wait, dl⟩, 0) from if_pos HCK.out] at h
        exact h.mono (fun e w' ⟨vb, a, b, c⟩ => ⟨vb, a, b, m.thenNil c⟩))
      have hbl : (Pl.bytes ⟨deal, ps, ls, H, start, eps, wait, dl⟩).length ≤ 1000000 := by
        have h := bytes_length ⟨deal, ps, ls, H, start, eps, wait, dl⟩ HCK.out
        omega
      have HBL := Lib.hid hbl
      have HFE := Lib.hid hfew
      clear hlast hy0k hKg hKg2 hprod hprod2 hprod3 hq1 hq2 hq3 hq4 hq5 hq6 hq7 hq8 hq9 he2 hwt2 hgg hv1 hv2 hv3 hend hkn hfew hz hbl HL3 HL2 HGAP HDIFF HQ5
      go_upto_region 16 with (fail)
      refine wp_region_held_drew (S := (fun w' => w'.cell? ⟨t, 0, none⟩ = some (.int .i64 deal) ∧ w'.cell? ⟨t, 1, none⟩ = some (.slice p1 np c1) ∧ w'.cell? ⟨t, 2, none⟩ = some (.slice p2 np c2) ∧ w'.cell? ⟨t, 3, none⟩ = some (.string ⟨H.toArray⟩) ∧ w'.cell? ⟨t, 4, none⟩ = some (.int .i64 start) ∧ w'.cell? ⟨t, 5, none⟩ = some (.int .i64 eps) ∧ w'.cell? ⟨t, 6, none⟩ = some (.int .i64 wait) ∧ w'.cell? ⟨t, 7, none⟩ = some (.slice (some ⟨gd, od, none⟩) np c7) ∧ w'.cell? ⟨gd, od, none⟩ = some (.int .i64 y0) ∧ w'.cell? ⟨gd, od + K, none⟩ = some (.int .i64 yk))) (by kernel_rfl) (⟨a0, a1, a2, a3, a4, a5, a6, a7, x0, xk⟩) (fun hHeld => ?_)
      refine wpAnyH_take (i := 0) (v := ?_) rfl (by kernel_rfl) (by kernel_rfl) (by kernel_rfl) (fun _ _ _ h => h) (Or.inl ⟨by kernel_rfl, ?_⟩) (by assumption) ?_
      rotate_left
      · intro w hSw; (try dsimp only at hSw); (first | (go_simp; done) | (go_simp; with_reducible rfl))
      (try simp only [Act.put, List.getElem_toArray, List.getElem_cons_succ, List.getElem_cons_zero, List.setIfInBounds_toArray, List.set_cons_succ, List.set_cons_zero])
      refine wpAnyH_take (i := 1) (v := ?_) rfl (by kernel_rfl) (by kernel_rfl) (by kernel_rfl) (fun _ _ _ h => h) (Or.inl ⟨by kernel_rfl, ?_⟩) (by assumption) ?_
      rotate_left
      · intro w hSw; (try dsimp only at hSw); (first | (go_simp; done) | (go_simp; with_reducible rfl))
      (try simp only [Act.put, List.getElem_toArray, List.getElem_cons_succ, List.getElem_cons_zero, List.setIfInBounds_toArray, List.set_cons_succ, List.set_cons_zero])
      refine wpAnyH_take (i := 2) (v := ?_) rfl (by kernel_rfl) (by kernel_rfl) (by kernel_rfl) (fun _ _ _ h => h) (Or.inl ⟨by kernel_rfl, ?_⟩) (by assumption) ?_
      rotate_left
      · intro w hSw; (try dsimp only at hSw); (first | (go_simp; done) | (go_simp; with_reducible rfl))
      (try simp only [Act.put, List.getElem_toArray, List.getElem_cons_succ, List.getElem_cons_zero, List.setIfInBounds_toArray, List.set_cons_succ, List.set_cons_zero])
      refine wpAnyH_take (i := 3) (v := ?_) rfl (by kernel_rfl) (by kernel_rfl) (by kernel_rfl) (fun _ _ _ h => h) (Or.inl ⟨by kernel_rfl, ?_⟩) (by assumption) ?_
      rotate_left
      · intro w hSw; (try dsimp only at hSw); (first | (go_simp; done) | (go_simp; with_reducible rfl))
      (try simp only [Act.put, List.getElem_toArray, List.getElem_cons_succ, List.getElem_cons_zero, List.setIfInBounds_toArray, List.set_cons_succ, List.set_cons_zero])
      refine wpAnyH_take (i := 4) (v := ?_) rfl (by kernel_rfl) (by kernel_rfl) (by kernel_rfl) (fun _ _ _ h => h) (Or.inl ⟨by kernel_rfl, ?_⟩) (by assumption) ?_
      rotate_left
      · intro w hSw; (try dsimp only at hSw); (first | (go_simp; done) | (go_simp; with_reducible rfl))
      (try simp only [Act.put, List.getElem_toArray, List.getElem_cons_succ, List.getElem_cons_zero, List.setIfInBounds_toArray, List.set_cons_succ, List.set_cons_zero])
      refine wpAnyH_take (i := 5) (v := ?_) rfl (by kernel_rfl) (by kernel_rfl) (by kernel_rfl) (fun _ _ _ h => h) (Or.inl ⟨by kernel_rfl, ?_⟩) (by assumption) ?_
      rotate_left
      · intro w hSw; (try dsimp only at hSw); (first | (go_simp; done) | (go_simp; with_reducible rfl))
      (try simp only [Act.put, List.getElem_toArray, List.getElem_cons_succ, List.getElem_cons_zero, List.setIfInBounds_toArray, List.set_cons_succ, List.set_cons_zero])
      refine wpAnyH_take (i := 6) (v := ?_) rfl (by kernel_rfl) (by kernel_rfl) (by kernel_rfl) (fun _ _ _ h => h) (Or.inl ⟨by kernel_rfl, ?_⟩) (by assumption) ?_
      rotate_left
      · intro w hSw; (try dsimp only at hSw); (first | (go_simp; done) | (go_simp; with_reducible rfl))
      (try simp only [Act.put, List.getElem_toArray, List.getElem_cons_succ, List.getElem_cons_zero, List.setIfInBounds_toArray, List.set_cons_succ, List.set_cons_zero])
      refine wpAnyH_take (i := 7) (v := ?_) rfl (by kernel_rfl) (by kernel_rfl) (by kernel_rfl) (fun _ _ _ h => h) (Or.inl ⟨by kernel_rfl, ?_⟩) (by assumption) ?_
      rotate_left
      · intro w hSw; (try dsimp only at hSw); (first | (go_simp; done) | (go_simp; with_reducible rfl))
      (try simp only [Act.put, List.getElem_toArray, List.getElem_cons_succ, List.getElem_cons_zero, List.setIfInBounds_toArray, List.set_cons_succ, List.set_cons_zero])
      refine wpAnyH_take (i := 8) (v := ?_) rfl (by kernel_rfl) (by kernel_rfl) (by kernel_rfl) (fun _ _ _ h => h) (Or.inl ⟨by kernel_rfl, ?_⟩) (by assumption) ?_
      rotate_left
      · intro w hSw; (try dsimp only at hSw); (first | (go_simp; done) | (go_simp; with_reducible rfl))
      (try simp only [Act.put, List.getElem_toArray, List.getElem_cons_succ, List.getElem_cons_zero, List.setIfInBounds_toArray, List.set_cons_succ, List.set_cons_zero])
      refine wpAnyH_take (i := 9) (v := ?_) rfl (by kernel_rfl) (by kernel_rfl) (by kernel_rfl) (fun _ _ _ h => h) (Or.inl ⟨by kernel_rfl, ?_⟩) (by assumption) ?_
      rotate_left
      · intro w hSw; (try dsimp only at hSw); (first | (go_simp; done) | (go_simp; with_reducible rfl))
      (try simp only [Act.put, List.getElem_toArray, List.getElem_cons_succ, List.getElem_cons_zero, List.setIfInBounds_toArray, List.set_cons_succ, List.set_cons_zero])
      refine wpAnyH_take (i := 10) (v := ?_) rfl (by kernel_rfl) (by kernel_rfl) (by kernel_rfl) (fun _ _ _ h => h) (Or.inl ⟨by kernel_rfl, ?_⟩) (by assumption) ?_
      rotate_left
      · intro w hSw; (try dsimp only at hSw); (first | (go_simp; done) | (go_simp; with_reducible rfl))
      (try simp only [Act.put, List.getElem_toArray, List.getElem_cons_succ, List.getElem_cons_zero, List.setIfInBounds_toArray, List.set_cons_succ, List.set_cons_zero])
      refine wpAnyH_take (i := 11) (v := ?_) rfl (by kernel_rfl) (by kernel_rfl) (by kernel_rfl) (fun _ _ _ h => h) (Or.inl ⟨by kernel_rfl, ?_⟩) (by assumption) ?_
      rotate_left
      · intro w hSw; (try dsimp only at hSw); (first | (go_simp; done) | (go_simp; with_reducible rfl))
      (try simp only [Act.put, List.getElem_toArray, List.getElem_cons_succ, List.getElem_cons_zero, List.setIfInBounds_toArray, List.set_cons_succ, List.set_cons_zero])
      refine wpAnyH_take (i := 12) (v := ?_) rfl (by kernel_rfl) (by kernel_rfl) (by kernel_rfl) (fun _ _ _ h => h) (Or.inl ⟨by kernel_rfl, ?_⟩) (by assumption) ?_
      rotate_left
      · intro w hSw; (try dsimp only at hSw); (first | (go_simp; done) | (go_simp; with_reducible rfl))
      (try simp only [Act.put, List.getElem_toArray, List.getElem_cons_succ, List.getElem_cons_zero, List.setIfInBounds_toArray, List.set_cons_succ, List.set_cons_zero])
      refine wpAnyH_take (i := 13) (v := ?_) rfl (by kernel_rfl) (by kernel_rfl) (by kernel_rfl) (fun _ _ _ h => h) (Or.inl ⟨by kernel_rfl, ?_⟩) (by assumption) ?_
      rotate_left
      · intro w hSw; (try dsimp only at hSw); (first | (go_simp; done) | (go_simp; with_reducible rfl))
      (try simp only [Act.put, List.getElem_toArray, List.getElem_cons_succ, List.getElem_cons_zero, List.setIfInBounds_toArray, List.set_cons_succ, List.set_cons_zero])
      refine wpAnyH_take (i := 14) (v := ?_) rfl (by kernel_rfl) (by kernel_rfl) (by kernel_rfl) (fun _ _ _ h => h) (Or.inl ⟨by kernel_rfl, ?_⟩) (by assumption) ?_
      rotate_left
      · intro w hSw; (try dsimp only at hSw); (first | (go_simp; done) | (go_simp; with_reducible rfl))
      (try simp only [Act.put, List.getElem_toArray, List.getElem_cons_succ, List.getElem_cons_zero, List.setIfInBounds_toArray, List.set_cons_succ, List.set_cons_zero])
      refine wpAnyH_take (i := 15) (v := ?_) rfl (by kernel_rfl) (by kernel_rfl) (by kernel_rfl) (fun _ _ _ h => h) (Or.inl ⟨by kernel_rfl, ?_⟩) (by assumption) ?_
      rotate_left
      · intro w hSw; (try dsimp only at hSw); (first | (go_simp; done) | (go_simp; with_reducible rfl))
      (try simp only [Act.put, List.getElem_toArray, List.getElem_cons_succ, List.getElem_cons_zero, List.setIfInBounds_toArray, List.set_cons_succ, List.set_cons_zero])
      refine wpAnyH_take (i := 16) (v := ?_) rfl (by kernel_rfl) (by kernel_rfl) (by kernel_rfl) (fun _ _ _ h => h) (Or.inl ⟨by kernel_rfl, ?_⟩) (by assumption) ?_
      rotate_left
      · intro w hSw; (try dsimp only at hSw); (first | (go_simp; done) | (go_simp; with_reducible rfl))
      (try simp only [Act.put, List.getElem_toArray, List.getElem_cons_succ, List.getElem_cons_zero, List.setIfInBounds_toArray, List.set_cons_succ, List.set_cons_zero])
      refine wpAnyH_take (i := 17) (v := ?_) rfl (by kernel_rfl) (by kernel_rfl) (by kernel_rfl) (fun _ _ _ h => h) (Or.inl ⟨by kernel_rfl, ?_⟩) (by assumption) ?_
      rotate_left
      · intro w hSw; (try dsimp only at hSw); (first | (go_simp; done) | (go_simp; with_reducible rfl))
      (try simp only [Act.put, List.getElem_toArray, List.getElem_cons_succ, List.getElem_cons_zero, List.setIfInBounds_toArray, List.set_cons_succ, List.set_cons_zero])
      refine wpAnyH_take (i := 18) (v := ?_) rfl (by kernel_rfl) (by kernel_rfl) (by kernel_rfl) (fun _ _ _ h => h) (Or.inl ⟨by kernel_rfl, ?_⟩) (by assumption) ?_
      rotate_left
      · intro w hSw; (try dsimp only at hSw); (first | (go_simp; done) | (go_simp; with_reducible rfl))
      (try simp only [Act.put, List.getElem_toArray, List.getElem_cons_succ, List.getElem_cons_zero, List.setIfInBounds_toArray, List.set_cons_succ, List.set_cons_zero])
      refine wpAnyH_take (i := 19) (v := ?_) rfl (by kernel_rfl) (by kernel_rfl) (by kernel_rfl) (fun _ _ _ h => h) (Or.inl ⟨by kernel_rfl, ?_⟩) (by assumption) ?_
      rotate_left
      · intro w hSw; (try dsimp only at hSw); (first | (go_simp; done) | (go_simp; with_reducible rfl))
      (try simp only [Act.put, List.getElem_toArray, List.getElem_cons_succ, List.getElem_cons_zero, List.setIfInBounds_toArray, List.set_cons_succ, List.set_cons_zero])
      refine wpAnyH_take (i := 20) (v := ?_) rfl (by kernel_rfl) (by kernel_rfl) (by kernel_rfl) (fun _ _ _ h => h) (Or.inl ⟨by kernel_rfl, ?_⟩) (by assumption) ?_
      rotate_left
      · intro w hSw; (try dsimp only at hSw); (first | (go_simp; done) | (go_simp; with_reducible rfl))
      (try simp only [Act.put, List.getElem_toArray, List.getElem_cons_succ, List.getElem_cons_zero, List.setIfInBounds_toArray, List.set_cons_succ, List.set_cons_zero])
      refine wpAnyH_take (i := 21) (v := ?_) rfl (by kernel_rfl) (by kernel_rfl) (by kernel_rfl) (fun _ _ _ h => h) (Or.inl ⟨by kernel_rfl, ?_⟩) (by assumption) ?_
      rotate_left
      · intro w hSw; (try dsimp only at hSw); (first | (go_simp; done) | (go_simp; with_reducible rfl))
      (try simp only [Act.put, List.getElem_toArray, List.getElem_cons_succ, List.getElem_cons_zero, List.setIfInBounds_toArray, List.set_cons_succ, List.set_cons_zero])
      refine wpAnyH_take (i := 22) (v := ?_) rfl (by kernel_rfl) (by kernel_rfl) (by kernel_rfl) (fun _ _ _ h => h) (Or.inl ⟨by kernel_rfl, ?_⟩) (by assumption) ?_
      rotate_left
      · intro w hSw; (try dsimp only at hSw); (first | (go_simp; done) | (go_simp; with_reducible rfl))
      (try simp only [Act.put, List.getElem_toArray, List.getElem_cons_succ, List.getElem_cons_zero, List.setIfInBounds_toArray, List.set_cons_succ, List.set_cons_zero])
      refine wpAnyH_take (i := 23) (v := ?_) rfl (by kernel_rfl) (by kernel_rfl) (by kernel_rfl) (fun _ _ _ h => h) (Or.inl ⟨by kernel_rfl, ?_⟩) (by assumption) ?_
      rotate_left
      · intro w hSw; (try dsimp only at hSw); (first | (go_simp; done) | (go_simp; with_reducible rfl))
      (try simp only [Act.put, List.getElem_toArray, List.getElem_cons_succ, List.getElem_cons_zero, List.setIfInBounds_toArray, List.set_cons_succ, List.set_cons_zero])
      refine wpAnyH_take (i := 24) (v := ?_) rfl (by kernel_rfl) (by kernel_rfl) (by kernel_rfl) (fun _ _ _ h => h) (Or.inl ⟨by kernel_rfl, ?_⟩) (by assumption) ?_
      rotate_left
      · intro w hSw; (try dsimp only at hSw); (first | (go_simp; done) | (go_simp; with_reducible rfl))
      (try simp only [Act.put, List.getElem_toArray, List.getElem_cons_succ, List.getElem_cons_zero, List.setIfInBounds_toArray, List.set_cons_succ, List.set_cons_zero])
      refine wpAnyH_take (i := 26) (v := ?_) rfl (by kernel_rfl) (by kernel_rfl) (by kernel_rfl) (fun _ _ _ h => h) (Or.inl ⟨by kernel_rfl, ?_⟩) (by assumption) ?_
      rotate_left
      · intro w hSw; (try dsimp only at hSw); (first | (go_simp; done) | (go_simp; with_reducible rfl))
      (try simp only [Act.put, List.getElem_toArray, List.getElem_cons_succ, List.getElem_cons_zero, List.setIfInBounds_toArray, List.set_cons_succ, List.set_cons_zero])
      refine wpAnyH_take (i := 27) (v := ?_) rfl (by kernel_rfl) (by kernel_rfl) (by kernel_rfl) (fun _ _ _ h => h) (Or.inl ⟨by kernel_rfl, ?_⟩) (by assumption) ?_
      rotate_left
      · intro w hSw; (try dsimp only at hSw); (first | (go_simp; done) | (go_simp; with_reducible rfl))
      (try simp only [Act.put, List.getElem_toArray, List.getElem_cons_succ, List.getElem_cons_zero, List.setIfInBounds_toArray, List.set_cons_succ, List.set_cons_zero])
      refine wpAnyH_take (i := 28) (v := ?_) rfl (by kernel_rfl) (by kernel_rfl) (by kernel_rfl) (fun _ _ _ h => h) (Or.inl ⟨by kernel_rfl, ?_⟩) (by assumption) ?_
      rotate_left
      · intro w hSw; (try dsimp only at hSw); (first | (go_simp; done) | (go_simp; with_reducible rfl))
      (try simp only [Act.put, List.getElem_toArray, List.getElem_cons_succ, List.getElem_cons_zero, List.setIfInBounds_toArray, List.set_cons_succ, List.set_cons_zero])
      refine wpAnyH_take (i := 29) (v := ?_) rfl (by kernel_rfl) (by kernel_rfl) (by kernel_rfl) (fun _ _ _ h => h) (Or.inl ⟨by kernel_rfl, ?_⟩) (by assumption) ?_
      rotate_left
      · intro w hSw; (try dsimp only at hSw); (first | (go_simp; done) | (go_simp; with_reducible rfl))
      (try simp only [Act.put, List.getElem_toArray, List.getElem_cons_succ, List.getElem_cons_zero, List.setIfInBounds_toArray, List.set_cons_succ, List.set_cons_zero])
      refine wpAnyH_take (i := 30) (v := ?_) rfl (by kernel_rfl) (by kernel_rfl) (by kernel_rfl) (fun _ _ _ h => h) (Or.inl ⟨by kernel_rfl, ?_⟩) (by assumption) ?_
      rotate_left
      · intro w hSw; (try dsimp only at hSw); (first | (go_simp; done) | (go_simp; with_reducible rfl))
      (try simp only [Act.put, List.getElem_toArray, List.getElem_cons_succ, List.getElem_cons_zero, List.setIfInBounds_toArray, List.set_cons_succ, List.set_cons_zero])
      refine wpAnyH_take (i := 31) (v := ?_) rfl (by kernel_rfl) (by kernel_rfl) (by kernel_rfl) (fun _ _ _ h => h) (Or.inl ⟨by kernel_rfl, ?_⟩) (by assumption) ?_
      rotate_left
      · intro w hSw; (try dsimp only at hSw); (first | (go_simp; done) | (go_simp; with_reducible rfl))
      (try simp only [Act.put, List.getElem_toArray, List.getElem_cons_succ, List.getElem_cons_zero, List.setIfInBounds_toArray, List.set_cons_succ, List.set_cons_zero])
      refine wpAnyH_take (i := 32) (v := ?_) rfl (by kernel_rfl) (by kernel_rfl) (by kernel_rfl) (fun _ _ _ h => h) (Or.inl ⟨by kernel_rfl, ?_⟩) (by assumption) ?_
      rotate_left
      · intro w hSw; (try dsimp only at hSw); (first | (go_simp; done) | (go_simp; with_reducible rfl))
      (try simp only [Act.put, List.getElem_toArray, List.getElem_cons_succ, List.getElem_cons_zero, List.setIfInBounds_toArray, List.set_cons_succ, List.set_cons_zero])
      refine wpAnyH_take (i := 33) (v := ?_) rfl (by kernel_rfl) (by kernel_rfl) (by kernel_rfl) (fun _ _ _ h => h) (Or.inl ⟨by kernel_rfl, ?_⟩) (by assumption) ?_
      rotate_left
      · intro w hSw; (try dsimp only at hSw); (first | (go_simp; done) | (go_simp; with_reducible rfl))
      (try simp only [Act.put, List.getElem_toArray, List.getElem_cons_succ, List.getElem_cons_zero, List.setIfInBounds_toArray, List.set_cons_succ, List.set_cons_zero])
      refine wpAnyH_take (i := 34) (v := ?_) rfl (by kernel_rfl) (by kernel_rfl) (by kernel_rfl) (fun _ _ _ h => h) (Or.inl ⟨by kernel_rfl, ?_⟩) (by assumption) ?_
      rotate_left
      · intro w hSw; (try dsimp only at hSw); (first | (go_simp; done) | (go_simp; with_reducible rfl))
      (try simp only [Act.put, List.getElem_toArray, List.getElem_cons_succ, List.getElem_cons_zero, List.setIfInBounds_toArray, List.set_cons_succ, List.set_cons_zero])
      refine wpAnyH_take (i := 35) (v := ?_) rfl (by kernel_rfl) (by kernel_rfl) (by kernel_rfl) (fun _ _ _ h => h) (Or.inl ⟨by kernel_rfl, ?_⟩) (by assumption) ?_
      rotate_left
      · intro w hSw; (try dsimp only at hSw); (first | (go_simp; done) | (go_simp; with_reducible rfl))
      (try simp only [Act.put, List.getElem_toArray, List.getElem_cons_succ, List.getElem_cons_zero, List.setIfInBounds_toArray, List.set_cons_succ, List.set_cons_zero])
      refine wpAnyH_ready (rs := [25]) (by kernel_rfl) (by simp) ?_
      refine AllReadyH.cons (i := 25) rfl (fun K hK => ?_) AllReadyH.nil
      (try dsimp (config := { proj := false }) only [List.getElem_toArray, List.getElem_cons_succ, List.getElem_cons_zero])
      go_simp
      refine (HEND.out _ ?_).mono ?_
      · (repeat (first | exact MR | refine Mod.drew ?_))
      rintro e w8 ⟨rfl, m8⟩
      clear a0 a1 a2 a3 a4 a5 a6 a7 x0 xk
      obtain ⟨a0, a1, a2, a3, a4, a5, a6, a7, x0, xk⟩ := HKEEP.out w8 m8
      refine hK.out _ _ ⟨a0, a1, a2, a3, a4, a5, a6, a7, x0, xk⟩ (fun hHeld => ?_)
      clear hK K
      (try simp only [Act.put, List.setIfInBounds_toArray, List.set_cons_zero, List.set_cons_succ])
      (try simp only [List.set_cons_succ, List.set_cons_zero])
      refine wpAnyH_take (i := 36) (v := ?_) rfl (by kernel_rfl) (by kernel_rfl) (by kernel_rfl) (fun _ _ _ h => h) (Or.inl ⟨by kernel_rfl, ?_⟩) (by assumption) ?_
      rotate_left
      · intro w hSw; (try dsimp only at hSw); (first | (go_simp; done) | (go_simp; with_reducible rfl))
      (try simp only [Act.put, List.getElem_toArray, List.getElem_cons_succ, List.getElem_cons_zero, List.setIfInBounds_toArray, List.set_cons_succ, List.set_cons_zero])
      refine wpAnyH_take (i := 37) (v := ?_) rfl (by kernel_rfl) (by kernel_rfl) (by kernel_rfl) (fun _ _ _ h => h) (Or.inl ⟨by kernel_rfl, ?_⟩) (by assumption) ?_
      rotate_left
      · intro w hSw; (try dsimp only at hSw); (first | (go_simp; done) | (go_simp; with_reducible rfl))
      (try simp only [Act.put, List.getElem_toArray, List.getElem_cons_succ, List.getElem_cons_zero, List.setIfInBounds_toArray, List.set_cons_succ, List.set_cons_zero])
      refine wpAnyH_take (i := 38) (v := ?_) rfl (by kernel_rfl) (by kernel_rfl) (by kernel_rfl) (fun _ _ _ h => h) (Or.inl ⟨by kernel_rfl, ?_⟩) (by assumption) ?_
      rotate_left
      · intro w hSw; (try dsimp only at hSw); (first | (go_simp; done) | (go_simp; with_reducible rfl))
      (try simp only [Act.put, List.getElem_toArray, List.getElem_cons_succ, List.getElem_cons_zero, List.setIfInBounds_toArray, List.set_cons_succ, List.set_cons_zero])
      refine wpAnyH_take (i := 39) (v := ?_) rfl (by kernel_rfl) (by kernel_rfl) (by kernel_rfl) (fun _ _ _ h => h) (Or.inl ⟨by kernel_rfl, ?_⟩) (by assumption) ?_
      rotate_left
      · intro w hSw; (try dsimp only at hSw); (first | (go_simp; done) | (go_simp; with_reducible rfl))
      (try simp only [Act.put, List.getElem_toArray, List.getElem_cons_succ, List.getElem_cons_zero, List.setIfInBounds_toArray, List.set_cons_succ, List.set_cons_zero])
      refine wpAnyH_ready (rs := [40]) (by kernel_rfl) (by simp) ?_
      refine AllReadyH.cons (i := 40) rfl (fun K hK => ?_) AllReadyH.nil
      (try dsimp (config := { proj := false }) only [List.getElem_toArray, List.getElem_cons_succ, List.getElem_cons_zero])
      go_simp
      refine (HCHK.out w8 m8).mono ?_
      rintro e w9 ⟨rfl, m9⟩
      clear a0 a1 a2 a3 a4 a5 a6 a7 x0 xk
      obtain ⟨a0, a1, a2, a3, a4, a5, a6, a7, x0, xk⟩ := HKEEP.out w9 m9
      refine hK.out _ _ ⟨a0, a1, a2, a3, a4, a5, a6, a7, x0, xk⟩ (fun hHeld => ?_)
      clear hK K
      (try simp only [Act.put, List.setIfInBounds_toArray, List.set_cons_zero, List.set_cons_succ])
      (try simp only [List.set_cons_succ, List.set_cons_zero])
      refine wpAnyH_take (i := 41) (v := ?_) rfl (by kernel_rfl) (by kernel_rfl) (by kernel_rfl) (fun _ _ _ h => h) (Or.inl ⟨by kernel_rfl, ?_⟩) (by assumption) ?_
      rotate_left
      · intro w hSw; (try dsimp only at hSw); (first | (go_simp; done) | (go_simp; with_reducible rfl))
      (try simp only [Act.put, List.getElem_toArray, List.getElem_cons_succ, List.getElem_cons_zero, List.setIfInBounds_toArray, List.set_cons_succ, List.set_cons_zero])
      refine wpAnyH_take (i := 42) (v := ?_) rfl (by kernel_rfl) (by kernel_rfl) (by kernel_rfl) (fun _ _ _ h => h) (Or.inl ⟨by kernel_rfl, ?_⟩) (by assumption) ?_
      rotate_left
      · intro w hSw; (try dsimp only at hSw); (first | (go_simp; done) | (go_simp; with_reducible rfl))
      (try simp only [Act.put, List.getElem_toArray, List.getElem_cons_succ, List.getElem_cons_zero, List.setIfInBounds_toArray, List.set_cons_succ, List.set_cons_zero])
      refine wpAnyH_done (by kernel_rfl) ?_ _
      clear f1 f2 f3 f4 g0 g1 g2 g3 g4 g5 g6 g7 g8 g9 g10 g11 g12 g13 m8
      go_wp2_with fail
      refine (HENC.out _ ?_).mono ?_
      · (repeat (first | exact m9 | refine Mod.drew ?_))
      rintro e w10 ⟨vb, rfl, hvb, m10⟩
      clear a0 a1 a2 a3 a4 a5 a6 a7 x0 xk
      obtain ⟨a0, a1, a2, a3, a4, a5, a6, a7, x0, xk⟩ := HKEEP.out w10 m10
      obtain ⟨pv, cv, rfl, hcv1, hcv2⟩ := hvb.capd
      obtain ⟨bn, hbn⟩ : ∃ n, (Pl.bytes ⟨deal, ps, ls, H, start, eps, wait, dl⟩).length = n := ⟨_, rfl⟩
      have hbl := HBL.out
      rw [hbn] at hvb hcv1 hbl ⊢
      have hdec := planDecode _ pv bn cv _ w10 hvb.row (by omega) hcv1 hcv2
      rw [decF_bytes HCK.out] at hdec
      have HDEC := Lib.hid hdec
      clear hvb hcv1 hcv2 hbn hdec
      go_wp2_with fail
      refine HDEC.out.mono ?_
      rintro e w11 ⟨vq, rfl, hplq, m11⟩
      have M11 := m10.thenNil m11
      clear a0 a1 a2 a3 a4 a5 a6 a7 x0 xk
      obtain ⟨a0, a1, a2, a3, a4, a5, a6, a7, x0, xk⟩ := HKEEP.out w11 M11
      obtain ⟨x1, d1, x2, d2, x7, d7, rfl, hx1, hx2, hx3⟩ := id hplq
      have HPQ := Lib.hid hplq
      clear hx1 hx2 hx3 hplq
      simp only at HPQ ⊢
      rw [HPL.out, HNLP.out, HDLN.out] at HPQ ⊢
      go_upto_region 20 with (fail)
      obtain ⟨tq, htq⟩ : ∃ x, w11.heap.size = x := ⟨_, rfl⟩
      (try rw [htq])
      generalize hw12 : World.alloc w11 _ = w12
      have hm12 : Mod nil w11 w12 := by rw [← hw12]; exact (Mod.refl _ _).alloc _
      have hb12 : w12.heap[tq]? = some (.cells #[.int .i64 deal, .slice x1 np d1, .slice x2 np d2, .string ⟨H.toArray⟩, .int .i64 start, .int .i64 eps, .int .i64 wait, .slice x7 np d7] 30 (0, 0)) := by rw [← hw12, ← htq]; exact heap_alloc_new _ _
      have b0 := cell_of hb12 0
      have b1 := cell_of hb12 1
      have b2 := cell_of hb12 2
      have b3 := cell_of hb12 3
      have b4 := cell_of hb12 4
      have b5 := cell_of hb12 5
      have b6 := cell_of hb12 6
      have b7 := cell_of hb12 7
      simp only [List.getElem?_toArray, List.getElem?_cons_zero, List.getElem?_cons_succ] at b0 b1 b2 b3 b4 b5 b6 b7
      have M12 := M11.thenNil hm12
      clear a0 a1 a2 a3 a4 a5 a6 a7 x0 xk
      obtain ⟨a0, a1, a2, a3, a4, a5, a6, a7, x0, xk⟩ := HKEEP.out w12 M12
      have hsame := planSame _ _ _ _ _ _ w12 (HPL5.out.modNil M12) (HPQ.out.modNil hm12) HFE.out
      rw [decide_eq_true rfl] at hsame
      have HSAME := Lib.hid hsame
      have HMF := Lib.hid (HM5.out.thenNil M12)
      clear hw12 hm12 hb12 hsame htq m10 m11 M11 M12
      go_wp2_with fail
      refine (planFirst w12).mono ?_
      rintro e w' ⟨rfl, rfl⟩
      go_wp2_with fail
      refine HSAME.out.mono ?_
      rintro e w13 ⟨rfl, m13⟩
      have HE := Lib.hid (HPOST.out _ w13 ⟨rfl, HMF.out.thenNil m13⟩)
      clear m13
      go_wp2_with fail
      exact HE.out

set_option maxRecDepth 100000 in
theorem walkPlanLadder (v0 v1 v2 v3 v4 v5 : Value) (W : World) (r0 : Rd W 3 v0) (r1 : Rd W 25 v1) (r2 : Rd W 9 v2) (r3 : Rd W 3 v3) (r4 : Rd W 3 v4) (r5 : Rd W 3 v5) :
    Calls Try.prog 7 #[v0, v1, v2, v3, v4, v5] W fun e w' => e = .returned (.bool true) ∧ Below W.heap.size W w' := by
  obtain ⟨deal, rfl, _⟩ := r0.int Try.underlying3
  obtain ⟨pp, np, cp, ps, pl, nl, cl, ls, rfl, h1, h2, h3, h4, h5, h6, h7⟩ := r1.ring
  obtain ⟨s, rfl, hs⟩ := r2.string Try.underlying9
  obtain ⟨start, rfl, _⟩ := r3.int Try.underlying3
  obtain ⟨eps, rfl, _⟩ := r4.int Try.underlying3
  obtain ⟨wait, rfl, _⟩ := r5.int Try.underlying3
  have h := (lawPlanLadder deal start eps wait pp pl np cp nl cl ps ls s.data.toList W h3 h6 h2 h5 (by simp only [Array.length_toList]; exact hs)).mono (fun e w' h => (show e = Ending.returned (.bool true) ∧ Below W.heap.size W w' from ⟨h.1, h.2.below⟩))
  simpa using h
end Go.Proofs.Ytpkhjdhbkkepgaa

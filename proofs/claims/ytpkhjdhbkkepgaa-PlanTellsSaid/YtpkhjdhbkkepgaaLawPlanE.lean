/- cfllaw21: PlanTells. (Printed by wip/tools/gen_lawplane.py.) -/
import Derived.Test.YtpkhjdhbkkepgaaLawPlan
import Derived.Test.YtpkhjdhbkkepgaaRefEncode
import Derived.Test.YtpkhjdhbkkepgaaRefLists
namespace Go.Proofs.Ytpkhjdhbkkepgaa
open Go.ChangeShapes Go.WideShapes Go.ChangeAt Go.RowKit

theorem make_few {deal : Int} {ps : List Int} {ls : List (List It)} {h : List UInt8} {start eps wait : Int} {P : Pl} {er : Int} (hm : makeN deal ps ls h start eps wait = (P, er)) (h1 : ps.length ≤ 1000000) (h2 : ls.length ≤ 1000000) (h3 : ∀ l ∈ ls, l.length ≤ 1000000) (h4 : h.length ≤ 1000000000) : P.few ∧ P.hash.length ≤ 1000000000 := by
  rcases makeN_cases hm with ⟨-, dl, -, hlad, -, rfl⟩ | ⟨-, rfl⟩
  · have := (ladderN_some hlad).1
    exact ⟨⟨h1, h2, by simp only; omega, h3⟩, h4⟩
  · exact ⟨⟨by simp [Pl.zero], by simp [Pl.zero], by simp [Pl.zero], by simp [Pl.zero]⟩, by simp [Pl.zero]⟩
theorem make_end {deal : Int} {ps : List Int} {ls : List (List It)} {h : List UInt8} {start eps wait : Int} {P : Pl} {er : Int} (hm : makeN deal ps ls h start eps wait = (P, er)) : P.dl ≠ [] → (0 ≤ P.eps ∧ P.eps ≤ 100000 ∧ 0 ≤ P.wait ∧ P.wait ≤ 100000 ∧ tickN (P.dl.getD 0 0)) := by
  rcases makeN_cases hm with ⟨-, dl, hmay, hlad, -, rfl⟩ | ⟨-, rfl⟩
  · intro _
    obtain ⟨-, -, ⟨hp2, -, -, -⟩, -, -, ⟨s1, s2⟩, ht⟩ := hmay
    obtain ⟨t1, t2, t3, t4⟩ := id ht
    obtain ⟨-, l2, l3⟩ := ladderN_some hlad
    have g1 : gapN eps wait = 2 * eps + 2 * wait + 2 := if_pos ht
    have hd := l3 0 (by omega)
    unfold ladAt at hd
    rw [Nat.sub_zero] at hd
    have hp : 0 ≤ ((ps.length - 1 : Nat) : Int) * gapN eps wait := Int.mul_nonneg (by omega) (by omega)
    have hq : 0 ≤ (2 * (ps.length : Int) + 3) * (wait + 1) := Int.mul_nonneg (by omega) (by omega)
    refine ⟨t1, by simp only; omega, by simp only; omega, by simp only; omega, ?_, ?_⟩
    · simp only; rw [hd]; unfold ladTop; omega
    · simp only; rw [hd]; exact l2
  · intro h
    exact absurd rfl h
set_option maxRecDepth 100000 in
theorem Rd.ringCap {w : World} {v : Value} (h : Rd w 25 v) : ∃ (pp : Option Addr) (np cp : Nat) (ps : List Int) (pl : Option Addr) (nl cl : Nat) (ls : List (List It)), v = .agg #[.slice pp np cp, .slice pl nl cl] ∧ np ≤ cp ∧ np ≤ maxLen ∧ IsRow (· < w.heap.size) w (.slice pp np cp) (ps.map (Value.int .i64)) ∧ nl ≤ maxLen ∧ IsLegs (· < w.heap.size) w (.slice pl nl cl) ls := by
  obtain ⟨cs, rfl, hl, hf⟩ := h.struct Try.underlying25
  have hc : Try.prog.cellsOf 25 = 2 := by kernel_rfl
  have h1 : Try.prog.cellsOf 22 = 1 := by kernel_rfl
  have h2 : Try.prog.cellsOf 23 = 1 := by kernel_rfl
  rw [hc] at hl
  match cs, hl with
  | [c0, c1], _ =>
    have f0 : Rc w 22 [c0] := by simpa [h1] using hf 0 _ rfl
    have f1 : Rc w 23 [c1] := by simpa [h2] using hf 1 _ rfl
    obtain ⟨pp, np, cp, ps, e0, a1, a2, a3, a4, -⟩ := f0.ints
    obtain ⟨pl, nl, cl, ls, e1, b1, b2, b3, b4, b5⟩ := f1.legs
    simp only [List.cons.injEq, and_true] at e0 e1
    subst e0; subst e1
    exact ⟨pp, np, cp, ps, pl, nl, cl, ls, rfl, a1, by omega, a4, by omega, b4⟩
set_option maxRecDepth 100000 in
set_option maxHeartbeats 8000000 in
theorem lawPlanTells (deal start eps wait party : Int) (pp pl : Option Addr) (np cp nl cl : Nat) (ps : List Int) (ls : List (List It)) (H : List UInt8) (w : World) (hp : IsRow (· < w.heap.size) w (.slice pp np cp) (ps.map (.int .i64))) (hl : IsLegs (· < w.heap.size) w (.slice pl nl cl) ls) (hcp : np ≤ cp) (hnp : np ≤ maxLen) (hnl : nl ≤ maxLen) (hhm : H.length ≤ maxLen) :
    Calls Try.prog 5 #[.int .i64 deal, .agg #[.slice pp np cp, .slice pl nl cl], .string ⟨H.toArray⟩, .int .i64 start, .int .i64 eps, .int .i64 wait, .int .i64 party] w fun e w' => e = .returned (.bool true) ∧ Mod nil w w' := by
  refine (?_ : ∀ Post : Ending → World → Prop, Hid (∀ e w', (e = .returned (.bool true) ∧ Mod nil w w') → Post e w') → Calls Try.prog 5 #[.int .i64 deal, .agg #[.slice pp np cp, .slice pl nl cl], .string ⟨H.toArray⟩, .int .i64 start, .int .i64 eps, .int .i64 wait, .int .i64 party] w Post) _ (Lib.hid (fun _ _ h => h))
  intro Post HPOST
  have hpl : ps.length = np := by obtain ⟨_, _, h, _⟩ := hp; simp only [Value.slice.injEq, List.length_map] at h; exact h.2.1.symm
  have hll : ls.length = nl := by obtain ⟨_, _, h⟩ := hl.form; simp only [Value.slice.injEq] at h; exact h.2.1.symm
  obtain ⟨nh, hnh⟩ : ∃ n, H.length = n := ⟨_, rfl⟩
  have hzl : (⟨H.toArray⟩ : ByteArray).size = nh := by rw [← hnh]; rfl
  have hzl2 : H.toArray.size = nh := by rw [← hnh]; rfl
  rw [hnh] at hhm
  have HP := Lib.hid hp
  have HL := Lib.hid hl
  have HPL := Lib.hid hpl
  have HLL := Lib.hid hll
  have HNH := Lib.hid hnh
  obtain ⟨r, hr⟩ : ∃ r, w.heap.size = r := ⟨_, rfl⟩
  unfold maxLen at hhm
  clear hp hl hpl hll hnh
  go_enter Try.func5, Try.ntmps5
  go_upto_region 1 with (fail)
  (try rw [hr])
  generalize hw1 : World.alloc w _ = w1
  have hm1 : Mod nil w w1 := by rw [← hw1]; exact (Mod.refl _ _).alloc _
  have hb1 : w1.heap[r]? = some (.cells #[.slice pp np cp, .slice pl nl cl] 25 (0, 0)) := by rw [← hw1, ← hr]; exact heap_alloc_new _ _
  have r0 := cell_of hb1 0
  have r1 := cell_of hb1 1
  simp only [List.getElem?_toArray, List.getElem?_cons_zero, List.getElem?_cons_succ] at r0 r1
  have HMw1 := Lib.hid hm1
  clear hw1 hm1 hb1 hr
  go_wp2_with fail
  refine (planFirst w1).mono ?_
  rintro e w' ⟨rfl, rfl⟩
  have HFEW := Lib.hid (planFew _ pp pl np cp nl cl ps ls w1 HPL.out (HL.out.modNil HMw1.out) hnp hnl)
  by_cases hfew : fewN ps ls
  case neg =>
    rw [decide_eq_false hfew] at HFEW
    clear hfew
    go_wp2_with fail
    refine HFEW.out.mono ?_
    rintro e w2 ⟨rfl, hm2⟩
    have HE := Lib.hid (HPOST.out _ w2 ⟨rfl, HMw1.out.thenNil hm2⟩)
    clear hm2
    go_wp2_with fail
    refine (planFirst w2).mono ?_
    rintro e w' ⟨rfl, rfl⟩
    go_wp2_with fail
    exact HE.out
  rw [decide_eq_true hfew] at HFEW
  have hnp1 : np ≤ 100 := by rw [← HPL.out]; exact hfew.2.1
  have hnl1 : nl ≤ 100 := by rw [← HLL.out]; exact hfew.2.2
  have HFW : Hid (∀ l ∈ ls, l.length ≤ 100) := Lib.hid (fun l hl => hfew.1 l (by rw [List.take_of_length_le hfew.2.2]; exact hl))
  clear hfew
  go_wp2_with fail
  refine HFEW.out.mono ?_
  rintro e w2 ⟨rfl, hm2⟩
  have r0' := cell_kept r0 hm2 (World.block_lt_of_cell? _ _ r0) (not_nil _)
  clear r0
  have r0 := r0'
  clear r0'
  have r1' := cell_kept r1 hm2 (World.block_lt_of_cell? _ _ r1) (not_nil _)
  clear r1
  have r1 := r1'
  clear r1'
  have HMw2 := Lib.hid (HMw1.out.thenNil hm2)
  clear hm2
  by_cases hbig : 1000 < nh
  case pos =>
    have HE := Lib.hid (HPOST.out _ w2 ⟨rfl, HMw2.out⟩)
    go_wp2_with fail
    refine (planFirst w2).mono ?_
    rintro e w' ⟨rfl, rfl⟩
    go_wp2_with fail
    exact HE.out
  obtain ⟨M, er, hmk⟩ : ∃ P er, makeN deal ps ls H start eps wait = (P, er) := ⟨_, _, rfl⟩
  have hcall := planMake _ deal start eps wait pp pl np cp nl cl ps ls H w2 (HP.out.modNil HMw2.out) (HL.out.modNil HMw2.out) (by omega) (by omega) (fun l h => by have := HFW.out l h; omega) (by rw [HNH.out]; omega)
  rw [hmk] at hcall
  have HC1 := Lib.hid hcall
  have HMK := Lib.hid hmk
  have hfm := make_few hmk (by rw [HPL.out]; omega) (by rw [HLL.out]; omega) (fun l h => by have := HFW.out l h; omega) (by rw [HNH.out]; omega)
  have hend := make_end hmk
  obtain ⟨md, mps, mls, mz, ms, me, mw, mdl⟩ := M
  have HFM := Lib.hid hfm.1
  have HFZ := Lib.hid hfm.2
  have HME := Lib.hid hend
  clear hcall hmk hfm hend
  go_wp2_with fail
  refine HC1.out.mono ?_
  rintro e w3 ⟨v1, rfl, hpl1, m3⟩
  have r0' := cell_kept r0 m3 (World.block_lt_of_cell? _ _ r0) (not_nil _)
  clear r0
  have r0 := r0'
  clear r0'
  have r1' := cell_kept r1 m3 (World.block_lt_of_cell? _ _ r1) (not_nil _)
  clear r1
  have r1 := r1'
  clear r1'
  have HMw3 := Lib.hid (HMw2.out.thenNil m3)
  have HPL1 := Lib.hid hpl1
  obtain ⟨p1a, c1a, p2a, c2a, p7a, c7a, rfl, -⟩ := hpl1
  simp only at HPL1 ⊢
  obtain ⟨n1, hn1⟩ : ∃ n, mps.length = n := ⟨_, rfl⟩
  obtain ⟨n2, hn2⟩ : ∃ n, mls.length = n := ⟨_, rfl⟩
  obtain ⟨n7, hn7⟩ : ∃ n, mdl.length = n := ⟨_, rfl⟩
  rw [hn1, hn2, hn7] at HPL1 ⊢
  have HN1 := Lib.hid hn1
  have HN2 := Lib.hid hn2
  have HN7 := Lib.hid hn7
  clear m3 HC1 hn1 hn2 hn7
  go_upto_region 6 with (fail)
  obtain ⟨tp, htp⟩ : ∃ x, w3.heap.size = x := ⟨_, rfl⟩
  (try rw [htp])
  generalize hw4 : World.alloc w3 _ = w4
  have m4 : Mod nil w3 w4 := by rw [← hw4]; exact (Mod.refl _ _).alloc _
  have hb4 : w4.heap[tp]? = some (.cells #[.int .i64 md, .slice p1a n1 c1a, .slice p2a n2 c2a, .string ⟨mz.toArray⟩, .int .i64 ms, .int .i64 me, .int .i64 mw, .slice p7a n7 c7a] 30 (0, 0)) := by rw [← hw4, ← htp]; exact heap_alloc_new _ _
  have a0 := cell_of hb4 0
  have a1 := cell_of hb4 1
  have a2 := cell_of hb4 2
  have a3 := cell_of hb4 3
  have a4 := cell_of hb4 4
  have a5 := cell_of hb4 5
  have a6 := cell_of hb4 6
  have a7 := cell_of hb4 7
  simp only [List.getElem?_toArray, List.getElem?_cons_zero, List.getElem?_cons_succ] at a0 a1 a2 a3 a4 a5 a6 a7
  have r0' := cell_kept r0 m4 (World.block_lt_of_cell? _ _ r0) (not_nil _)
  clear r0
  have r0 := r0'
  clear r0'
  have r1' := cell_kept r1 m4 (World.block_lt_of_cell? _ _ r1) (not_nil _)
  clear r1
  have r1 := r1'
  clear r1'
  have HMw4 := Lib.hid (HMw3.out.thenNil m4)
  have HPL4 := Lib.hid (HPL1.out.modNil m4)
  clear hw4 m4 hb4 htp HPL1
  have hcall := refMake (fun _ => True) deal start eps wait pp pl np cp nl cl ps ls H w4 ((HP.out.modNil HMw4.out).mono (fun k hk _ => hk)) ((HL.out.modNil HMw4.out).mono (fun k hk _ => hk)) hcp (by omega) (by omega) (fun l h => by have := HFW.out l h; omega) (by rw [HNH.out]; omega)
  rw [HMK.out] at hcall
  have HC2 := Lib.hid hcall
  clear hcall
  go_wp2_with fail
  refine HC2.out.mono ?_
  rintro e w5 ⟨v2, rfl, hpl2, hcap2, m5⟩
  have a0' := cell_kept a0 m5 (World.block_lt_of_cell? _ _ a0) (not_nil _)
  clear a0
  have a0 := a0'
  clear a0'
  have a1' := cell_kept a1 m5 (World.block_lt_of_cell? _ _ a1) (not_nil _)
  clear a1
  have a1 := a1'
  clear a1'
  have a2' := cell_kept a2 m5 (World.block_lt_of_cell? _ _ a2) (not_nil _)
  clear a2
  have a2 := a2'
  clear a2'
  have a3' := cell_kept a3 m5 (World.block_lt_of_cell? _ _ a3) (not_nil _)
  clear a3
  have a3 := a3'
  clear a3'
  have a4' := cell_kept a4 m5 (World.block_lt_of_cell? _ _ a4) (not_nil _)
  clear a4
  have a4 := a4'
  clear a4'
  have a5' := cell_kept a5 m5 (World.block_lt_of_cell? _ _ a5) (not_nil _)
  clear a5
  have a5 := a5'
  clear a5'
  have a6' := cell_kept a6 m5 (World.block_lt_of_cell? _ _ a6) (not_nil _)
  clear a6
  have a6 := a6'
  clear a6'
  have a7' := cell_kept a7 m5 (World.block_lt_of_cell? _ _ a7) (not_nil _)
  clear a7
  have a7 := a7'
  clear a7'
  have HMw5 := Lib.hid (HMw4.out.thenNil m5)
  have HPL5 := Lib.hid (HPL4.out.modNil m5)
  have HPL2 := Lib.hid hpl2
  have HCAP := Lib.hid hcap2
  obtain ⟨p1b, c1b, p2b, c2b, p7b, c7b, rfl, -⟩ := hpl2
  simp only at HPL2 HCAP ⊢
  rw [HN1.out, HN2.out, HN7.out] at HPL2 HCAP ⊢
  clear m5 HC2 hcap2 r0 r1 HPL4
  go_upto_region 7 with (fail)
  obtain ⟨tq, htq⟩ : ∃ x, w5.heap.size = x := ⟨_, rfl⟩
  (try rw [htq])
  generalize hw6 : World.alloc w5 _ = w6
  have m6 : Mod nil w5 w6 := by rw [← hw6]; exact (Mod.refl _ _).alloc _
  have hb6 : w6.heap[tq]? = some (.cells #[.int .i64 md, .slice p1b n1 c1b, .slice p2b n2 c2b, .string ⟨mz.toArray⟩, .int .i64 ms, .int .i64 me, .int .i64 mw, .slice p7b n7 c7b] 30 (0, 0)) := by rw [← hw6, ← htq]; exact heap_alloc_new _ _
  have b0 := cell_of hb6 0
  have b1 := cell_of hb6 1
  have b2 := cell_of hb6 2
  have b3 := cell_of hb6 3
  have b4 := cell_of hb6 4
  have b5 := cell_of hb6 5
  have b6 := cell_of hb6 6
  have b7 := cell_of hb6 7
  simp only [List.getElem?_toArray, List.getElem?_cons_zero, List.getElem?_cons_succ] at b0 b1 b2 b3 b4 b5 b6 b7
  have a0' := cell_kept a0 m6 (World.block_lt_of_cell? _ _ a0) (not_nil _)
  clear a0
  have a0 := a0'
  clear a0'
  have a1' := cell_kept a1 m6 (World.block_lt_of_cell? _ _ a1) (not_nil _)
  clear a1
  have a1 := a1'
  clear a1'
  have a2' := cell_kept a2 m6 (World.block_lt_of_cell? _ _ a2) (not_nil _)
  clear a2
  have a2 := a2'
  clear a2'
  have a3' := cell_kept a3 m6 (World.block_lt_of_cell? _ _ a3) (not_nil _)
  clear a3
  have a3 := a3'
  clear a3'
  have a4' := cell_kept a4 m6 (World.block_lt_of_cell? _ _ a4) (not_nil _)
  clear a4
  have a4 := a4'
  clear a4'
  have a5' := cell_kept a5 m6 (World.block_lt_of_cell? _ _ a5) (not_nil _)
  clear a5
  have a5 := a5'
  clear a5'
  have a6' := cell_kept a6 m6 (World.block_lt_of_cell? _ _ a6) (not_nil _)
  clear a6
  have a6 := a6'
  clear a6'
  have a7' := cell_kept a7 m6 (World.block_lt_of_cell? _ _ a7) (not_nil _)
  clear a7
  have a7 := a7'
  clear a7'
  have HM6 := Lib.hid (HMw5.out.thenNil m6)
  have HPA := Lib.hid (HPL5.out.modNil m6)
  have HPB := Lib.hid (HPL2.out.modNil m6)
  clear hw6 m6 hb6 htq HPL5 HPL2
  have HKEEP : Hid (∀ W, Mod nil w6 W → W.cell? ⟨tp, 0, none⟩ = some (.int .i64 md) ∧ W.cell? ⟨tp, 1, none⟩ = some (.slice p1a n1 c1a) ∧ W.cell? ⟨tp, 2, none⟩ = some (.slice p2a n2 c2a) ∧ W.cell? ⟨tp, 3, none⟩ = some (.string ⟨mz.toArray⟩) ∧ W.cell? ⟨tp, 4, none⟩ = some (.int .i64 ms) ∧ W.cell? ⟨tp, 5, none⟩ = some (.int .i64 me) ∧ W.cell? ⟨tp, 6, none⟩ = some (.int .i64 mw) ∧ W.cell? ⟨tp, 7, none⟩ = some (.slice p7a n7 c7a) ∧ W.cell? ⟨tq, 0, none⟩ = some (.int .i64 md) ∧ W.cell? ⟨tq, 1, none⟩ = some (.slice p1b n1 c1b) ∧ W.cell? ⟨tq, 2, none⟩ = some (.slice p2b n2 c2b) ∧ W.cell? ⟨tq, 3, none⟩ = some (.string ⟨mz.toArray⟩) ∧ W.cell? ⟨tq, 4, none⟩ = some (.int .i64 ms) ∧ W.cell? ⟨tq, 5, none⟩ = some (.int .i64 me) ∧ W.cell? ⟨tq, 6, none⟩ = some (.int .i64 mw) ∧ W.cell? ⟨tq, 7, none⟩ = some (.slice p7b n7 c7b)) := Lib.hid (fun W m => ⟨cell_kept a0 m (World.block_lt_of_cell? _ _ a0) (not_nil _), cell_kept a1 m (World.block_lt_of_cell? _ _ a1) (not_nil _), cell_kept a2 m (World.block_lt_of_cell? _ _ a2) (not_nil _), cell_kept a3 m (World.block_lt_of_cell? _ _ a3) (not_nil _), cell_kept a4 m (World.block_lt_of_cell? _ _ a4) (not_nil _), cell_kept a5 m (World.block_lt_of_cell? _ _ a5) (not_nil _), cell_kept a6 m (World.block_lt_of_cell? _ _ a6) (not_nil _), cell_kept a7 m (World.block_lt_of_cell? _ _ a7) (not_nil _), cell_kept b0 m (World.block_lt_of_cell? _ _ b0) (not_nil _), cell_kept b1 m (World.block_lt_of_cell? _ _ b1) (not_nil _), cell_kept b2 m (World.block_lt_of_cell? _ _ b2) (not_nil _), cell_kept b3 m (World.block_lt_of_cell? _ _ b3) (not_nil _), cell_kept b4 m (World.block_lt_of_cell? _ _ b4) (not_nil _), cell_kept b5 m (World.block_lt_of_cell? _ _ b5) (not_nil _), cell_kept b6 m (World.block_lt_of_cell? _ _ b6) (not_nil _), cell_kept b7 m (World.block_lt_of_cell? _ _ b7) (not_nil _)⟩)
  obtain ⟨ix, hix⟩ : ∃ x, (if 0 ≤ indexN party mps then indexN party mps else 0) = x := ⟨_, rfl⟩
  obtain ⟨bx, hbx⟩ : ∃ x, decide (0 ≤ indexN party mps) = x := ⟨_, rfl⟩
  obtain ⟨eb, ez, hen⟩ : ∃ eb ez, encF ⟨md, mps, mls, mz, ms, me, mw, mdl⟩ = (eb, ez) := ⟨_, _, rfl⟩
  obtain ⟨et, het⟩ : ∃ x, Pl.endT ⟨md, mps, mls, mz, ms, me, mw, mdl⟩ = x := ⟨_, rfl⟩
  obtain ⟨gp, hgp⟩ : ∃ x, gapN eps wait = x := ⟨_, rfl⟩
  obtain ⟨en, hebn⟩ : ∃ n, eb.length = n := ⟨_, rfl⟩
  have HEBN := Lib.hid hebn
  have HPLC1 : Hid (∀ W, Mod nil w6 W → Calls Try.prog 18 #[.agg #[.int .i64 md, .slice p1b n1 c1b, .slice p2b n2 c2b, .string ⟨mz.toArray⟩, .int .i64 ms, .int .i64 me, .int .i64 mw, .slice p7b n7 c7b], .int .i64 party] W fun e w' => e = .returned (.tuple #[.int .i64 ix, .bool bx]) ∧ Mod nil w6 w') := Lib.hid (fun W m => by
    have h := planPlace _ _ ⟨md, mps, mls, mz, ms, me, mw, mdl⟩ party W (HPB.out.modNil m) HFM.out
    simp only at h
    rw [hix, hbx] at h
    exact h.mono (fun e w' h => ⟨h.1, m.thenNil h.2⟩))
  have HPLC2 : Hid (∀ W, Mod nil w6 W → Calls Try.prog 20 #[.agg #[.int .i64 md, .slice p1b n1 c1b, .slice p2b n2 c2b, .string ⟨mz.toArray⟩, .int .i64 ms, .int .i64 me, .int .i64 mw, .slice p7b n7 c7b], .int .i64 party] W fun e w' => e = .returned (.tuple #[.int .i64 ix, .bool bx]) ∧ Mod nil w6 w') := Lib.hid (fun W m => by
    have h := refPlace _ _ ⟨md, mps, mls, mz, ms, me, mw, mdl⟩ party W (HPB.out.modNil m) HFM.out
    simp only at h
    rw [hix, hbx] at h
    exact h.mono (fun e w' h => ⟨h.1, m.thenNil h.2⟩))
  have HENC1 : Hid (∀ W, Mod nil w6 W → Calls Try.prog 21 #[.agg #[.int .i64 md, .slice p1b n1 c1b, .slice p2b n2 c2b, .string ⟨mz.toArray⟩, .int .i64 ms, .int .i64 me, .int .i64 mw, .slice p7b n7 c7b]] W fun e w' => ∃ p c, e = .returned (.tuple #[.slice p en c, .int .i64 ez]) ∧ IsRow (fun k => W.heap.size ≤ k) w' (.slice p en c) (bys eb) ∧ Mod nil w6 w') := Lib.hid (fun W m => by
    have h := planEncode _ _ ⟨md, mps, mls, mz, ms, me, mw, mdl⟩ W (HPB.out.modNil m) HFM.out HFZ.out
    rw [hen] at h
    simp only at h
    rw [hebn] at h
    exact h.mono (fun e w' h => by
      obtain ⟨vb, h1, h2, h3⟩ := h
      obtain ⟨p, c, rfl⟩ := h2.form
      exact ⟨p, c, h1, h2.row, m.thenNil h3⟩))
  have HENQ := Lib.hid hen
  have HET := Lib.hid het
  have HGP := Lib.hid hgp
  clear hix hbx hen het hgp hebn
  go_wp2_with fail
  refine (HPLC1.out w6 (Mod.refl _ _)).mono ?_
  rintro e w7 ⟨rfl, m7⟩
  clear a0 a1 a2 a3 a4 a5 a6 a7 b0 b1 b2 b3 b4 b5 b6 b7
  obtain ⟨a0, a1, a2, a3, a4, a5, a6, a7, b0, b1, b2, b3, b4, b5, b6, b7⟩ := HKEEP.out w7 m7
  go_wp2_with fail
  refine (HPLC2.out w7 m7).mono ?_
  rintro e w8 ⟨rfl, m8⟩
  clear a0 a1 a2 a3 a4 a5 a6 a7 b0 b1 b2 b3 b4 b5 b6 b7
  obtain ⟨a0, a1, a2, a3, a4, a5, a6, a7, b0, b1, b2, b3, b4, b5, b6, b7⟩ := HKEEP.out w8 m8
  go_wp2_with fail
  refine (HENC1.out w8 m8).mono ?_
  rintro e w9 ⟨px, cx, rfl, hx, m9⟩
  clear a0 a1 a2 a3 a4 a5 a6 a7 b0 b1 b2 b3 b4 b5 b6 b7
  obtain ⟨a0, a1, a2, a3, a4, a5, a6, a7, b0, b1, b2, b3, b4, b5, b6, b7⟩ := HKEEP.out w9 m9
  have HXW : Hid (∀ W, Mod nil w9 W → IsRow (fun k => w8.heap.size ≤ k) W (.slice px en cx) (bys eb)) := Lib.hid (fun W m => hx.modNil m)
  clear hx
  have HENC2b : Hid (Calls Try.prog 22 #[.agg #[.int .i64 md, .slice p1b n1 c1b, .slice p2b n2 c2b, .string ⟨mz.toArray⟩, .int .i64 ms, .int .i64 me, .int .i64 mw, .slice p7b n7 c7b]] w9 fun e w' => ∃ p c, e = .returned (.tuple #[.slice p en c, .int .i64 ez]) ∧ IsRow (fun k => w9.heap.size ≤ k) w' (.slice p en c) (bys eb) ∧ Mod nil w9 w') := Lib.hid (by
    have h := refEncode _ _ ⟨md, mps, mls, mz, ms, me, mw, mdl⟩ w9 (HPB.out.modNil m9) HCAP.out HFM.out HFZ.out
    rw [HENQ.out] at h
    simp only at h
    exact h.mono (fun e w' h => by
      obtain ⟨vb, h1, h2, h3⟩ := h
      obtain ⟨p, c, rfl, -⟩ := id h2
      rw [bys_length, HEBN.out] at h1 h2
      exact ⟨p, c, h1, h2, h3⟩))
  go_wp2_with fail
  refine HENC2b.out.mono ?_
  rintro e w10 ⟨py, cy, rfl, hy, m10b⟩
  have m10 := m9.thenNil m10b
  clear a0 a1 a2 a3 a4 a5 a6 a7 b0 b1 b2 b3 b4 b5 b6 b7
  obtain ⟨a0, a1, a2, a3, a4, a5, a6, a7, b0, b1, b2, b3, b4, b5, b6, b7⟩ := HKEEP.out w10 m10
  have HBYT : Hid (∀ W, Mod nil w10 W → Calls Try.prog 27 #[.slice px en cx, .slice py en cy] W fun e w' => e = .returned (.bool true) ∧ Mod nil w10 w') := Lib.hid (fun W m => by
    have h := refBytesSame _ _ _ _ eb eb W (HXW.out W (m10b.thenNil m)) (hy.modNil m)
    rw [decide_eq_true rfl] at h
    exact h.mono (fun e w' h => ⟨h.1, h.2 ▸ m⟩))
  clear hy m10b
  have HSAME : Hid (∀ W, Mod nil w10 W → Calls Try.prog 23 #[.agg #[.int .i64 md, .slice p1a n1 c1a, .slice p2a n2 c2a, .string ⟨mz.toArray⟩, .int .i64 ms, .int .i64 me, .int .i64 mw, .slice p7a n7 c7a], .agg #[.int .i64 md, .slice p1b n1 c1b, .slice p2b n2 c2b, .string ⟨mz.toArray⟩, .int .i64 ms, .int .i64 me, .int .i64 mw, .slice p7b n7 c7b]] W fun e w' => e = .returned (.bool true) ∧ Mod nil w10 w') := Lib.hid (fun W m => by
    have h := refSamePlan _ _ _ _ ⟨md, mps, mls, mz, ms, me, mw, mdl⟩ ⟨md, mps, mls, mz, ms, me, mw, mdl⟩ W (HPA.out.modNil (m10.thenNil m)) (HPB.out.modNil (m10.thenNil m)) HFM.out
    rw [decide_eq_true rfl] at h
    exact h.mono (fun e w' h => ⟨h.1, m.thenNil h.2⟩))
  have HGAP1 : Hid (∀ W, Mod nil w10 W → Calls Try.prog 24 #[.int .i64 eps, .int .i64 wait] W fun e w' => e = .returned (.int .i64 gp) ∧ Mod nil w10 w') := Lib.hid (fun W m => by
    have h := planGap eps wait W
    rw [HGP.out] at h
    exact h.mono (fun e w' h => ⟨h.1, h.2 ▸ m⟩))
  have HGAP2 : Hid (∀ W, Mod nil w10 W → Calls Try.prog 25 #[.int .i64 eps, .int .i64 wait] W fun e w' => e = .returned (.int .i64 gp) ∧ Mod nil w10 w') := Lib.hid (fun W m => by
    have h := refGap eps wait W
    rw [HGP.out] at h
    exact h.mono (fun e w' h => ⟨h.1, h.2 ▸ m⟩))
  have HEND1 : Hid (∀ W, Mod nil w10 W → Calls Try.prog 14 #[.agg #[.int .i64 md, .slice p1b n1 c1b, .slice p2b n2 c2b, .string ⟨mz.toArray⟩, .int .i64 ms, .int .i64 me, .int .i64 mw, .slice p7b n7 c7b]] W fun e w' => e = .returned (.int .i64 et) ∧ Mod nil w10 w') := Lib.hid (fun W m => by
    have h := planEnd _ _ ⟨md, mps, mls, mz, ms, me, mw, mdl⟩ W (HPB.out.modNil (m10.thenNil m)) HME.out
    rw [HET.out] at h
    exact h.mono (fun e w' h => ⟨h.1, m.thenNil h.2⟩))
  have HEND2 : Hid (∀ W, Mod nil w10 W → Calls Try.prog 26 #[.agg #[.int .i64 md, .slice p1b n1 c1b, .slice p2b n2 c2b, .string ⟨mz.toArray⟩, .int .i64 ms, .int .i64 me, .int .i64 mw, .slice p7b n7 c7b]] W fun e w' => e = .returned (.int .i64 et) ∧ Mod nil w10 w') := Lib.hid (fun W m => by
    have h := refEnd _ _ ⟨md, mps, mls, mz, ms, me, mw, mdl⟩ W (HPB.out.modNil (m10.thenNil m)) HME.out
    rw [HET.out] at h
    exact h.mono (fun e w' h => ⟨h.1, m.thenNil h.2⟩))
  have HKEEP10 : Hid (∀ W, Mod nil w10 W → W.cell? ⟨tp, 0, none⟩ = some (.int .i64 md) ∧ W.cell? ⟨tp, 1, none⟩ = some (.slice p1a n1 c1a) ∧ W.cell? ⟨tp, 2, none⟩ = some (.slice p2a n2 c2a) ∧ W.cell? ⟨tp, 3, none⟩ = some (.string ⟨mz.toArray⟩) ∧ W.cell? ⟨tp, 4, none⟩ = some (.int .i64 ms) ∧ W.cell? ⟨tp, 5, none⟩ = some (.int .i64 me) ∧ W.cell? ⟨tp, 6, none⟩ = some (.int .i64 mw) ∧ W.cell? ⟨tp, 7, none⟩ = some (.slice p7a n7 c7a) ∧ W.cell? ⟨tq, 0, none⟩ = some (.int .i64 md) ∧ W.cell? ⟨tq, 1, none⟩ = some (.slice p1b n1 c1b) ∧ W.cell? ⟨tq, 2, none⟩ = some (.slice p2b n2 c2b) ∧ W.cell? ⟨tq, 3, none⟩ = some (.string ⟨mz.toArray⟩) ∧ W.cell? ⟨tq, 4, none⟩ = some (.int .i64 ms) ∧ W.cell? ⟨tq, 5, none⟩ = some (.int .i64 me) ∧ W.cell? ⟨tq, 6, none⟩ = some (.int .i64 mw) ∧ W.cell? ⟨tq, 7, none⟩ = some (.slice p7b n7 c7b)) := Lib.hid (fun W m => HKEEP.out W (m10.thenNil m))
  have M0 : Mod nil w10 w10 := Mod.refl _ _
  go_upto_region 11 with (fail)
  refine wp_region_held_drew (S := (fun w' => w'.cell? ⟨tp, 0, none⟩ = some (.int .i64 md) ∧ w'.cell? ⟨tp, 1, none⟩ = some (.slice p1a n1 c1a) ∧ w'.cell? ⟨tp, 2, none⟩ = some (.slice p2a n2 c2a) ∧ w'.cell? ⟨tp, 3, none⟩ = some (.string ⟨mz.toArray⟩) ∧ w'.cell? ⟨tp, 4, none⟩ = some (.int .i64 ms) ∧ w'.cell? ⟨tp, 5, none⟩ = some (.int .i64 me) ∧ w'.cell? ⟨tp, 6, none⟩ = some (.int .i64 mw) ∧ w'.cell? ⟨tp, 7, none⟩ = some (.slice p7a n7 c7a) ∧ w'.cell? ⟨tq, 0, none⟩ = some (.int .i64 md) ∧ w'.cell? ⟨tq, 1, none⟩ = some (.slice p1b n1 c1b) ∧ w'.cell? ⟨tq, 2, none⟩ = some (.slice p2b n2 c2b) ∧ w'.cell? ⟨tq, 3, none⟩ = some (.string ⟨mz.toArray⟩) ∧ w'.cell? ⟨tq, 4, none⟩ = some (.int .i64 ms) ∧ w'.cell? ⟨tq, 5, none⟩ = some (.int .i64 me) ∧ w'.cell? ⟨tq, 6, none⟩ = some (.int .i64 mw) ∧ w'.cell? ⟨tq, 7, none⟩ = some (.slice p7b n7 c7b))) (by kernel_rfl) (⟨a0, a1, a2, a3, a4, a5, a6, a7, b0, b1, b2, b3, b4, b5, b6, b7⟩) (fun hHeld => ?_)
  refine wpAnyH_ready (rs := [0]) (by kernel_rfl) (by simp) ?_
  refine AllReadyH.cons (i := 0) rfl (fun K hK => ?_) AllReadyH.nil
  (try dsimp (config := { proj := false }) only [List.getElem_toArray, List.getElem_cons_succ, List.getElem_cons_zero])
  go_simp
  refine (planFirst _).mono ?_
  rintro e w' ⟨rfl, rfl⟩
  refine hK.out _ _ ⟨a0, a1, a2, a3, a4, a5, a6, a7, b0, b1, b2, b3, b4, b5, b6, b7⟩ (fun hHeld => ?_)
  clear hK K
  (try simp only [Act.put, List.setIfInBounds_toArray, List.set_cons_zero, List.set_cons_succ])
  (try simp only [List.set_cons_succ, List.set_cons_zero])
  refine wpAnyH_take (i := 1) (v := ?_) rfl (by kernel_rfl) (by kernel_rfl) (by kernel_rfl) (fun _ _ _ h => h) (Or.inl ⟨by kernel_rfl, ?_⟩) (by assumption) ?_
  rotate_left
  · intro w hSw; (try dsimp only at hSw); (first | (go_simp; done) | (go_simp; with_reducible rfl))
  (try simp only [Act.put, List.getElem_toArray, List.getElem_cons_succ, List.getElem_cons_zero, List.setIfInBounds_toArray, List.set_cons_succ, List.set_cons_zero])
  refine wpAnyH_take (i := 2) (v := ?_) rfl (by kernel_rfl) (by kernel_rfl) (by kernel_rfl) (fun _ _ _ h => h) (Or.inl ⟨by kernel_rfl, ?_⟩) (by assumption) ?_
  rotate_left
  · intro w hSw; (try dsimp only at hSw); (first | (go_simp; done) | (go_simp; with_reducible rfl))
  (try simp only [Act.put, List.getElem_toArray, List.getElem_cons_succ, List.getElem_cons_zero, List.setIfInBounds_toArray, List.set_cons_succ, List.set_cons_zero])
  refine wpAnyH_take (i := 3) (v := ?_) rfl (by kernel_rfl) (by kernel_rfl) (by kernel_rfl) (fun _ _ _ h => h) (Or.inl ⟨by kernel_rfl, ?_⟩) (by assumption) ?_
  rotate_left
  · intro w hSw; (try dsimp only at hSw); (first | (go_simp; done) | (go_simp; with_reducible rfl))
  (try simp only [Act.put, List.getElem_toArray, List.getElem_cons_succ, List.getElem_cons_zero, List.setIfInBounds_toArray, List.set_cons_succ, List.set_cons_zero])
  refine wpAnyH_take (i := 4) (v := ?_) rfl (by kernel_rfl) (by kernel_rfl) (by kernel_rfl) (fun _ _ _ h => h) (Or.inl ⟨by kernel_rfl, ?_⟩) (by assumption) ?_
  rotate_left
  · intro w hSw; (try dsimp only at hSw); (first | (go_simp; done) | (go_simp; with_reducible rfl))
  (try simp only [Act.put, List.getElem_toArray, List.getElem_cons_succ, List.getElem_cons_zero, List.setIfInBounds_toArray, List.set_cons_succ, List.set_cons_zero])
  refine wpAnyH_take (i := 5) (v := ?_) rfl (by kernel_rfl) (by kernel_rfl) (by kernel_rfl) (fun _ _ _ h => h) (Or.inl ⟨by kernel_rfl, ?_⟩) (by assumption) ?_
  rotate_left
  · intro w hSw; (try dsimp only at hSw); (first | (go_simp; done) | (go_simp; with_reducible rfl))
  (try simp only [Act.put, List.getElem_toArray, List.getElem_cons_succ, List.getElem_cons_zero, List.setIfInBounds_toArray, List.set_cons_succ, List.set_cons_zero])
  refine wpAnyH_take (i := 6) (v := ?_) rfl (by kernel_rfl) (by kernel_rfl) (by kernel_rfl) (fun _ _ _ h => h) (Or.inl ⟨by kernel_rfl, ?_⟩) (by assumption) ?_
  rotate_left
  · intro w hSw; (try dsimp only at hSw); (first | (go_simp; done) | (go_simp; with_reducible rfl))
  (try simp only [Act.put, List.getElem_toArray, List.getElem_cons_succ, List.getElem_cons_zero, List.setIfInBounds_toArray, List.set_cons_succ, List.set_cons_zero])
  refine wpAnyH_take (i := 7) (v := ?_) rfl (by kernel_rfl) (by kernel_rfl) (by kernel_rfl) (fun _ _ _ h => h) (Or.inl ⟨by kernel_rfl, ?_⟩) (by assumption) ?_
  rotate_left
  · intro w hSw; (try dsimp only at hSw); (first | (go_simp; done) | (go_simp; with_reducible rfl))
  (try simp only [Act.put, List.getElem_toArray, List.getElem_cons_succ, List.getElem_cons_zero, List.setIfInBounds_toArray, List.set_cons_succ, List.set_cons_zero])
  refine wpAnyH_take (i := 8) (v := ?_) rfl (by kernel_rfl) (by kernel_rfl) (by kernel_rfl) (fun _ _ _ h => h) (Or.inl ⟨by kernel_rfl, ?_⟩) (by assumption) ?_
  rotate_left
  · intro w hSw; (try dsimp only at hSw); (first | (go_simp; done) | (go_simp; with_reducible rfl))
  (try simp only [Act.put, List.getElem_toArray, List.getElem_cons_succ, List.getElem_cons_zero, List.setIfInBounds_toArray, List.set_cons_succ, List.set_cons_zero])
  refine wpAnyH_ready (rs := [9]) (by kernel_rfl) (by simp) ?_
  refine AllReadyH.cons (i := 9) rfl (fun K hK => ?_) AllReadyH.nil
  (try dsimp (config := { proj := false }) only [List.getElem_toArray, List.getElem_cons_succ, List.getElem_cons_zero])
  go_simp
  refine (HSAME.out _ ?_).mono ?_
  · (repeat (first | exact M0 | refine Mod.drew ?_))
  rintro e w11 ⟨rfl, m11⟩
  clear a0 a1 a2 a3 a4 a5 a6 a7 b0 b1 b2 b3 b4 b5 b6 b7
  obtain ⟨a0, a1, a2, a3, a4, a5, a6, a7, b0, b1, b2, b3, b4, b5, b6, b7⟩ := HKEEP10.out w11 m11
  refine hK.out _ _ ⟨a0, a1, a2, a3, a4, a5, a6, a7, b0, b1, b2, b3, b4, b5, b6, b7⟩ (fun hHeld => ?_)
  clear hK K
  (try simp only [Act.put, List.setIfInBounds_toArray, List.set_cons_zero, List.set_cons_succ])
  (try simp only [List.set_cons_succ, List.set_cons_zero])
  refine wpAnyH_take (i := 10) (v := ?_) rfl (by kernel_rfl) (by kernel_rfl) (by kernel_rfl) (fun _ _ _ h => h) (Or.inl ⟨by kernel_rfl, ?_⟩) (by assumption) ?_
  rotate_left
  · intro w hSw; (try dsimp only at hSw); (first | (go_simp; done) | (go_simp; with_reducible rfl))
  (try simp only [Act.put, List.getElem_toArray, List.getElem_cons_succ, List.getElem_cons_zero, List.setIfInBounds_toArray, List.set_cons_succ, List.set_cons_zero])
  refine wpAnyH_take (i := 11) (v := ?_) rfl (by kernel_rfl) (by kernel_rfl) (by kernel_rfl) (fun _ _ _ h => h) (Or.inl ⟨by kernel_rfl, ?_⟩) (by assumption) ?_
  rotate_left
  · intro w hSw; (try dsimp only at hSw); (first | (go_simp; done) | (go_simp; with_reducible rfl))
  (try simp only [Act.put, List.getElem_toArray, List.getElem_cons_succ, List.getElem_cons_zero, List.setIfInBounds_toArray, List.set_cons_succ, List.set_cons_zero])
  refine wpAnyH_take (i := 12) (v := ?_) rfl (by kernel_rfl) (by kernel_rfl) (by kernel_rfl) (fun _ _ _ h => h) (Or.inl ⟨by kernel_rfl, ?_⟩) (by assumption) ?_
  rotate_left
  · intro w hSw; (try dsimp only at hSw); (first | (go_simp; done) | (go_simp; with_reducible rfl))
  (try simp only [Act.put, List.getElem_toArray, List.getElem_cons_succ, List.getElem_cons_zero, List.setIfInBounds_toArray, List.set_cons_succ, List.set_cons_zero])
  refine wpAnyH_take (i := 13) (v := ?_) rfl (by kernel_rfl) (by kernel_rfl) (by kernel_rfl) (fun _ _ _ h => h) (Or.inl ⟨by kernel_rfl, ?_⟩) (by assumption) ?_
  rotate_left
  · intro w hSw; (try dsimp only at hSw); (first | (go_simp; done) | (go_simp; with_reducible rfl))
  (try simp only [Act.put, List.getElem_toArray, List.getElem_cons_succ, List.getElem_cons_zero, List.setIfInBounds_toArray, List.set_cons_succ, List.set_cons_zero])
  refine wpAnyH_take (i := 15) (v := ?_) rfl (by kernel_rfl) (by kernel_rfl) (by kernel_rfl) (fun _ _ _ h => h) (Or.inl ⟨by kernel_rfl, ?_⟩) (by assumption) ?_
  rotate_left
  · intro w hSw; (try dsimp only at hSw); (first | (go_simp; done) | (go_simp; with_reducible rfl))
  (try simp only [Act.put, List.getElem_toArray, List.getElem_cons_succ, List.getElem_cons_zero, List.setIfInBounds_toArray, List.set_cons_succ, List.set_cons_zero])
  refine wpAnyH_take (i := 16) (v := ?_) rfl (by kernel_rfl) (by kernel_rfl) (by kernel_rfl) (fun _ _ _ h => h) (Or.inl ⟨by kernel_rfl, ?_⟩) (by assumption) ?_
  rotate_left
  · intro w hSw; (try dsimp only at hSw); (first | (go_simp; done) | (go_simp; with_reducible rfl))
  (try simp only [Act.put, List.getElem_toArray, List.getElem_cons_succ, List.getElem_cons_zero, List.setIfInBounds_toArray, List.set_cons_succ, List.set_cons_zero])
  refine wpAnyH_ready (rs := [14]) (by kernel_rfl) (by simp) ?_
  refine AllReadyH.cons (i := 14) rfl (fun K hK => ?_) AllReadyH.nil
  (try dsimp (config := { proj := false }) only [List.getElem_toArray, List.getElem_cons_succ, List.getElem_cons_zero])
  go_simp
  refine (HGAP1.out _ ?_).mono ?_
  · (repeat (first | exact m11 | refine Mod.drew ?_))
  rintro e w12 ⟨rfl, m12⟩
  clear a0 a1 a2 a3 a4 a5 a6 a7 b0 b1 b2 b3 b4 b5 b6 b7
  obtain ⟨a0, a1, a2, a3, a4, a5, a6, a7, b0, b1, b2, b3, b4, b5, b6, b7⟩ := HKEEP10.out w12 m12
  refine hK.out _ _ ⟨a0, a1, a2, a3, a4, a5, a6, a7, b0, b1, b2, b3, b4, b5, b6, b7⟩ (fun hHeld => ?_)
  clear hK K
  (try simp only [Act.put, List.setIfInBounds_toArray, List.set_cons_zero, List.set_cons_succ])
  (try simp only [List.set_cons_succ, List.set_cons_zero])
  refine wpAnyH_ready (rs := [17]) (by kernel_rfl) (by simp) ?_
  refine AllReadyH.cons (i := 17) rfl (fun K hK => ?_) AllReadyH.nil
  (try dsimp (config := { proj := false }) only [List.getElem_toArray, List.getElem_cons_succ, List.getElem_cons_zero])
  go_simp
  refine (HGAP2.out _ ?_).mono ?_
  · (repeat (first | exact m12 | refine Mod.drew ?_))
  rintro e w13 ⟨rfl, m13⟩
  clear a0 a1 a2 a3 a4 a5 a6 a7 b0 b1 b2 b3 b4 b5 b6 b7
  obtain ⟨a0, a1, a2, a3, a4, a5, a6, a7, b0, b1, b2, b3, b4, b5, b6, b7⟩ := HKEEP10.out w13 m13
  refine hK.out _ _ ⟨a0, a1, a2, a3, a4, a5, a6, a7, b0, b1, b2, b3, b4, b5, b6, b7⟩ (fun hHeld => ?_)
  clear hK K
  (try simp only [Act.put, List.setIfInBounds_toArray, List.set_cons_zero, List.set_cons_succ])
  (try simp only [List.set_cons_succ, List.set_cons_zero])
  refine wpAnyH_take (i := 18) (v := ?_) rfl (by kernel_rfl) (by kernel_rfl) (by kernel_rfl) (fun _ _ _ h => h) (Or.inl ⟨by kernel_rfl, ?_⟩) (by assumption) ?_
  rotate_left
  · intro w hSw; (try dsimp only at hSw); (first | (go_simp; done) | (go_simp; with_reducible rfl))
  (try simp only [Act.put, List.getElem_toArray, List.getElem_cons_succ, List.getElem_cons_zero, List.setIfInBounds_toArray, List.set_cons_succ, List.set_cons_zero])
  refine wpAnyH_take (i := 19) (v := ?_) rfl (by kernel_rfl) (by kernel_rfl) (by kernel_rfl) (fun _ _ _ h => h) (Or.inl ⟨by kernel_rfl, ?_⟩) (by assumption) ?_
  rotate_left
  · intro w hSw; (try dsimp only at hSw); (first | (go_simp; done) | (go_simp; with_reducible rfl))
  (try simp only [Act.put, List.getElem_toArray, List.getElem_cons_succ, List.getElem_cons_zero, List.setIfInBounds_toArray, List.set_cons_succ, List.set_cons_zero])
  refine wpAnyH_take (i := 20) (v := ?_) rfl (by kernel_rfl) (by kernel_rfl) (by kernel_rfl) (fun _ _ _ h => h) (Or.inl ⟨by kernel_rfl, ?_⟩) (by assumption) ?_
  rotate_left
  · intro w hSw; (try dsimp only at hSw); (first | (go_simp; done) | (go_simp; with_reducible rfl))
  (try simp only [Act.put, List.getElem_toArray, List.getElem_cons_succ, List.getElem_cons_zero, List.setIfInBounds_toArray, List.set_cons_succ, List.set_cons_zero])
  refine wpAnyH_take (i := 21) (v := ?_) rfl (by kernel_rfl) (by kernel_rfl) (by kernel_rfl) (fun _ _ _ h => h) (Or.inl ⟨by kernel_rfl, ?_⟩) (by assumption) ?_
  rotate_left
  · intro w hSw; (try dsimp only at hSw); (first | (go_simp; done) | (go_simp; with_reducible rfl))
  (try simp only [Act.put, List.getElem_toArray, List.getElem_cons_succ, List.getElem_cons_zero, List.setIfInBounds_toArray, List.set_cons_succ, List.set_cons_zero])
  refine wpAnyH_take (i := 23) (v := ?_) rfl (by kernel_rfl) (by kernel_rfl) (by kernel_rfl) (fun _ _ _ h => h) (Or.inl ⟨by kernel_rfl, ?_⟩) (by assumption) ?_
  rotate_left
  · intro w hSw; (try dsimp only at hSw); (first | (go_simp; done) | (go_simp; with_reducible rfl))
  (try simp only [Act.put, List.getElem_toArray, List.getElem_cons_succ, List.getElem_cons_zero, List.setIfInBounds_toArray, List.set_cons_succ, List.set_cons_zero])
  refine wpAnyH_ready (rs := [22]) (by kernel_rfl) (by simp) ?_
  refine AllReadyH.cons (i := 22) rfl (fun K hK => ?_) AllReadyH.nil
  (try dsimp (config := { proj := false }) only [List.getElem_toArray, List.getElem_cons_succ, List.getElem_cons_zero])
  go_simp
  refine (HEND1.out _ ?_).mono ?_
  · (repeat (first | exact m13 | refine Mod.drew ?_))
  rintro e w14 ⟨rfl, m14⟩
  clear a0 a1 a2 a3 a4 a5 a6 a7 b0 b1 b2 b3 b4 b5 b6 b7
  obtain ⟨a0, a1, a2, a3, a4, a5, a6, a7, b0, b1, b2, b3, b4, b5, b6, b7⟩ := HKEEP10.out w14 m14
  refine hK.out _ _ ⟨a0, a1, a2, a3, a4, a5, a6, a7, b0, b1, b2, b3, b4, b5, b6, b7⟩ (fun hHeld => ?_)
  clear hK K
  (try simp only [Act.put, List.setIfInBounds_toArray, List.set_cons_zero, List.set_cons_succ])
  (try simp only [List.set_cons_succ, List.set_cons_zero])
  refine wpAnyH_ready (rs := [24]) (by kernel_rfl) (by simp) ?_
  refine AllReadyH.cons (i := 24) rfl (fun K hK => ?_) AllReadyH.nil
  (try dsimp (config := { proj := false }) only [List.getElem_toArray, List.getElem_cons_succ, List.getElem_cons_zero])
  go_simp
  refine (HEND2.out _ ?_).mono ?_
  · (repeat (first | exact m14 | refine Mod.drew ?_))
  rintro e w15 ⟨rfl, m15⟩
  clear a0 a1 a2 a3 a4 a5 a6 a7 b0 b1 b2 b3 b4 b5 b6 b7
  obtain ⟨a0, a1, a2, a3, a4, a5, a6, a7, b0, b1, b2, b3, b4, b5, b6, b7⟩ := HKEEP10.out w15 m15
  refine hK.out _ _ ⟨a0, a1, a2, a3, a4, a5, a6, a7, b0, b1, b2, b3, b4, b5, b6, b7⟩ (fun hHeld => ?_)
  clear hK K
  (try simp only [Act.put, List.setIfInBounds_toArray, List.set_cons_zero, List.set_cons_succ])
  (try simp only [List.set_cons_succ, List.set_cons_zero])
  refine wpAnyH_take (i := 25) (v := ?_) rfl (by kernel_rfl) (by kernel_rfl) (by kernel_rfl) (fun _ _ _ h => h) (Or.inl ⟨by kernel_rfl, ?_⟩) (by assumption) ?_
  rotate_left
  · intro w hSw; (try dsimp only at hSw); (first | (go_simp; done) | (go_simp; with_reducible rfl))
  (try simp only [Act.put, List.getElem_toArray, List.getElem_cons_succ, List.getElem_cons_zero, List.setIfInBounds_toArray, List.set_cons_succ, List.set_cons_zero])
  refine wpAnyH_take (i := 26) (v := ?_) rfl (by kernel_rfl) (by kernel_rfl) (by kernel_rfl) (fun _ _ _ h => h) (Or.inl ⟨by kernel_rfl, ?_⟩) (by assumption) ?_
  rotate_left
  · intro w hSw; (try dsimp only at hSw); (first | (go_simp; done) | (go_simp; with_reducible rfl))
  (try simp only [Act.put, List.getElem_toArray, List.getElem_cons_succ, List.getElem_cons_zero, List.setIfInBounds_toArray, List.set_cons_succ, List.set_cons_zero])
  refine wpAnyH_take (i := 27) (v := ?_) rfl (by kernel_rfl) (by kernel_rfl) (by kernel_rfl) (fun _ _ _ h => h) (Or.inl ⟨by kernel_rfl, ?_⟩) (by assumption) ?_
  rotate_left
  · intro w hSw; (try dsimp only at hSw); (first | (go_simp; done) | (go_simp; with_reducible rfl))
  (try simp only [Act.put, List.getElem_toArray, List.getElem_cons_succ, List.getElem_cons_zero, List.setIfInBounds_toArray, List.set_cons_succ, List.set_cons_zero])
  refine wpAnyH_take (i := 28) (v := ?_) rfl (by kernel_rfl) (by kernel_rfl) (by kernel_rfl) (fun _ _ _ h => h) (Or.inl ⟨by kernel_rfl, ?_⟩) (by assumption) ?_
  rotate_left
  · intro w hSw; (try dsimp only at hSw); (first | (go_simp; done) | (go_simp; with_reducible rfl))
  (try simp only [Act.put, List.getElem_toArray, List.getElem_cons_succ, List.getElem_cons_zero, List.setIfInBounds_toArray, List.set_cons_succ, List.set_cons_zero])
  refine wpAnyH_take (i := 29) (v := ?_) rfl (by kernel_rfl) (by kernel_rfl) (by kernel_rfl) (fun _ _ _ h => h) (Or.inl ⟨by kernel_rfl, ?_⟩) (by assumption) ?_
  rotate_left
  · intro w hSw; (try dsimp only at hSw); (first | (go_simp; done) | (go_simp; with_reducible rfl))
  (try simp only [Act.put, List.getElem_toArray, List.getElem_cons_succ, List.getElem_cons_zero, List.setIfInBounds_toArray, List.set_cons_succ, List.set_cons_zero])
  refine wpAnyH_take (i := 30) (v := ?_) rfl (by kernel_rfl) (by kernel_rfl) (by kernel_rfl) (fun _ _ _ h => h) (Or.inl ⟨by kernel_rfl, ?_⟩) (by assumption) ?_
  rotate_left
  · intro w hSw; (try dsimp only at hSw); (first | (go_simp; done) | (go_simp; with_reducible rfl))
  (try simp only [Act.put, List.getElem_toArray, List.getElem_cons_succ, List.getElem_cons_zero, List.setIfInBounds_toArray, List.set_cons_succ, List.set_cons_zero])
  refine wpAnyH_take (i := 31) (v := ?_) rfl (by kernel_rfl) (by kernel_rfl) (by kernel_rfl) (fun _ _ _ h => h) (Or.inl ⟨by kernel_rfl, ?_⟩) (by assumption) ?_
  rotate_left
  · intro w hSw; (try dsimp only at hSw); (first | (go_simp; done) | (go_simp; with_reducible rfl))
  (try simp only [Act.put, List.getElem_toArray, List.getElem_cons_succ, List.getElem_cons_zero, List.setIfInBounds_toArray, List.set_cons_succ, List.set_cons_zero])
  refine wpAnyH_take (i := 32) (v := ?_) rfl (by kernel_rfl) (by kernel_rfl) (by kernel_rfl) (fun _ _ _ h => h) (Or.inl ⟨by kernel_rfl, ?_⟩) (by assumption) ?_
  rotate_left
  · intro w hSw; (try dsimp only at hSw); (first | (go_simp; done) | (go_simp; with_reducible rfl))
  (try simp only [Act.put, List.getElem_toArray, List.getElem_cons_succ, List.getElem_cons_zero, List.setIfInBounds_toArray, List.set_cons_succ, List.set_cons_zero])
  refine wpAnyH_take (i := 33) (v := ?_) rfl (by kernel_rfl) (by kernel_rfl) (by kernel_rfl) (fun _ _ _ h => h) (Or.inl ⟨by kernel_rfl, ?_⟩) (by assumption) ?_
  rotate_left
  · intro w hSw; (try dsimp only at hSw); (first | (go_simp; done) | (go_simp; with_reducible rfl))
  (try simp only [Act.put, List.getElem_toArray, List.getElem_cons_succ, List.getElem_cons_zero, List.setIfInBounds_toArray, List.set_cons_succ, List.set_cons_zero])
  refine wpAnyH_take (i := 34) (v := ?_) rfl (by kernel_rfl) (by kernel_rfl) (by kernel_rfl) (fun _ _ _ h => h) (Or.inl ⟨by kernel_rfl, ?_⟩) (by assumption) ?_
  rotate_left
  · intro w hSw; (try dsimp only at hSw); (first | (go_simp; done) | (go_simp; with_reducible rfl))
  (try simp only [Act.put, List.getElem_toArray, List.getElem_cons_succ, List.getElem_cons_zero, List.setIfInBounds_toArray, List.set_cons_succ, List.set_cons_zero])
  refine wpAnyH_take (i := 35) (v := ?_) rfl (by kernel_rfl) (by kernel_rfl) (by kernel_rfl) (fun _ _ _ h => h) (Or.inl ⟨by kernel_rfl, ?_⟩) (by assumption) ?_
  rotate_left
  · intro w hSw; (try dsimp only at hSw); (first | (go_simp; done) | (go_simp; with_reducible rfl))
  (try simp only [Act.put, List.getElem_toArray, List.getElem_cons_succ, List.getElem_cons_zero, List.setIfInBounds_toArray, List.set_cons_succ, List.set_cons_zero])
  refine wpAnyH_take (i := 36) (v := ?_) rfl (by kernel_rfl) (by kernel_rfl) (by kernel_rfl) (fun _ _ _ h => h) (Or.inl ⟨by kernel_rfl, ?_⟩) (by assumption) ?_
  rotate_left
  · intro w hSw; (try dsimp only at hSw); (first | (go_simp; done) | (go_simp; with_reducible rfl))
  (try simp only [Act.put, List.getElem_toArray, List.getElem_cons_succ, List.getElem_cons_zero, List.setIfInBounds_toArray, List.set_cons_succ, List.set_cons_zero])
  refine wpAnyH_take (i := 37) (v := ?_) rfl (by kernel_rfl) (by kernel_rfl) (by kernel_rfl) (fun _ _ _ h => h) (Or.inl ⟨by kernel_rfl, ?_⟩) (by assumption) ?_
  rotate_left
  · intro w hSw; (try dsimp only at hSw); (first | (go_simp; done) | (go_simp; with_reducible rfl))
  (try simp only [Act.put, List.getElem_toArray, List.getElem_cons_succ, List.getElem_cons_zero, List.setIfInBounds_toArray, List.set_cons_succ, List.set_cons_zero])
  refine wpAnyH_take (i := 38) (v := ?_) rfl (by kernel_rfl) (by kernel_rfl) (by kernel_rfl) (fun _ _ _ h => h) (Or.inl ⟨by kernel_rfl, ?_⟩) (by assumption) ?_
  rotate_left
  · intro w hSw; (try dsimp only at hSw); (first | (go_simp; done) | (go_simp; with_reducible rfl))
  (try simp only [Act.put, List.getElem_toArray, List.getElem_cons_succ, List.getElem_cons_zero, List.setIfInBounds_toArray, List.set_cons_succ, List.set_cons_zero])
  refine wpAnyH_take (i := 39) (v := ?_) rfl (by kernel_rfl) (by kernel_rfl) (by kernel_rfl) (fun _ _ _ h => h) (Or.inl ⟨by kernel_rfl, ?_⟩) (by assumption) ?_
  rotate_left
  · intro w hSw; (try dsimp only at hSw); (first | (go_simp; done) | (go_simp; with_reducible rfl))
  (try simp only [Act.put, List.getElem_toArray, List.getElem_cons_succ, List.getElem_cons_zero, List.setIfInBounds_toArray, List.set_cons_succ, List.set_cons_zero])
  refine wpAnyH_ready (rs := [40]) (by kernel_rfl) (by simp) ?_
  refine AllReadyH.cons (i := 40) rfl (fun K hK => ?_) AllReadyH.nil
  (try dsimp (config := { proj := false }) only [List.getElem_toArray, List.getElem_cons_succ, List.getElem_cons_zero])
  go_simp
  refine (HBYT.out _ ?_).mono ?_
  · (repeat (first | exact m15 | refine Mod.drew ?_))
  rintro e w16 ⟨rfl, m16⟩
  clear a0 a1 a2 a3 a4 a5 a6 a7 b0 b1 b2 b3 b4 b5 b6 b7
  obtain ⟨a0, a1, a2, a3, a4, a5, a6, a7, b0, b1, b2, b3, b4, b5, b6, b7⟩ := HKEEP10.out w16 m16
  have HE := Lib.hid (HPOST.out _ w16 ⟨rfl, HM6.out.thenNil (m10.thenNil m16)⟩)
  refine hK.out _ _ ⟨a0, a1, a2, a3, a4, a5, a6, a7, b0, b1, b2, b3, b4, b5, b6, b7⟩ (fun hHeld => ?_)
  clear hK K
  (try simp only [Act.put, List.setIfInBounds_toArray, List.set_cons_zero, List.set_cons_succ])
  (try simp only [List.set_cons_succ, List.set_cons_zero])
  refine wpAnyH_take (i := 41) (v := ?_) rfl (by kernel_rfl) (by kernel_rfl) (by kernel_rfl) (fun _ _ _ h => h) (Or.inl ⟨by kernel_rfl, ?_⟩) (by assumption) ?_
  rotate_left
  · intro w hSw; (try dsimp only at hSw); (first | (go_simp; done) | (go_simp; with_reducible rfl))
  (try simp only [Act.put, List.getElem_toArray, List.getElem_cons_succ, List.getElem_cons_zero, List.setIfInBounds_toArray, List.set_cons_succ, List.set_cons_zero])
  refine wpAnyH_take (i := 42) (v := ?_) rfl (by kernel_rfl) (by kernel_rfl) (by kernel_rfl) (fun _ _ _ h => h) (Or.inl ⟨by kernel_rfl, ?_⟩) (by assumption) ?_
  rotate_left
  · intro w hSw; (try dsimp only at hSw); (first | (go_simp; done) | (go_simp; with_reducible rfl))
  (try simp only [Act.put, List.getElem_toArray, List.getElem_cons_succ, List.getElem_cons_zero, List.setIfInBounds_toArray, List.set_cons_succ, List.set_cons_zero])
  refine wpAnyH_take (i := 43) (v := ?_) rfl (by kernel_rfl) (by kernel_rfl) (by kernel_rfl) (fun _ _ _ h => h) (Or.inl ⟨by kernel_rfl, ?_⟩) (by assumption) ?_
  rotate_left
  · intro w hSw; (try dsimp only at hSw); (first | (go_simp; done) | (go_simp; with_reducible rfl))
  (try simp only [Act.put, List.getElem_toArray, List.getElem_cons_succ, List.getElem_cons_zero, List.setIfInBounds_toArray, List.set_cons_succ, List.set_cons_zero])
  refine wpAnyH_take (i := 44) (v := ?_) rfl (by kernel_rfl) (by kernel_rfl) (by kernel_rfl) (fun _ _ _ h => h) (Or.inl ⟨by kernel_rfl, ?_⟩) (by assumption) ?_
  rotate_left
  · intro w hSw; (try dsimp only at hSw); (first | (go_simp; done) | (go_simp; with_reducible rfl))
  (try simp only [Act.put, List.getElem_toArray, List.getElem_cons_succ, List.getElem_cons_zero, List.setIfInBounds_toArray, List.set_cons_succ, List.set_cons_zero])
  refine wpAnyH_take (i := 45) (v := ?_) rfl (by kernel_rfl) (by kernel_rfl) (by kernel_rfl) (fun _ _ _ h => h) (Or.inl ⟨by kernel_rfl, ?_⟩) (by assumption) ?_
  rotate_left
  · intro w hSw; (try dsimp only at hSw); (first | (go_simp; done) | (go_simp; with_reducible rfl))
  (try simp only [Act.put, List.getElem_toArray, List.getElem_cons_succ, List.getElem_cons_zero, List.setIfInBounds_toArray, List.set_cons_succ, List.set_cons_zero])
  refine wpAnyH_take (i := 46) (v := ?_) rfl (by kernel_rfl) (by kernel_rfl) (by kernel_rfl) (fun _ _ _ h => h) (Or.inl ⟨by kernel_rfl, ?_⟩) (by assumption) ?_
  rotate_left
  · intro w hSw; (try dsimp only at hSw); (first | (go_simp; done) | (go_simp; with_reducible rfl))
  (try simp only [Act.put, List.getElem_toArray, List.getElem_cons_succ, List.getElem_cons_zero, List.setIfInBounds_toArray, List.set_cons_succ, List.set_cons_zero])
  refine wpAnyH_take (i := 47) (v := ?_) rfl (by kernel_rfl) (by kernel_rfl) (by kernel_rfl) (fun _ _ _ h => h) (Or.inl ⟨by kernel_rfl, ?_⟩) (by assumption) ?_
  rotate_left
  · intro w hSw; (try dsimp only at hSw); (first | (go_simp; done) | (go_simp; with_reducible rfl))
  (try simp only [Act.put, List.getElem_toArray, List.getElem_cons_succ, List.getElem_cons_zero, List.setIfInBounds_toArray, List.set_cons_succ, List.set_cons_zero])
  refine wpAnyH_done (by kernel_rfl) ?_ _
  go_wp2_with fail
  exact HE.out

set_option maxRecDepth 100000 in
theorem walkPlanTells (v0 v1 v2 v3 v4 v5 v6 : Value) (W : World) (r0 : Rd W 3 v0) (r1 : Rd W 25 v1) (r2 : Rd W 9 v2) (r3 : Rd W 3 v3) (r4 : Rd W 3 v4) (r5 : Rd W 3 v5) (r6 : Rd W 3 v6) :
    Calls Try.prog 5 #[v0, v1, v2, v3, v4, v5, v6] W fun e w' => e = .returned (.bool true) ∧ Below W.heap.size W w' := by
  obtain ⟨deal, rfl, _⟩ := r0.int Try.underlying3
  obtain ⟨pp, np, cp, ps, pl, nl, cl, ls, rfl, h1, h2, h3, h4, h5⟩ := r1.ringCap
  obtain ⟨s, rfl, hs⟩ := r2.string Try.underlying9
  obtain ⟨start, rfl, _⟩ := r3.int Try.underlying3
  obtain ⟨eps, rfl, _⟩ := r4.int Try.underlying3
  obtain ⟨wait, rfl, _⟩ := r5.int Try.underlying3
  obtain ⟨party, rfl, _⟩ := r6.int Try.underlying3
  have h := (lawPlanTells deal start eps wait party pp pl np cp nl cl ps ls s.data.toList W h3 h5 h1 h2 h4 (by simp only [Array.length_toList]; exact hs)).mono (fun e w' h => (show e = Ending.returned (.bool true) ∧ Below W.heap.size W w' from ⟨h.1, h.2.below⟩))
  simpa using h
end Go.Proofs.Ytpkhjdhbkkepgaa

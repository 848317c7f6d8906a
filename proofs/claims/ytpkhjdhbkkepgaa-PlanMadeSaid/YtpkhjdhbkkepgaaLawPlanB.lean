/- cfllaw21.PlanMade. (Printed by wip/tools/gen_lawplanb.py.) -/
import Derived.Test.YtpkhjdhbkkepgaaLawPlan
namespace Go.Proofs.Ytpkhjdhbkkepgaa
open Go.RowKit
theorem makeN_cases {deal : Int} {ps : List Int} {ls : List (List It)} {h : List UInt8} {start eps wait : Int} {P : Pl} {er : Int} (hm : makeN deal ps ls h start eps wait = (P, er)) :
    (er = 0 ∧ ∃ dl, mayN deal ps ls start eps wait ∧ ladderN ps.length start eps wait = some dl ∧ h.length = 32 ∧ P = ⟨deal, ps, ls, h, start, eps, wait, dl⟩) ∨ (er ≠ 0 ∧ P = Pl.zero) := by
  unfold makeN at hm
  split at hm
  · rename_i h1
    split at hm
    · obtain ⟨rfl, rfl⟩ := Prod.mk.inj hm; exact .inr ⟨by decide, rfl⟩
    · rename_i l hl
      split at hm
      · rename_i h3; obtain ⟨rfl, rfl⟩ := Prod.mk.inj hm; exact .inl ⟨rfl, l, h1, hl, h3, rfl⟩
      · obtain ⟨rfl, rfl⟩ := Prod.mk.inj hm; exact .inr ⟨by decide, rfl⟩
  · obtain ⟨rfl, rfl⟩ := Prod.mk.inj hm; exact .inr ⟨by decide, rfl⟩
theorem ladderN_some {n : Nat} {start eps wait : Int} {dl : List Int} (h : ladderN n start eps wait = some dl) : dl.length = n ∧ ladTop n start eps wait + ((n - 1 : Nat) : Int) * gapN eps wait ≤ 1099511627776 ∧ ∀ i, i < n → dl.getD i 0 = ladAt n (ladTop n start eps wait) (gapN eps wait) i := by
  unfold ladderN at h
  split at h
  · rename_i h1
    obtain rfl := Option.some.inj h
    exact ⟨by simp, h1, fun i hi => by simp [hi]⟩
  · cases h
set_option maxRecDepth 100000 in
set_option maxHeartbeats 8000000 in
theorem lawPlanMade (deal start eps wait : Int) (pp pl : Option Addr) (np cp nl cl : Nat) (ps : List Int) (ls : List (List It)) (w : World) (hp : IsRow (· < w.heap.size) w (.slice pp np cp) (ps.map (.int .i64))) (hl : IsLegs (· < w.heap.size) w (.slice pl nl cl) ls)
    (hpl : ps.length = np) (hll : ls.length = nl) (hnp : np ≤ maxLen) (hnl : nl ≤ maxLen) :
    Calls Try.prog 3 #[.int .i64 deal, .agg #[.slice pp np cp, .slice pl nl cl], .int .i64 start, .int .i64 eps, .int .i64 wait] w fun e w' => e = .returned (.bool true) ∧ Mod nil w w' := by
  refine (?_ : ∀ Post : Ending → World → Prop, Hid (∀ e w', (e = .returned (.bool true) ∧ Mod nil w w') → Post e w') → Calls Try.prog 3 #[.int .i64 deal, .agg #[.slice pp np cp, .slice pl nl cl], .int .i64 start, .int .i64 eps, .int .i64 wait] w Post) _ (Lib.hid (fun _ _ h => h))
  intro Post HPOST
  obtain ⟨Z, hZ⟩ : ∃ Z : List UInt8, List.replicate 32 0 = Z := ⟨_, rfl⟩
  have hZl : Z.length = 32 := by rw [← hZ]; simp
  have hmk : ∀ W, (Instr.makeSlice 28 (.int .i64 32) (.int .i64 32)).run Try.prog W = .ok (.slice (some ⟨W.heap.size, 0, none⟩) 32 32) (W.alloc (.cells (bys Z).toArray 5)) := fun W => by
    obtain ⟨i0, hi0, hz0, hz1, hz2⟩ := info_parts info_u8
    have := run_make_one 28 5 i0 _ 1 Try.underlying28 hi0 hz0 hz1 hz2 rfl 32 (by omega) (by unfold maxLen; omega) W
    rw [← hZ]
    simpa [bys] using this
  have HMK := Lib.hid hmk
  have HZL := Lib.hid hZl
  have HP := Lib.hid hp
  have HL := Lib.hid hl
  have HPL := Lib.hid hpl
  have HLL := Lib.hid hll
  obtain ⟨r, hr⟩ : ∃ r, w.heap.size = r := ⟨_, rfl⟩
  clear hmk hZ hZl hp hl hpl hll
  go_enter Try.func3, Try.ntmps3
  go_upto_region 1 with (fail)
  (try rw [hr])
  generalize hw1 : World.alloc w _ = w1
  have hm1 : Mod nil w w1 := by rw [← hw1]; exact (Mod.refl _ _).alloc _
  have hb1 : w1.heap[r]? = some (.cells #[.slice pp np cp, .slice pl nl cl] 25 (0, 0)) := by rw [← hw1, ← hr]; exact heap_alloc_new _ _
  have r0 := cell_of hb1 0
  have r1 := cell_of hb1 1
  simp only [List.getElem?_toArray, List.getElem?_cons_zero, List.getElem?_cons_succ] at r0 r1
  have HMw1 := Lib.hid hm1
  clear hw1 hm1 hb1 hr
  go_wp2_with fail
  refine (planFirst w1).mono ?_
  rintro e w' ⟨rfl, rfl⟩
  have HFEW := Lib.hid (planFew _ pp pl np cp nl cl ps ls w1 HPL.out (HL.out.modNil HMw1.out) hnp hnl)
  by_cases hfew : fewN ps ls
  case neg =>
    rw [decide_eq_false hfew] at HFEW
    clear hfew
    go_wp2_with fail
    refine HFEW.out.mono ?_
    rintro e w2 ⟨rfl, hm2⟩
    have HE := Lib.hid (HPOST.out _ w2 ⟨rfl, HMw1.out.thenNil hm2⟩)
    clear hm2
    go_wp2_with fail
    refine (planFirst w2).mono ?_
    rintro e w' ⟨rfl, rfl⟩
    go_wp2_with fail
    exact HE.out
  rw [decide_eq_true hfew] at HFEW
  have hnp1 : np ≤ 100 := by rw [← HPL.out]; exact hfew.2.1
  have hnl1 : nl ≤ 100 := by rw [← HLL.out]; exact hfew.2.2
  have HFW : Hid (∀ l ∈ ls, l.length ≤ 100) := Lib.hid (fun l hl => hfew.1 l (by rw [List.take_of_length_le hfew.2.2]; exact hl))
  clear hfew
  go_wp2_with fail
  refine HFEW.out.mono ?_
  rintro e w2 ⟨rfl, hm2⟩
  have r0' := cell_kept r0 hm2 (World.block_lt_of_cell? _ _ r0) (not_nil _)
  clear r0
  have r0 := r0'
  clear r0'
  have r1' := cell_kept r1 hm2 (World.block_lt_of_cell? _ _ r1) (not_nil _)
  clear r1
  have r1 := r1'
  clear r1'
  have HMw2 := Lib.hid (HMw1.out.thenNil hm2)
  clear hm2
  have hmk := HMK.out w2
  have hcv : (convert 28 9 (.slice (some ⟨w2.heap.size, 0, none⟩) 32 32)).run Try.prog (w2.alloc (.cells (bys Z).toArray 5)) = .ok (.string ⟨Z.toArray⟩) (w2.alloc (.cells (bys Z).toArray 5)) := rowText (IsRow.ofBlock (S := fun _ => True) (heap_alloc_new w2 (.cells (bys Z).toArray 5)) trivial 32 32 (by rw [bys_length, HZL.out]))
  go_upto_region 6 with (fail)
  clear hmk hcv
  generalize hw3 : World.alloc w2 _ = w3
  have hm3 : Mod nil w2 w3 := by rw [← hw3]; exact (Mod.refl _ _).alloc _
  have r0' := cell_kept r0 hm3 (World.block_lt_of_cell? _ _ r0) (not_nil _)
  clear r0
  have r0 := r0'
  clear r0'
  have r1' := cell_kept r1 hm3 (World.block_lt_of_cell? _ _ r1) (not_nil _)
  clear r1
  have r1 := r1'
  clear r1'
  have HMw3 := Lib.hid (HMw2.out.thenNil hm3)
  clear hw3 hm3
  obtain ⟨P1, er1, hmk1⟩ : ∃ P er, makeN deal ps ls Z start eps wait = (P, er) := ⟨_, _, rfl⟩
  have hcall := planMake _ deal start eps wait pp pl np cp nl cl ps ls Z w3 (HP.out.modNil HMw3.out) (HL.out.modNil HMw3.out) (by omega) (by omega) (fun l h => by have := HFW.out l h; omega) (by rw [HZL.out]; omega)
  rw [hmk1] at hcall
  have HC1 := Lib.hid hcall
  have HMK1 := Lib.hid hmk1
  clear hcall hmk1
  go_wp2_with fail
  refine HC1.out.mono ?_
  rintro e w4 ⟨v1, rfl, hpl1, hm4⟩
  have r0' := cell_kept r0 hm4 (World.block_lt_of_cell? _ _ r0) (not_nil _)
  clear r0
  have r0 := r0'
  clear r0'
  have r1' := cell_kept r1 hm4 (World.block_lt_of_cell? _ _ r1) (not_nil _)
  clear r1
  have r1 := r1'
  clear r1'
  have HMw4 := Lib.hid (HMw3.out.thenNil hm4)
  rcases makeN_cases HMK1.out with ⟨rfl, dl, hmay, hlad, -, rfl⟩ | ⟨her, hz⟩
  case inr =>
    have hb : (er1 != 0) = true := by simp [her]
    obtain ⟨p1x, c1x, p2x, c2x, p7x, c7x, rfl, -⟩ := hpl1
    have HE : Hid (∀ W, Mod nil w4 W → Post (.returned (.bool true)) W) := Lib.hid (fun W m => HPOST.out _ W ⟨rfl, HMw4.out.thenNil m⟩)
    clear hm4 r0 r1
    go_upto_region 7 with (fail)
    generalize hw5 : World.alloc w4 _ = w5
    have hm5 : Mod nil w4 w5 := by rw [← hw5]; exact (Mod.refl _ _).alloc _
    have HE5 := Lib.hid (HE.out w5 hm5)
    clear hw5 hm5
    go_wp2_with fail
    refine (planFirst w5).mono ?_
    rintro e w' ⟨rfl, rfl⟩
    go_wp2_with fail
    exact HE5.out
  clear hm4
  have HMAY := Lib.hid hmay
  have HLAD := Lib.hid hlad
  obtain ⟨p1a, c1a, p2a, c2a, p7a, c7a, rfl, hpa, hla, hda⟩ := hpl1
  simp only at hpa hla hda ⊢
  have hn7 : dl.length = np := by rw [(ladderN_some HLAD.out).1, HPL.out]
  have HN7 := Lib.hid hn7
  rw [HPL.out] at hpa ⊢
  rw [HLL.out] at hla ⊢
  rw [hn7] at hda ⊢
  have HPA := Lib.hid hpa
  have HLA := Lib.hid hla
  have HDA := Lib.hid hda
  clear hmay hlad hpa hla hda hn7
  go_upto_region 7 with (fail)
  obtain ⟨ra, hra⟩ : ∃ r, w4.heap.size = r := ⟨_, rfl⟩
  (try rw [hra])
  generalize hwra : World.alloc w4 _ = w5
  have hmw5 : Mod nil w4 w5 := by rw [← hwra]; exact (Mod.refl _ _).alloc _
  have hbw5 : w5.heap[ra]? = some (.cells #[.int .i64 deal, .slice p1a np c1a, .slice p2a nl c2a, .string ⟨Z.toArray⟩, .int .i64 start, .int .i64 eps, .int .i64 wait, .slice p7a np c7a] 30 (0, 0)) := by rw [← hwra, ← hra]; exact heap_alloc_new _ _
  have a0 := cell_of hbw5 0
  have a1 := cell_of hbw5 1
  have a2 := cell_of hbw5 2
  have a3 := cell_of hbw5 3
  have a4 := cell_of hbw5 4
  have a5 := cell_of hbw5 5
  have a6 := cell_of hbw5 6
  have a7 := cell_of hbw5 7
  simp only [List.getElem?_toArray, List.getElem?_cons_zero, List.getElem?_cons_succ] at a0 a1 a2 a3 a4 a5 a6 a7
  have HMw5 := Lib.hid (HMw4.out.thenNil hmw5)
  clear hwra hra hbw5
  have r0' := cell_kept r0 hmw5 (World.block_lt_of_cell? _ _ r0) (not_nil _)
  clear r0
  have r0 := r0'
  clear r0'
  have r1' := cell_kept r1 hmw5 (World.block_lt_of_cell? _ _ r1) (not_nil _)
  clear r1
  have r1 := r1'
  clear r1'
  have hm5b := hmw5
  clear hmw5
  have HBw5 := Lib.hid hm5b
  have hcall := planMake _ deal start eps wait p1a p2a np c1a nl c2a ps ls Z w5 (HPA.out.modNil HBw5.out) (HLA.out.modNil HBw5.out) (by omega) (by omega) (fun l h => by have := HFW.out l h; omega) (by rw [HZL.out]; omega)
  rw [HMK1.out] at hcall
  simp only at hcall
  have HC2 := Lib.hid hcall
  clear hcall hm5b
  go_wp2_with fail
  refine HC2.out.mono ?_
  rintro e w6 ⟨v2, rfl, hpl2, hm6⟩
  have a0' := cell_kept a0 hm6 (World.block_lt_of_cell? _ _ a0) (not_nil _)
  clear a0
  have a0 := a0'
  clear a0'
  have a1' := cell_kept a1 hm6 (World.block_lt_of_cell? _ _ a1) (not_nil _)
  clear a1
  have a1 := a1'
  clear a1'
  have a2' := cell_kept a2 hm6 (World.block_lt_of_cell? _ _ a2) (not_nil _)
  clear a2
  have a2 := a2'
  clear a2'
  have a3' := cell_kept a3 hm6 (World.block_lt_of_cell? _ _ a3) (not_nil _)
  clear a3
  have a3 := a3'
  clear a3'
  have a4' := cell_kept a4 hm6 (World.block_lt_of_cell? _ _ a4) (not_nil _)
  clear a4
  have a4 := a4'
  clear a4'
  have a5' := cell_kept a5 hm6 (World.block_lt_of_cell? _ _ a5) (not_nil _)
  clear a5
  have a5 := a5'
  clear a5'
  have a6' := cell_kept a6 hm6 (World.block_lt_of_cell? _ _ a6) (not_nil _)
  clear a6
  have a6 := a6'
  clear a6'
  have a7' := cell_kept a7 hm6 (World.block_lt_of_cell? _ _ a7) (not_nil _)
  clear a7
  have a7 := a7'
  clear a7'
  have r0' := cell_kept r0 hm6 (World.block_lt_of_cell? _ _ r0) (not_nil _)
  clear r0
  have r0 := r0'
  clear r0'
  have r1' := cell_kept r1 hm6 (World.block_lt_of_cell? _ _ r1) (not_nil _)
  clear r1
  have r1 := r1'
  clear r1'
  have HMw6 := Lib.hid (HMw5.out.thenNil hm6)
  have HBw6 := Lib.hid (HBw5.out.thenNil hm6)
  clear hm6
  obtain ⟨p1b, c1b, p2b, c2b, p7b, c7b, rfl, hpb, hlb, hdb⟩ := hpl2
  simp only at hpb hlb hdb ⊢
  rw [HPL.out] at hpb ⊢
  rw [HLL.out] at hlb ⊢
  rw [HN7.out] at hdb ⊢
  have HPB := Lib.hid hpb
  have HLB := Lib.hid hlb
  have HDB := Lib.hid hdb
  clear hpb hlb hdb
  go_upto_region 10 with (fail)
  obtain ⟨rb, hrb⟩ : ∃ r, w6.heap.size = r := ⟨_, rfl⟩
  (try rw [hrb])
  generalize hwrb : World.alloc w6 _ = w7
  have hmw7 : Mod nil w6 w7 := by rw [← hwrb]; exact (Mod.refl _ _).alloc _
  have hbw7 : w7.heap[rb]? = some (.cells #[.int .i64 deal, .slice p1b np c1b, .slice p2b nl c2b, .string ⟨Z.toArray⟩, .int .i64 start, .int .i64 eps, .int .i64 wait, .slice p7b np c7b] 30 (0, 0)) := by rw [← hwrb, ← hrb]; exact heap_alloc_new _ _
  have b0 := cell_of hbw7 0
  have b1 := cell_of hbw7 1
  have b2 := cell_of hbw7 2
  have b3 := cell_of hbw7 3
  have b4 := cell_of hbw7 4
  have b5 := cell_of hbw7 5
  have b6 := cell_of hbw7 6
  have b7 := cell_of hbw7 7
  simp only [List.getElem?_toArray, List.getElem?_cons_zero, List.getElem?_cons_succ] at b0 b1 b2 b3 b4 b5 b6 b7
  have HMw7 := Lib.hid (HMw6.out.thenNil hmw7)
  clear hwrb hrb hbw7
  have a0' := cell_kept a0 hmw7 (World.block_lt_of_cell? _ _ a0) (not_nil _)
  clear a0
  have a0 := a0'
  clear a0'
  have a1' := cell_kept a1 hmw7 (World.block_lt_of_cell? _ _ a1) (not_nil _)
  clear a1
  have a1 := a1'
  clear a1'
  have a2' := cell_kept a2 hmw7 (World.block_lt_of_cell? _ _ a2) (not_nil _)
  clear a2
  have a2 := a2'
  clear a2'
  have a3' := cell_kept a3 hmw7 (World.block_lt_of_cell? _ _ a3) (not_nil _)
  clear a3
  have a3 := a3'
  clear a3'
  have a4' := cell_kept a4 hmw7 (World.block_lt_of_cell? _ _ a4) (not_nil _)
  clear a4
  have a4 := a4'
  clear a4'
  have a5' := cell_kept a5 hmw7 (World.block_lt_of_cell? _ _ a5) (not_nil _)
  clear a5
  have a5 := a5'
  clear a5'
  have a6' := cell_kept a6 hmw7 (World.block_lt_of_cell? _ _ a6) (not_nil _)
  clear a6
  have a6 := a6'
  clear a6'
  have a7' := cell_kept a7 hmw7 (World.block_lt_of_cell? _ _ a7) (not_nil _)
  clear a7
  have a7 := a7'
  clear a7'
  have r0' := cell_kept r0 hmw7 (World.block_lt_of_cell? _ _ r0) (not_nil _)
  clear r0
  have r0 := r0'
  clear r0'
  have r1' := cell_kept r1 hmw7 (World.block_lt_of_cell? _ _ r1) (not_nil _)
  clear r1
  have r1 := r1'
  clear r1'
  have HBw7 := Lib.hid (HBw6.out.thenNil hmw7)
  have hsame := planSame _ _ (.agg #[.int .i64 deal, .slice p1a np c1a, .slice p2a nl c2a, .string ⟨Z.toArray⟩, .int .i64 start, .int .i64 eps, .int .i64 wait, .slice p7a np c7a]) (.agg #[.int .i64 deal, .slice p1b np c1b, .slice p2b nl c2b, .string ⟨Z.toArray⟩, .int .i64 start, .int .i64 eps, .int .i64 wait, .slice p7b np c7b]) ⟨deal, ps, ls, Z, start, eps, wait, dl⟩ ⟨deal, ps, ls, Z, start, eps, wait, dl⟩ w7 ⟨p1a, c1a, p2a, c2a, p7a, c7a, by simp only [HPL.out, HLL.out, HN7.out], by simp only [HPL.out]; exact HPA.out.modNil HBw7.out, by simp only [HLL.out]; exact HLA.out.modNil HBw7.out, by simp only [HN7.out]; exact HDA.out.modNil HBw7.out⟩
    ⟨p1b, c1b, p2b, c2b, p7b, c7b, by simp only [HPL.out, HLL.out, HN7.out], by simp only [HPL.out]; exact HPB.out.modNil hmw7, by simp only [HLL.out]; exact HLB.out.modNil hmw7, by simp only [HN7.out]; exact HDB.out.modNil hmw7⟩ ⟨by simp only [HPL.out]; omega, by simp only [HLL.out]; omega, by simp only [HN7.out]; omega, (fun l h => by have := HFW.out l h; omega)⟩
  rw [decide_eq_true rfl] at hsame
  have HSAME := Lib.hid hsame
  clear hsame hmw7
  go_wp2_with fail
  refine HSAME.out.mono ?_
  rintro e w8 ⟨rfl, hm8⟩
  have a0' := cell_kept a0 hm8 (World.block_lt_of_cell? _ _ a0) (not_nil _)
  clear a0
  have a0 := a0'
  clear a0'
  have a1' := cell_kept a1 hm8 (World.block_lt_of_cell? _ _ a1) (not_nil _)
  clear a1
  have a1 := a1'
  clear a1'
  have a2' := cell_kept a2 hm8 (World.block_lt_of_cell? _ _ a2) (not_nil _)
  clear a2
  have a2 := a2'
  clear a2'
  have a3' := cell_kept a3 hm8 (World.block_lt_of_cell? _ _ a3) (not_nil _)
  clear a3
  have a3 := a3'
  clear a3'
  have a4' := cell_kept a4 hm8 (World.block_lt_of_cell? _ _ a4) (not_nil _)
  clear a4
  have a4 := a4'
  clear a4'
  have a5' := cell_kept a5 hm8 (World.block_lt_of_cell? _ _ a5) (not_nil _)
  clear a5
  have a5 := a5'
  clear a5'
  have a6' := cell_kept a6 hm8 (World.block_lt_of_cell? _ _ a6) (not_nil _)
  clear a6
  have a6 := a6'
  clear a6'
  have a7' := cell_kept a7 hm8 (World.block_lt_of_cell? _ _ a7) (not_nil _)
  clear a7
  have a7 := a7'
  clear a7'
  have r0' := cell_kept r0 hm8 (World.block_lt_of_cell? _ _ r0) (not_nil _)
  clear r0
  have r0 := r0'
  clear r0'
  have r1' := cell_kept r1 hm8 (World.block_lt_of_cell? _ _ r1) (not_nil _)
  clear r1
  have r1 := r1'
  clear r1'
  have HMw8 := Lib.hid (HMw7.out.thenNil hm8)
  have HBw8 := Lib.hid (HBw7.out.thenNil hm8)
  clear hm8
  have HINT := Lib.hid (refInts _ _ (.slice p1a np c1a) (.slice pp np cp) ps ps w8 (HPA.out.modNil HBw8.out) (HP.out.modNil HMw8.out) (by rw [HPL.out]; omega))
  rw [decide_eq_true rfl] at HINT
  go_wp2_with fail
  refine HINT.out.mono ?_
  rintro e w9 ⟨rfl, n9, hw9⟩
  have hm9 : Mod nil w8 w9 := by rw [hw9]; exact (Mod.refl _ _).drewN _
  have a0' := cell_kept a0 hm9 (World.block_lt_of_cell? _ _ a0) (not_nil _)
  clear a0
  have a0 := a0'
  clear a0'
  have a1' := cell_kept a1 hm9 (World.block_lt_of_cell? _ _ a1) (not_nil _)
  clear a1
  have a1 := a1'
  clear a1'
  have a2' := cell_kept a2 hm9 (World.block_lt_of_cell? _ _ a2) (not_nil _)
  clear a2
  have a2 := a2'
  clear a2'
  have a3' := cell_kept a3 hm9 (World.block_lt_of_cell? _ _ a3) (not_nil _)
  clear a3
  have a3 := a3'
  clear a3'
  have a4' := cell_kept a4 hm9 (World.block_lt_of_cell? _ _ a4) (not_nil _)
  clear a4
  have a4 := a4'
  clear a4'
  have a5' := cell_kept a5 hm9 (World.block_lt_of_cell? _ _ a5) (not_nil _)
  clear a5
  have a5 := a5'
  clear a5'
  have a6' := cell_kept a6 hm9 (World.block_lt_of_cell? _ _ a6) (not_nil _)
  clear a6
  have a6 := a6'
  clear a6'
  have a7' := cell_kept a7 hm9 (World.block_lt_of_cell? _ _ a7) (not_nil _)
  clear a7
  have a7 := a7'
  clear a7'
  have r0' := cell_kept r0 hm9 (World.block_lt_of_cell? _ _ r0) (not_nil _)
  clear r0
  have r0 := r0'
  clear r0'
  have r1' := cell_kept r1 hm9 (World.block_lt_of_cell? _ _ r1) (not_nil _)
  clear r1
  have r1 := r1'
  clear r1'
  have HMw9 := Lib.hid (HMw8.out.thenNil hm9)
  have HBw9 := Lib.hid (HBw8.out.thenNil hm9)
  clear hm9 hw9
  have z1 : ((nl : Int) != (nl : Int)) = false := by simp
  have z2 : (deal != deal) = false := by simp
  have z3 : (start != start) = false := by simp
  have z4 : (eps != eps) = false := by simp
  have z5 : (wait != wait) = false := by simp
  have z6 : (Z != Z) = false := by simp
  go_wp2_with fail
  clear z1 z2 z3 z4 z5 z6 b0 b1 b2 b3 b4 b5 b6 b7 HSAME HINT HC1 HC2
  go_loopw [16] (fun v wr => ∃ i : Nat, i ≤ nl ∧ v = .int .i64 i ∧ Hid (Mod nil w9 wr)) (fun v _ => nl - (intOf v).toNat)
  case atStart => exact ⟨0, by omega, rfl, Lib.hid (Mod.refl _ _)⟩
  case round =>
    obtain ⟨i, hi, rfl, HMR⟩ := hrel
    have a0' := cell_kept a0 HMR.out (World.block_lt_of_cell? _ _ a0) (not_nil _)
    clear a0
    have a0 := a0'
    clear a0'
    have a1' := cell_kept a1 HMR.out (World.block_lt_of_cell? _ _ a1) (not_nil _)
    clear a1
    have a1 := a1'
    clear a1'
    have a2' := cell_kept a2 HMR.out (World.block_lt_of_cell? _ _ a2) (not_nil _)
    clear a2
    have a2 := a2'
    clear a2'
    have a3' := cell_kept a3 HMR.out (World.block_lt_of_cell? _ _ a3) (not_nil _)
    clear a3
    have a3 := a3'
    clear a3'
    have a4' := cell_kept a4 HMR.out (World.block_lt_of_cell? _ _ a4) (not_nil _)
    clear a4
    have a4 := a4'
    clear a4'
    have a5' := cell_kept a5 HMR.out (World.block_lt_of_cell? _ _ a5) (not_nil _)
    clear a5
    have a5 := a5'
    clear a5'
    have a6' := cell_kept a6 HMR.out (World.block_lt_of_cell? _ _ a6) (not_nil _)
    clear a6
    have a6 := a6'
    clear a6'
    have a7' := cell_kept a7 HMR.out (World.block_lt_of_cell? _ _ a7) (not_nil _)
    clear a7
    have a7 := a7'
    clear a7'
    have r0' := cell_kept r0 HMR.out (World.block_lt_of_cell? _ _ r0) (not_nil _)
    clear r0
    have r0 := r0'
    clear r0'
    have r1' := cell_kept r1 HMR.out (World.block_lt_of_cell? _ _ r1) (not_nil _)
    clear r1
    have r1 := r1'
    clear r1'
    have HMWR := Lib.hid (HMw9.out.thenNil HMR.out)
    have HBWR := Lib.hid (HBw9.out.thenNil HMR.out)
    by_cases hlt : i < nl
    · have hil : i < ls.length := by rw [HLL.out]; exact hlt
      obtain ⟨ba, oa, va, rfl, -, -, k0, hxa⟩ := (HLA.out.modNil HBWR.out).at i hil
      obtain ⟨bb, ob, vb, rfl, -, -, q0, hxb⟩ := (HL.out.modNil HMWR.out).at i hil
      obtain ⟨l, hll⟩ : ∃ l, ls[i] = l := ⟨_, rfl⟩
      rw [hll] at hxa hxb
      have hlm : l.length ≤ 100 := HFW.out l (by rw [← hll]; exact List.getElem_mem _)
      obtain ⟨pa, ca, rfl⟩ := hxa.form
      obtain ⟨pb, cb, rfl⟩ := hxb.form
      have HCS : Hid (∀ W, Mod nil wr W → Calls Try.prog 13 #[.slice pa l.length ca, .slice pb l.length cb] W fun e w' => e = .returned (.bool true) ∧ Mod nil W w') := Lib.hid (fun W m => by
        have h := sameItems _ _ pa pb l.length ca l.length cb l l W (hxa.modNil m) (hxb.modNil m) (by omega)
        rw [decide_eq_true rfl] at h
        exact h)
      obtain ⟨n, hn⟩ : ∃ n, l.length = n := ⟨_, rfl⟩
      rw [hn] at k0 q0 HCS
      have j1 := World.block_lt_of_cell? _ _ a2
      have j2 := World.block_lt_of_cell? _ _ k0
      have j3 := World.block_lt_of_cell? _ _ r1
      have j4 := World.block_lt_of_cell? _ _ q0
      clear hxa hxb hll hlm hn a0 a1 a3 a4 a5 a6 a7 r0
      go_upto_region 15 with (fail)
      go_region_held3 (fun w' => w'.cell? ⟨ra, 2, none⟩ = some (.slice (some ⟨ba, oa, none⟩) nl c2a) ∧ w'.cell? ⟨ba, oa + i, none⟩ = some (.slice pa n ca) ∧ w'.cell? ⟨r, 1, none⟩ = some (.slice (some ⟨bb, ob, none⟩) nl cl) ∧ w'.cell? ⟨bb, ob + i, none⟩ = some (.slice pb n cb)) (first | exact ⟨a2, k0, r1, q0⟩ | exact ⟨a2', k0', r1', q0'⟩) (first
        | (go_at_call 13; refine (HCS.out _ ?_).mono ?_; (repeat (first | exact Mod.refl _ _ | refine Mod.drew ?_)); rintro e wq ⟨rfl, hmq⟩; have hmq' := (by (repeat (refine Mod.drew ?_)); exact Mod.refl nil wr : Mod nil wr _).thenNil hmq; have a2' := cell_kept a2 hmq' j1 (not_nil _); have k0' := cell_kept k0 hmq' j2 (not_nil _); have r1' := cell_kept r1 hmq' j3 (not_nil _); have q0' := cell_kept q0 hmq' j4 (not_nil _)))
      have HMN := Lib.hid (HMR.out.thenNil hmq')
      clear hmq hmq'
      go_wp2_with fail
      exact ⟨⟨i + 1, by omega, by go_num, HMN⟩, by simp [intOf]; omega⟩
    · obtain rfl : nl = i := by omega
      obtain ⟨t1, t2, t3, t4⟩ := HMAY.out.2.2.2.2.2.2
      have h2p : 2 ≤ np := by rw [← HPL.out]; exact HMAY.out.2.2.1.1
      obtain ⟨wait1, hwt⟩ : ∃ x, wait + 1 = x := ⟨_, rfl⟩
      have hww : IntKind.i64.wrap (wait + 1) = wait1 := by rw [hwt, IntKind.wrap_i64]; omega
      obtain ⟨P3, er3, hmk3⟩ : ∃ P er, makeN deal ps ls Z start eps wait1 = (P, er) := ⟨_, _, rfl⟩
      have hcall := planMake _ deal start eps wait1 pp pl np cp nl cl ps ls Z wr (HP.out.modNil HMWR.out) (HL.out.modNil HMWR.out) (by omega) (by omega) (fun l h => by have := HFW.out l h; omega) (by rw [HZL.out]; omega)
      rw [hmk3] at hcall
      have HC3 := Lib.hid hcall
      have HMK3 := Lib.hid hmk3
      have HWT := Lib.hid hwt
      clear hcall hmk3 hwt
      go_wp2_with fail
      refine HC3.out.mono ?_
      rintro e w10 ⟨v3, rfl, hpl3, hm10⟩
      have a0' := cell_kept a0 hm10 (World.block_lt_of_cell? _ _ a0) (not_nil _)
      clear a0
      have a0 := a0'
      clear a0'
      have a1' := cell_kept a1 hm10 (World.block_lt_of_cell? _ _ a1) (not_nil _)
      clear a1
      have a1 := a1'
      clear a1'
      have a2' := cell_kept a2 hm10 (World.block_lt_of_cell? _ _ a2) (not_nil _)
      clear a2
      have a2 := a2'
      clear a2'
      have a3' := cell_kept a3 hm10 (World.block_lt_of_cell? _ _ a3) (not_nil _)
      clear a3
      have a3 := a3'
      clear a3'
      have a4' := cell_kept a4 hm10 (World.block_lt_of_cell? _ _ a4) (not_nil _)
      clear a4
      have a4 := a4'
      clear a4'
      have a5' := cell_kept a5 hm10 (World.block_lt_of_cell? _ _ a5) (not_nil _)
      clear a5
      have a5 := a5'
      clear a5'
      have a6' := cell_kept a6 hm10 (World.block_lt_of_cell? _ _ a6) (not_nil _)
      clear a6
      have a6 := a6'
      clear a6'
      have a7' := cell_kept a7 hm10 (World.block_lt_of_cell? _ _ a7) (not_nil _)
      clear a7
      have a7 := a7'
      clear a7'
      have r0' := cell_kept r0 hm10 (World.block_lt_of_cell? _ _ r0) (not_nil _)
      clear r0
      have r0 := r0'
      clear r0'
      have r1' := cell_kept r1 hm10 (World.block_lt_of_cell? _ _ r1) (not_nil _)
      clear r1
      have r1 := r1'
      clear r1'
      have HMw10 := Lib.hid (HMWR.out.thenNil hm10)
      have HBw10 := Lib.hid (HBWR.out.thenNil hm10)
      clear hm10
      rcases makeN_cases HMK3.out with ⟨rfl, dl3, hmay3, hlad3, -, rfl⟩ | ⟨her, hz⟩
      case inr =>
        have hb : (er3 != 0) = true := by simp [her]
        obtain ⟨p1x, c1x, p2x, c2x, p7x, c7x, rfl, -⟩ := hpl3
        clear hz her HC3 HMK3
        go_upto_region 18 with (fail)
        generalize hw11 : World.alloc w10 _ = w11
        have hm11 : Mod nil w10 w11 := by rw [← hw11]; exact (Mod.refl _ _).alloc _
        have HE : Hid (∀ W, Mod nil w11 W → Post (.returned (.bool true)) W) := Lib.hid (fun W m => HPOST.out _ W ⟨rfl, (HMw10.out.thenNil hm11).thenNil m⟩)
        clear hw11 hm11 a0 a1 a2 a3 a4 a5 a6 a7 r0 r1
        go_upto_region 18 with (fail)
        refine wp_region_held_drew (S := (fun _ => True)) (by kernel_rfl) (trivial) (fun hHeld => ?_)
        refine wpAnyH_ready (rs := [0]) (by kernel_rfl) (by simp) ?_
        refine AllReadyH.cons (i := 0) rfl (fun K hK => ?_) AllReadyH.nil
        (try dsimp (config := { proj := false }) only [List.getElem_toArray, List.getElem_cons_succ, List.getElem_cons_zero])
        go_simp
        refine (planFirst _).mono ?_
        rintro e w' ⟨rfl, rfl⟩
        refine hK.out _ _ trivial (fun hHeld => ?_)
        clear hK K
        (try simp only [Act.put, List.setIfInBounds_toArray, List.set_cons_zero, List.set_cons_succ])
        (try simp only [List.set_cons_succ, List.set_cons_zero])
        refine wpAnyH_take (i := 1) (v := ?_) rfl (by kernel_rfl) (by kernel_rfl) (by kernel_rfl) (fun _ _ _ h => h) (Or.inl ⟨by kernel_rfl, ?_⟩) (by assumption) ?_
        rotate_left
        · intro w hSw; (try dsimp only at hSw); (first | (go_simp; done) | (go_simp; with_reducible rfl))
        (try simp only [Act.put, List.getElem_toArray, List.getElem_cons_succ, List.getElem_cons_zero, List.setIfInBounds_toArray, List.set_cons_succ, List.set_cons_zero])
        refine wpAnyH_take (i := 2) (v := ?_) rfl (by kernel_rfl) (by kernel_rfl) (by kernel_rfl) (fun _ _ _ h => h) (Or.inl ⟨by kernel_rfl, ?_⟩) (by assumption) ?_
        rotate_left
        · intro w hSw; (try dsimp only at hSw); (first | (go_simp; done) | (go_simp; with_reducible rfl))
        (try simp only [Act.put, List.getElem_toArray, List.getElem_cons_succ, List.getElem_cons_zero, List.setIfInBounds_toArray, List.set_cons_succ, List.set_cons_zero])
        refine wpAnyH_take (i := 3) (v := ?_) rfl (by kernel_rfl) (by kernel_rfl) (by kernel_rfl) (fun _ _ _ h => h) (Or.inl ⟨by kernel_rfl, ?_⟩) (by assumption) ?_
        rotate_left
        · intro w hSw; (try dsimp only at hSw); (first | (go_simp; done) | (go_simp; with_reducible rfl))
        (try simp only [Act.put, List.getElem_toArray, List.getElem_cons_succ, List.getElem_cons_zero, List.setIfInBounds_toArray, List.set_cons_succ, List.set_cons_zero])
        refine wpAnyH_take (i := 4) (v := ?_) rfl (by kernel_rfl) (by kernel_rfl) (by kernel_rfl) (fun _ _ _ h => h) (Or.inl ⟨by kernel_rfl, ?_⟩) (by assumption) ?_
        rotate_left
        · intro w hSw; (try dsimp only at hSw); (first | (go_simp; done) | (go_simp; with_reducible rfl))
        (try simp only [Act.put, List.getElem_toArray, List.getElem_cons_succ, List.getElem_cons_zero, List.setIfInBounds_toArray, List.set_cons_succ, List.set_cons_zero])
        refine wpAnyH_take (i := 5) (v := undef) rfl (by kernel_rfl) (by kernel_rfl) (by kernel_rfl) (fun _ _ _ h => h) (Or.inr ⟨by kernel_rfl, rfl⟩) (by assumption) ?_
        (try simp only [Act.put, List.getElem_toArray, List.getElem_cons_succ, List.getElem_cons_zero, List.setIfInBounds_toArray, List.set_cons_succ, List.set_cons_zero])
        refine wpAnyH_take (i := 6) (v := undef) rfl (by kernel_rfl) (by kernel_rfl) (by kernel_rfl) (fun _ _ _ h => h) (Or.inr ⟨by kernel_rfl, rfl⟩) (by assumption) ?_
        (try simp only [Act.put, List.getElem_toArray, List.getElem_cons_succ, List.getElem_cons_zero, List.setIfInBounds_toArray, List.set_cons_succ, List.set_cons_zero])
        refine wpAnyH_take (i := 7) (v := undef) rfl (by kernel_rfl) (by kernel_rfl) (by kernel_rfl) (fun _ _ _ h => h) (Or.inr ⟨by kernel_rfl, rfl⟩) (by assumption) ?_
        (try simp only [Act.put, List.getElem_toArray, List.getElem_cons_succ, List.getElem_cons_zero, List.setIfInBounds_toArray, List.set_cons_succ, List.set_cons_zero])
        refine wpAnyH_take (i := 8) (v := undef) rfl (by kernel_rfl) (by kernel_rfl) (by kernel_rfl) (fun _ _ _ h => h) (Or.inr ⟨by kernel_rfl, rfl⟩) (by assumption) ?_
        (try simp only [Act.put, List.getElem_toArray, List.getElem_cons_succ, List.getElem_cons_zero, List.setIfInBounds_toArray, List.set_cons_succ, List.set_cons_zero])
        refine wpAnyH_take (i := 9) (v := undef) rfl (by kernel_rfl) (by kernel_rfl) (by kernel_rfl) (fun _ _ _ h => h) (Or.inr ⟨by kernel_rfl, rfl⟩) (by assumption) ?_
        (try simp only [Act.put, List.getElem_toArray, List.getElem_cons_succ, List.getElem_cons_zero, List.setIfInBounds_toArray, List.set_cons_succ, List.set_cons_zero])
        refine wpAnyH_take (i := 10) (v := undef) rfl (by kernel_rfl) (by kernel_rfl) (by kernel_rfl) (fun _ _ _ h => h) (Or.inr ⟨by kernel_rfl, rfl⟩) (by assumption) ?_
        (try simp only [Act.put, List.getElem_toArray, List.getElem_cons_succ, List.getElem_cons_zero, List.setIfInBounds_toArray, List.set_cons_succ, List.set_cons_zero])
        refine wpAnyH_take (i := 11) (v := undef) rfl (by kernel_rfl) (by kernel_rfl) (by kernel_rfl) (fun _ _ _ h => h) (Or.inr ⟨by kernel_rfl, rfl⟩) (by assumption) ?_
        (try simp only [Act.put, List.getElem_toArray, List.getElem_cons_succ, List.getElem_cons_zero, List.setIfInBounds_toArray, List.set_cons_succ, List.set_cons_zero])
        refine wpAnyH_take (i := 12) (v := undef) rfl (by kernel_rfl) (by kernel_rfl) (by kernel_rfl) (fun _ _ _ h => h) (Or.inr ⟨by kernel_rfl, rfl⟩) (by assumption) ?_
        (try simp only [Act.put, List.getElem_toArray, List.getElem_cons_succ, List.getElem_cons_zero, List.setIfInBounds_toArray, List.set_cons_succ, List.set_cons_zero])
        refine wpAnyH_take (i := 13) (v := undef) rfl (by kernel_rfl) (by kernel_rfl) (by kernel_rfl) (fun _ _ _ h => h) (Or.inr ⟨by kernel_rfl, rfl⟩) (by assumption) ?_
        (try simp only [Act.put, List.getElem_toArray, List.getElem_cons_succ, List.getElem_cons_zero, List.setIfInBounds_toArray, List.set_cons_succ, List.set_cons_zero])
        refine wpAnyH_take (i := 14) (v := undef) rfl (by kernel_rfl) (by kernel_rfl) (by kernel_rfl) (fun _ _ _ h => h) (Or.inr ⟨by kernel_rfl, rfl⟩) (by assumption) ?_
        (try simp only [Act.put, List.getElem_toArray, List.getElem_cons_succ, List.getElem_cons_zero, List.setIfInBounds_toArray, List.set_cons_succ, List.set_cons_zero])
        refine wpAnyH_take (i := 15) (v := undef) rfl (by kernel_rfl) (by kernel_rfl) (by kernel_rfl) (fun _ _ _ h => h) (Or.inr ⟨by kernel_rfl, rfl⟩) (by assumption) ?_
        (try simp only [Act.put, List.getElem_toArray, List.getElem_cons_succ, List.getElem_cons_zero, List.setIfInBounds_toArray, List.set_cons_succ, List.set_cons_zero])
        refine wpAnyH_take (i := 16) (v := undef) rfl (by kernel_rfl) (by kernel_rfl) (by kernel_rfl) (fun _ _ _ h => h) (Or.inr ⟨by kernel_rfl, rfl⟩) (by assumption) ?_
        (try simp only [Act.put, List.getElem_toArray, List.getElem_cons_succ, List.getElem_cons_zero, List.setIfInBounds_toArray, List.set_cons_succ, List.set_cons_zero])
        refine wpAnyH_take (i := 17) (v := undef) rfl (by kernel_rfl) (by kernel_rfl) (by kernel_rfl) (fun _ _ _ h => h) (Or.inr ⟨by kernel_rfl, rfl⟩) (by assumption) ?_
        (try simp only [Act.put, List.getElem_toArray, List.getElem_cons_succ, List.getElem_cons_zero, List.setIfInBounds_toArray, List.set_cons_succ, List.set_cons_zero])
        refine wpAnyH_take (i := 18) (v := undef) rfl (by kernel_rfl) (by kernel_rfl) (by kernel_rfl) (fun _ _ _ h => h) (Or.inr ⟨by kernel_rfl, rfl⟩) (by assumption) ?_
        (try simp only [Act.put, List.getElem_toArray, List.getElem_cons_succ, List.getElem_cons_zero, List.setIfInBounds_toArray, List.set_cons_succ, List.set_cons_zero])
        refine wpAnyH_take (i := 19) (v := undef) rfl (by kernel_rfl) (by kernel_rfl) (by kernel_rfl) (fun _ _ _ h => h) (Or.inr ⟨by kernel_rfl, rfl⟩) (by assumption) ?_
        (try simp only [Act.put, List.getElem_toArray, List.getElem_cons_succ, List.getElem_cons_zero, List.setIfInBounds_toArray, List.set_cons_succ, List.set_cons_zero])
        refine wpAnyH_take (i := 20) (v := undef) rfl (by kernel_rfl) (by kernel_rfl) (by kernel_rfl) (fun _ _ _ h => h) (Or.inr ⟨by kernel_rfl, rfl⟩) (by assumption) ?_
        (try simp only [Act.put, List.getElem_toArray, List.getElem_cons_succ, List.getElem_cons_zero, List.setIfInBounds_toArray, List.set_cons_succ, List.set_cons_zero])
        refine wpAnyH_take (i := 21) (v := undef) rfl (by kernel_rfl) (by kernel_rfl) (by kernel_rfl) (fun _ _ _ h => h) (Or.inr ⟨by kernel_rfl, rfl⟩) (by assumption) ?_
        (try simp only [Act.put, List.getElem_toArray, List.getElem_cons_succ, List.getElem_cons_zero, List.setIfInBounds_toArray, List.set_cons_succ, List.set_cons_zero])
        refine wpAnyH_take (i := 22) (v := undef) rfl (by kernel_rfl) (by kernel_rfl) (by kernel_rfl) (fun _ _ _ h => h) (Or.inr ⟨by kernel_rfl, rfl⟩) (by assumption) ?_
        (try simp only [Act.put, List.getElem_toArray, List.getElem_cons_succ, List.getElem_cons_zero, List.setIfInBounds_toArray, List.set_cons_succ, List.set_cons_zero])
        refine wpAnyH_take (i := 23) (v := undef) rfl (by kernel_rfl) (by kernel_rfl) (by kernel_rfl) (fun _ _ _ h => h) (Or.inr ⟨by kernel_rfl, rfl⟩) (by assumption) ?_
        (try simp only [Act.put, List.getElem_toArray, List.getElem_cons_succ, List.getElem_cons_zero, List.setIfInBounds_toArray, List.set_cons_succ, List.set_cons_zero])
        refine wpAnyH_take (i := 24) (v := undef) rfl (by kernel_rfl) (by kernel_rfl) (by kernel_rfl) (fun _ _ _ h => h) (Or.inr ⟨by kernel_rfl, rfl⟩) (by assumption) ?_
        (try simp only [Act.put, List.getElem_toArray, List.getElem_cons_succ, List.getElem_cons_zero, List.setIfInBounds_toArray, List.set_cons_succ, List.set_cons_zero])
        refine wpAnyH_take (i := 25) (v := undef) rfl (by kernel_rfl) (by kernel_rfl) (by kernel_rfl) (fun _ _ _ h => h) (Or.inr ⟨by kernel_rfl, rfl⟩) (by assumption) ?_
        (try simp only [Act.put, List.getElem_toArray, List.getElem_cons_succ, List.getElem_cons_zero, List.setIfInBounds_toArray, List.set_cons_succ, List.set_cons_zero])
        refine wpAnyH_take (i := 26) (v := undef) rfl (by kernel_rfl) (by kernel_rfl) (by kernel_rfl) (fun _ _ _ h => h) (Or.inr ⟨by kernel_rfl, rfl⟩) (by assumption) ?_
        (try simp only [Act.put, List.getElem_toArray, List.getElem_cons_succ, List.getElem_cons_zero, List.setIfInBounds_toArray, List.set_cons_succ, List.set_cons_zero])
        refine wpAnyH_take (i := 27) (v := undef) rfl (by kernel_rfl) (by kernel_rfl) (by kernel_rfl) (fun _ _ _ h => h) (Or.inr ⟨by kernel_rfl, rfl⟩) (by assumption) ?_
        (try simp only [Act.put, List.getElem_toArray, List.getElem_cons_succ, List.getElem_cons_zero, List.setIfInBounds_toArray, List.set_cons_succ, List.set_cons_zero])
        refine wpAnyH_take (i := 28) (v := undef) rfl (by kernel_rfl) (by kernel_rfl) (by kernel_rfl) (fun _ _ _ h => h) (Or.inr ⟨by kernel_rfl, rfl⟩) (by assumption) ?_
        (try simp only [Act.put, List.getElem_toArray, List.getElem_cons_succ, List.getElem_cons_zero, List.setIfInBounds_toArray, List.set_cons_succ, List.set_cons_zero])
        refine wpAnyH_take (i := 29) (v := undef) rfl (by kernel_rfl) (by kernel_rfl) (by kernel_rfl) (fun _ _ _ h => h) (Or.inr ⟨by kernel_rfl, rfl⟩) (by assumption) ?_
        (try simp only [Act.put, List.getElem_toArray, List.getElem_cons_succ, List.getElem_cons_zero, List.setIfInBounds_toArray, List.set_cons_succ, List.set_cons_zero])
        refine wpAnyH_take (i := 30) (v := undef) rfl (by kernel_rfl) (by kernel_rfl) (by kernel_rfl) (fun _ _ _ h => h) (Or.inr ⟨by kernel_rfl, rfl⟩) (by assumption) ?_
        (try simp only [Act.put, List.getElem_toArray, List.getElem_cons_succ, List.getElem_cons_zero, List.setIfInBounds_toArray, List.set_cons_succ, List.set_cons_zero])
        refine wpAnyH_take (i := 31) (v := undef) rfl (by kernel_rfl) (by kernel_rfl) (by kernel_rfl) (fun _ _ _ h => h) (Or.inr ⟨by kernel_rfl, rfl⟩) (by assumption) ?_
        (try simp only [Act.put, List.getElem_toArray, List.getElem_cons_succ, List.getElem_cons_zero, List.setIfInBounds_toArray, List.set_cons_succ, List.set_cons_zero])
        refine wpAnyH_take (i := 32) (v := undef) rfl (by kernel_rfl) (by kernel_rfl) (by kernel_rfl) (fun _ _ _ h => h) (Or.inr ⟨by kernel_rfl, rfl⟩) (by assumption) ?_
        (try simp only [Act.put, List.getElem_toArray, List.getElem_cons_succ, List.getElem_cons_zero, List.setIfInBounds_toArray, List.set_cons_succ, List.set_cons_zero])
        refine wpAnyH_take (i := 33) (v := undef) rfl (by kernel_rfl) (by kernel_rfl) (by kernel_rfl) (fun _ _ _ h => h) (Or.inr ⟨by kernel_rfl, rfl⟩) (by assumption) ?_
        (try simp only [Act.put, List.getElem_toArray, List.getElem_cons_succ, List.getElem_cons_zero, List.setIfInBounds_toArray, List.set_cons_succ, List.set_cons_zero])
        refine wpAnyH_take (i := 34) (v := undef) rfl (by kernel_rfl) (by kernel_rfl) (by kernel_rfl) (fun _ _ _ h => h) (Or.inr ⟨by kernel_rfl, rfl⟩) (by assumption) ?_
        (try simp only [Act.put, List.getElem_toArray, List.getElem_cons_succ, List.getElem_cons_zero, List.setIfInBounds_toArray, List.set_cons_succ, List.set_cons_zero])
        refine wpAnyH_take (i := 35) (v := undef) rfl (by kernel_rfl) (by kernel_rfl) (by kernel_rfl) (fun _ _ _ h => h) (Or.inr ⟨by kernel_rfl, rfl⟩) (by assumption) ?_
        (try simp only [Act.put, List.getElem_toArray, List.getElem_cons_succ, List.getElem_cons_zero, List.setIfInBounds_toArray, List.set_cons_succ, List.set_cons_zero])
        refine wpAnyH_take (i := 36) (v := ?_) rfl (by kernel_rfl) (by kernel_rfl) (by kernel_rfl) (fun _ _ _ h => h) (Or.inl ⟨by kernel_rfl, ?_⟩) (by assumption) ?_
        rotate_left
        · intro w hSw; (try dsimp only at hSw); (first | (go_simp; done) | (go_simp; with_reducible rfl))
        (try simp only [Act.put, List.getElem_toArray, List.getElem_cons_succ, List.getElem_cons_zero, List.setIfInBounds_toArray, List.set_cons_succ, List.set_cons_zero])
        refine wpAnyH_take (i := 37) (v := ?_) rfl (by kernel_rfl) (by kernel_rfl) (by kernel_rfl) (fun _ _ _ h => h) (Or.inl ⟨by kernel_rfl, ?_⟩) (by assumption) ?_
        rotate_left
        · intro w hSw; (try dsimp only at hSw); (first | (go_simp; done) | (go_simp; with_reducible rfl))
        (try simp only [Act.put, List.getElem_toArray, List.getElem_cons_succ, List.getElem_cons_zero, List.setIfInBounds_toArray, List.set_cons_succ, List.set_cons_zero])
        refine wpAnyH_take (i := 38) (v := ?_) rfl (by kernel_rfl) (by kernel_rfl) (by kernel_rfl) (fun _ _ _ h => h) (Or.inl ⟨by kernel_rfl, ?_⟩) (by assumption) ?_
        rotate_left
        · intro w hSw; (try dsimp only at hSw); (first | (go_simp; done) | (go_simp; with_reducible rfl))
        (try simp only [Act.put, List.getElem_toArray, List.getElem_cons_succ, List.getElem_cons_zero, List.setIfInBounds_toArray, List.set_cons_succ, List.set_cons_zero])
        refine wpAnyH_done (by kernel_rfl) ?_ _
        go_wp2_with fail
        exact HE.out _ (by (repeat (first | exact Mod.refl _ _ | refine Mod.drew ?_)))
      have hd3 : dl3.length = np := by rw [(ladderN_some hlad3).1, HPL.out]
      have HD3 := Lib.hid hd3
      have HLAD3 := Lib.hid hlad3
      have HMAY3 := Lib.hid hmay3
      obtain ⟨p1c, c1c, p2c, c2c, p7c, c7c, rfl, -, -, hdc⟩ := hpl3
      simp only at hdc ⊢
      rw [HPL.out, HLL.out, hd3]
      rw [hd3] at hdc
      have HDC := Lib.hid hdc
      clear hd3 hlad3 hmay3 hdc HC3 HMK3
      go_upto_region 18 with (fail)
      obtain ⟨rc, hrc⟩ : ∃ r, w10.heap.size = r := ⟨_, rfl⟩
      (try rw [hrc])
      generalize hwrc : World.alloc w10 _ = w11
      have hmw11 : Mod nil w10 w11 := by rw [← hwrc]; exact (Mod.refl _ _).alloc _
      have hbw11 : w11.heap[rc]? = some (.cells #[.int .i64 deal, .slice p1c np c1c, .slice p2c nl c2c, .string ⟨Z.toArray⟩, .int .i64 start, .int .i64 eps, .int .i64 wait1, .slice p7c np c7c] 30 (0, 0)) := by rw [← hwrc, ← hrc]; exact heap_alloc_new _ _
      have c0 := cell_of hbw11 0
      have c1 := cell_of hbw11 1
      have c2 := cell_of hbw11 2
      have c3 := cell_of hbw11 3
      have c4 := cell_of hbw11 4
      have c5 := cell_of hbw11 5
      have c6 := cell_of hbw11 6
      have c7 := cell_of hbw11 7
      simp only [List.getElem?_toArray, List.getElem?_cons_zero, List.getElem?_cons_succ] at c0 c1 c2 c3 c4 c5 c6 c7
      have HMw11 := Lib.hid (HMw10.out.thenNil hmw11)
      clear hwrc hrc hbw11
      have a0' := cell_kept a0 hmw11 (World.block_lt_of_cell? _ _ a0) (not_nil _)
      clear a0
      have a0 := a0'
      clear a0'
      have a1' := cell_kept a1 hmw11 (World.block_lt_of_cell? _ _ a1) (not_nil _)
      clear a1
      have a1 := a1'
      clear a1'
      have a2' := cell_kept a2 hmw11 (World.block_lt_of_cell? _ _ a2) (not_nil _)
      clear a2
      have a2 := a2'
      clear a2'
      have a3' := cell_kept a3 hmw11 (World.block_lt_of_cell? _ _ a3) (not_nil _)
      clear a3
      have a3 := a3'
      clear a3'
      have a4' := cell_kept a4 hmw11 (World.block_lt_of_cell? _ _ a4) (not_nil _)
      clear a4
      have a4 := a4'
      clear a4'
      have a5' := cell_kept a5 hmw11 (World.block_lt_of_cell? _ _ a5) (not_nil _)
      clear a5
      have a5 := a5'
      clear a5'
      have a6' := cell_kept a6 hmw11 (World.block_lt_of_cell? _ _ a6) (not_nil _)
      clear a6
      have a6 := a6'
      clear a6'
      have a7' := cell_kept a7 hmw11 (World.block_lt_of_cell? _ _ a7) (not_nil _)
      clear a7
      have a7 := a7'
      clear a7'
      have r0' := cell_kept r0 hmw11 (World.block_lt_of_cell? _ _ r0) (not_nil _)
      clear r0
      have r0 := r0'
      clear r0'
      have r1' := cell_kept r1 hmw11 (World.block_lt_of_cell? _ _ r1) (not_nil _)
      clear r1
      have r1 := r1'
      clear r1'
      have HBw11 := Lib.hid (HBw10.out.thenNil hmw11)
      have HCw11 := Lib.hid hmw11
      clear hmw11
      obtain ⟨xa, hxa⟩ : ∃ x, dl.getD 0 0 = x := ⟨_, rfl⟩
      obtain ⟨xc, hxc⟩ : ∃ x, dl3.getD 0 0 = x := ⟨_, rfl⟩
      obtain ⟨la1, la2, la3⟩ := ladderN_some HLAD.out
      obtain ⟨lc1, lc2, lc3⟩ := ladderN_some HLAD3.out
      have g1 : gapN eps wait = 2 * eps + 2 * wait + 2 := if_pos HMAY.out.2.2.2.2.2.2
      have g3 : gapN eps wait1 = 2 * eps + 2 * wait1 + 2 := if_pos HMAY3.out.2.2.2.2.2.2
      have hlt : xa < xc ∧ tickN xa ∧ tickN xc := by
        rw [HPL.out] at la2 la3 lc2 lc3
        have e1 := la3 0 (by omega)
        have e3 := lc3 0 (by omega)
        rw [hxa] at e1
        rw [hxc] at e3
        unfold ladAt at e1 e3
        rw [Nat.sub_zero] at e1 e3
        have hwt := HWT.out
        obtain ⟨m, hm⟩ : ∃ m : Nat, np - 1 = m := ⟨_, rfl⟩
        rw [hm] at e1 e3 la2 lc2
        have hG : (m : Int) * gapN eps wait1 = (m : Int) * gapN eps wait + 2 * (m : Int) := by rw [g1, g3, ← hwt, show 2 * eps + 2 * (wait + 1) + 2 = (2 * eps + 2 * wait + 2) + 2 by omega, Int.mul_add]; omega
        have hT : ladTop np start eps wait1 = ladTop np start eps wait + (2 * (np : Int) + 3) := by unfold ladTop; rw [← hwt, Int.mul_add (2 * (np : Int) + 3) (wait + 1) 1]; omega
        have hp1 : 0 ≤ (m : Int) * gapN eps wait := Int.mul_nonneg (by omega) (by omega)
        have hp2 : 0 ≤ ladTop np start eps wait := by
          unfold ladTop
          have := HMAY.out.2.2.2.2.2.1.1
          have h2 : 0 ≤ (2 * (np : Int) + 3) * (wait + 1) := Int.mul_nonneg (by omega) (by omega)
          omega
        refine ⟨by omega, ⟨by omega, by omega⟩, ⟨by omega, by omega⟩⟩
      obtain ⟨Ea, hEa⟩ : ∃ x, xa + 2 * wait + 2 * eps + 4 = x := ⟨_, rfl⟩
      obtain ⟨Ec, hEc⟩ : ∃ x, xc + 2 * wait1 + 2 * eps + 4 = x := ⟨_, rfl⟩
      have hEE : Ea < Ec := by have := HWT.out; omega
      have hdn : dl ≠ [] := fun e => by have := HN7.out; rw [e] at this; simp at this; omega
      have hdn3 : dl3 ≠ [] := fun e => by have := HD3.out; rw [e] at this; simp at this; omega
      have HENDA : Hid (∀ W, Mod nil w11 W → Calls Try.prog 14 #[.agg #[.int .i64 deal, .slice p1a np c1a, .slice p2a nl c2a, .string ⟨Z.toArray⟩, .int .i64 start, .int .i64 eps, .int .i64 wait, .slice p7a np c7a]] W fun e w' => e = .returned (.int .i64 Ea) ∧ Mod nil w11 w') := Lib.hid (fun W m => by
        have h := planEnd _ (.agg #[.int .i64 deal, .slice p1a np c1a, .slice p2a nl c2a, .string ⟨Z.toArray⟩, .int .i64 start, .int .i64 eps, .int .i64 wait, .slice p7a np c7a]) ⟨deal, ps, ls, Z, start, eps, wait, dl⟩ W ⟨p1a, c1a, p2a, c2a, p7a, c7a, by simp only [HPL.out, HLL.out, HN7.out], by simp only [HPL.out]; exact HPA.out.modNil (HBw11.out.thenNil m), by simp only [HLL.out]; exact HLA.out.modNil (HBw11.out.thenNil m), by simp only [HN7.out]; exact HDA.out.modNil (HBw11.out.thenNil m)⟩ (fun _ => ⟨t1, by simp only; omega, by simp only; omega, by simp only; omega, by simp only; rw [hxa]; exact hlt.2.1⟩)
        refine h.mono ?_
        rintro e w' ⟨rfl, hm⟩
        exact ⟨by unfold Pl.endT; simp only; rw [if_neg hdn, hxa, hEa], m.thenNil hm⟩)
      have HENDC : Hid (∀ W, Mod nil w11 W → Calls Try.prog 14 #[.agg #[.int .i64 deal, .slice p1c np c1c, .slice p2c nl c2c, .string ⟨Z.toArray⟩, .int .i64 start, .int .i64 eps, .int .i64 wait1, .slice p7c np c7c]] W fun e w' => e = .returned (.int .i64 Ec) ∧ Mod nil w11 w') := Lib.hid (fun W m => by
        have hdc' := HDC.out.modNil (HCw11.out.thenNil m)
        have h := planEndDl (S := fun k => wr.heap.size ≤ k) p1c c1c p2c c2c p7c c7c (.agg #[.int .i64 deal, .slice p1c np c1c, .slice p2c nl c2c, .string ⟨Z.toArray⟩, .int .i64 start, .int .i64 eps, .int .i64 wait1, .slice p7c np c7c]) ⟨deal, ps, ls, Z, start, eps, wait1, dl3⟩ W (by simp only [HPL.out, HLL.out, HD3.out]) (by simp only [HD3.out]; exact hdc') (fun _ => ⟨t1, by simp only; omega, by have := HWT.out; simp only; omega, by have := HMAY3.out.2.2.2.2.2.2.2.2.2; simp only; omega, by simp only; rw [hxc]; exact hlt.2.2⟩)
        refine h.mono ?_
        rintro e w' ⟨rfl, hm⟩
        exact ⟨by unfold Pl.endT; simp only; rw [if_neg hdn3, hxc, hEc], m.thenNil hm⟩)
      have hcellof : ∀ (p : Option Addr) (c : Nat) (dd : List Int) (W : World) (T : Nat → Prop) (x : Int), dd.length = np → dd.getD 0 0 = x → IsRow T W (.slice p np c) (dd.map (.int .i64)) → ∃ g o, p = some ⟨g, o, none⟩ ∧ W.cell? ⟨g, o, none⟩ = some (.int .i64 x) := fun p c dd W T x hl hx hr => by
        obtain ⟨p', c', he, hcc⟩ := hr
        obtain ⟨g, o, rfl, -, -, hcell⟩ := hcc 0 (by rw [List.length_map, hl]; omega)
        simp only [Value.slice.injEq] at he
        obtain ⟨rfl, -, -⟩ := he
        have hd0 : 0 < dd.length := by omega
        exact ⟨g, o, rfl, by rw [show o = o + 0 from rfl, hcell, ← hx]; simp [hd0]⟩
      obtain ⟨ga, oa, rfl, xa0⟩ := hcellof p7a c7a dl w11 _ xa HN7.out hxa (HDA.out.modNil HBw11.out)
      obtain ⟨gc, oc, rfl, xc0⟩ := hcellof p7c c7c dl3 w11 _ xc HD3.out hxc (HDC.out.modNil HCw11.out)
      obtain ⟨hlt1, -, -⟩ := hlt
      clear hcellof hxa hxc la1 la2 la3 lc1 lc2 lc3 g1 g3 hEa hEc hdn hdn3 r0 r1 hww
      have hgt0 : decide ((0 : Int) < (np : Int)) = true := by simp; omega
      have heqn : ((np : Int) == (np : Int)) = true := by simp
      have hnp0 : 0 < np := by omega
      have hxx : decide (xa < xc) = true := by simp; omega
      have hEd : decide (Ea < Ec) = true := by simp; omega
      go_upto_region 18 with (fail)
      refine wp_region_held_drew (S := (fun w' => w'.cell? ⟨rc, 0, none⟩ = some (.int .i64 deal) ∧ w'.cell? ⟨rc, 1, none⟩ = some (.slice p1c np c1c) ∧ w'.cell? ⟨rc, 2, none⟩ = some (.slice p2c nl c2c) ∧ w'.cell? ⟨rc, 3, none⟩ = some (.string ⟨Z.toArray⟩) ∧ w'.cell? ⟨rc, 4, none⟩ = some (.int .i64 start) ∧ w'.cell? ⟨rc, 5, none⟩ = some (.int .i64 eps) ∧ w'.cell? ⟨rc, 6, none⟩ = some (.int .i64 wait1) ∧ w'.cell? ⟨rc, 7, none⟩ = some (.slice (some ⟨gc, oc, none⟩) np c7c) ∧ w'.cell? ⟨ra, 0, none⟩ = some (.int .i64 deal) ∧ w'.cell? ⟨ra, 1, none⟩ = some (.slice p1a np c1a) ∧ w'.cell? ⟨ra, 2, none⟩ = some (.slice p2a nl c2a) ∧ w'.cell? ⟨ra, 3, none⟩ = some (.string ⟨Z.toArray⟩) ∧ w'.cell? ⟨ra, 4, none⟩ = some (.int .i64 start) ∧ w'.cell? ⟨ra, 5, none⟩ = some (.int .i64 eps) ∧ w'.cell? ⟨ra, 6, none⟩ = some (.int .i64 wait) ∧ w'.cell? ⟨ra, 7, none⟩ = some (.slice (some ⟨ga, oa, none⟩) np c7a) ∧ w'.cell? ⟨gc, oc, none⟩ = some (.int .i64 xc) ∧ w'.cell? ⟨ga, oa, none⟩ = some (.int .i64 xa))) (by kernel_rfl) (⟨c0, c1, c2, c3, c4, c5, c6, c7, a0, a1, a2, a3, a4, a5, a6, a7, xc0, xa0⟩) (fun hHeld => ?_)
      refine wpAnyH_ready (rs := [0]) (by kernel_rfl) (by simp) ?_
      refine AllReadyH.cons (i := 0) rfl (fun K hK => ?_) AllReadyH.nil
      (try dsimp (config := { proj := false }) only [List.getElem_toArray, List.getElem_cons_succ, List.getElem_cons_zero])
      go_simp
      refine (planFirst _).mono ?_
      rintro e w' ⟨rfl, rfl⟩
      refine hK.out _ _ ⟨c0, c1, c2, c3, c4, c5, c6, c7, a0, a1, a2, a3, a4, a5, a6, a7, xc0, xa0⟩ (fun hHeld => ?_)
      clear hK K
      (try simp only [Act.put, List.setIfInBounds_toArray, List.set_cons_zero, List.set_cons_succ])
      (try simp only [List.set_cons_succ, List.set_cons_zero])
      refine wpAnyH_take (i := 1) (v := ?_) rfl (by kernel_rfl) (by kernel_rfl) (by kernel_rfl) (fun _ _ _ h => h) (Or.inl ⟨by kernel_rfl, ?_⟩) (by assumption) ?_
      rotate_left
      · intro w hSw; (try dsimp only at hSw); (first | (go_simp; done) | (go_simp; with_reducible rfl))
      (try simp only [Act.put, List.getElem_toArray, List.getElem_cons_succ, List.getElem_cons_zero, List.setIfInBounds_toArray, List.set_cons_succ, List.set_cons_zero])
      refine wpAnyH_take (i := 2) (v := ?_) rfl (by kernel_rfl) (by kernel_rfl) (by kernel_rfl) (fun _ _ _ h => h) (Or.inl ⟨by kernel_rfl, ?_⟩) (by assumption) ?_
      rotate_left
      · intro w hSw; (try dsimp only at hSw); (first | (go_simp; done) | (go_simp; with_reducible rfl))
      (try simp only [Act.put, List.getElem_toArray, List.getElem_cons_succ, List.getElem_cons_zero, List.setIfInBounds_toArray, List.set_cons_succ, List.set_cons_zero])
      refine wpAnyH_take (i := 3) (v := ?_) rfl (by kernel_rfl) (by kernel_rfl) (by kernel_rfl) (fun _ _ _ h => h) (Or.inl ⟨by kernel_rfl, ?_⟩) (by assumption) ?_
      rotate_left
      · intro w hSw; (try dsimp only at hSw); (first | (go_simp; done) | (go_simp; with_reducible rfl))
      (try simp only [Act.put, List.getElem_toArray, List.getElem_cons_succ, List.getElem_cons_zero, List.setIfInBounds_toArray, List.set_cons_succ, List.set_cons_zero])
      refine wpAnyH_take (i := 4) (v := ?_) rfl (by kernel_rfl) (by kernel_rfl) (by kernel_rfl) (fun _ _ _ h => h) (Or.inl ⟨by kernel_rfl, ?_⟩) (by assumption) ?_
      rotate_left
      · intro w hSw; (try dsimp only at hSw); (first | (go_simp; done) | (go_simp; with_reducible rfl))
      (try simp only [Act.put, List.getElem_toArray, List.getElem_cons_succ, List.getElem_cons_zero, List.setIfInBounds_toArray, List.set_cons_succ, List.set_cons_zero])
      refine wpAnyH_take (i := 5) (v := ?_) rfl (by kernel_rfl) (by kernel_rfl) (by kernel_rfl) (fun _ _ _ h => h) (Or.inl ⟨by kernel_rfl, ?_⟩) (by assumption) ?_
      rotate_left
      · intro w hSw; (try dsimp only at hSw); (first | (go_simp; done) | (go_simp; with_reducible rfl))
      (try simp only [Act.put, List.getElem_toArray, List.getElem_cons_succ, List.getElem_cons_zero, List.setIfInBounds_toArray, List.set_cons_succ, List.set_cons_zero])
      refine wpAnyH_take (i := 6) (v := ?_) rfl (by kernel_rfl) (by kernel_rfl) (by kernel_rfl) (fun _ _ _ h => h) (Or.inl ⟨by kernel_rfl, ?_⟩) (by assumption) ?_
      rotate_left
      · intro w hSw; (try dsimp only at hSw); (first | (go_simp; done) | (go_simp; with_reducible rfl))
      (try simp only [Act.put, List.getElem_toArray, List.getElem_cons_succ, List.getElem_cons_zero, List.setIfInBounds_toArray, List.set_cons_succ, List.set_cons_zero])
      refine wpAnyH_take (i := 7) (v := ?_) rfl (by kernel_rfl) (by kernel_rfl) (by kernel_rfl) (fun _ _ _ h => h) (Or.inl ⟨by kernel_rfl, ?_⟩) (by assumption) ?_
      rotate_left
      · intro w hSw; (try dsimp only at hSw); (first | (go_simp; done) | (go_simp; with_reducible rfl))
      (try simp only [Act.put, List.getElem_toArray, List.getElem_cons_succ, List.getElem_cons_zero, List.setIfInBounds_toArray, List.set_cons_succ, List.set_cons_zero])
      refine wpAnyH_take (i := 8) (v := ?_) rfl (by kernel_rfl) (by kernel_rfl) (by kernel_rfl) (fun _ _ _ h => h) (Or.inl ⟨by kernel_rfl, ?_⟩) (by assumption) ?_
      rotate_left
      · intro w hSw; (try dsimp only at hSw); (first | (go_simp; done) | (go_simp; with_reducible rfl))
      (try simp only [Act.put, List.getElem_toArray, List.getElem_cons_succ, List.getElem_cons_zero, List.setIfInBounds_toArray, List.set_cons_succ, List.set_cons_zero])
      refine wpAnyH_take (i := 9) (v := ?_) rfl (by kernel_rfl) (by kernel_rfl) (by kernel_rfl) (fun _ _ _ h => h) (Or.inl ⟨by kernel_rfl, ?_⟩) (by assumption) ?_
      rotate_left
      · intro w hSw; (try dsimp only at hSw); (first | (go_simp; done) | (go_simp; with_reducible rfl))
      (try simp only [Act.put, List.getElem_toArray, List.getElem_cons_succ, List.getElem_cons_zero, List.setIfInBounds_toArray, List.set_cons_succ, List.set_cons_zero])
      refine wpAnyH_take (i := 10) (v := ?_) rfl (by kernel_rfl) (by kernel_rfl) (by kernel_rfl) (fun _ _ _ h => h) (Or.inl ⟨by kernel_rfl, ?_⟩) (by assumption) ?_
      rotate_left
      · intro w hSw; (try dsimp only at hSw); (first | (go_simp; done) | (go_simp; with_reducible rfl))
      (try simp only [Act.put, List.getElem_toArray, List.getElem_cons_succ, List.getElem_cons_zero, List.setIfInBounds_toArray, List.set_cons_succ, List.set_cons_zero])
      refine wpAnyH_take (i := 11) (v := ?_) rfl (by kernel_rfl) (by kernel_rfl) (by kernel_rfl) (fun _ _ _ h => h) (Or.inl ⟨by kernel_rfl, ?_⟩) (by assumption) ?_
      rotate_left
      · intro w hSw; (try dsimp only at hSw); (first | (go_simp; done) | (go_simp; with_reducible rfl))
      (try simp only [Act.put, List.getElem_toArray, List.getElem_cons_succ, List.getElem_cons_zero, List.setIfInBounds_toArray, List.set_cons_succ, List.set_cons_zero])
      refine wpAnyH_take (i := 12) (v := ?_) rfl (by kernel_rfl) (by kernel_rfl) (by kernel_rfl) (fun _ _ _ h => h) (Or.inl ⟨by kernel_rfl, ?_⟩) (by assumption) ?_
      rotate_left
      · intro w hSw; (try dsimp only at hSw); (first | (go_simp; done) | (go_simp; with_reducible rfl))
      (try simp only [Act.put, List.getElem_toArray, List.getElem_cons_succ, List.getElem_cons_zero, List.setIfInBounds_toArray, List.set_cons_succ, List.set_cons_zero])
      refine wpAnyH_take (i := 13) (v := ?_) rfl (by kernel_rfl) (by kernel_rfl) (by kernel_rfl) (fun _ _ _ h => h) (Or.inl ⟨by kernel_rfl, ?_⟩) (by assumption) ?_
      rotate_left
      · intro w hSw; (try dsimp only at hSw); (first | (go_simp; done) | (go_simp; with_reducible rfl))
      (try simp only [Act.put, List.getElem_toArray, List.getElem_cons_succ, List.getElem_cons_zero, List.setIfInBounds_toArray, List.set_cons_succ, List.set_cons_zero])
      refine wpAnyH_take (i := 14) (v := ?_) rfl (by kernel_rfl) (by kernel_rfl) (by kernel_rfl) (fun _ _ _ h => h) (Or.inl ⟨by kernel_rfl, ?_⟩) (by assumption) ?_
      rotate_left
      · intro w hSw; (try dsimp only at hSw); (first | (go_simp; done) | (go_simp; with_reducible rfl))
      (try simp only [Act.put, List.getElem_toArray, List.getElem_cons_succ, List.getElem_cons_zero, List.setIfInBounds_toArray, List.set_cons_succ, List.set_cons_zero])
      refine wpAnyH_take (i := 15) (v := ?_) rfl (by kernel_rfl) (by kernel_rfl) (by kernel_rfl) (fun _ _ _ h => h) (Or.inl ⟨by kernel_rfl, ?_⟩) (by assumption) ?_
      rotate_left
      · intro w hSw; (try dsimp only at hSw); (first | (go_simp; done) | (go_simp; with_reducible rfl))
      (try simp only [Act.put, List.getElem_toArray, List.getElem_cons_succ, List.getElem_cons_zero, List.setIfInBounds_toArray, List.set_cons_succ, List.set_cons_zero])
      refine wpAnyH_take (i := 16) (v := ?_) rfl (by kernel_rfl) (by kernel_rfl) (by kernel_rfl) (fun _ _ _ h => h) (Or.inl ⟨by kernel_rfl, ?_⟩) (by assumption) ?_
      rotate_left
      · intro w hSw; (try dsimp only at hSw); (first | (go_simp; done) | (go_simp; with_reducible rfl))
      (try simp only [Act.put, List.getElem_toArray, List.getElem_cons_succ, List.getElem_cons_zero, List.setIfInBounds_toArray, List.set_cons_succ, List.set_cons_zero])
      refine wpAnyH_take (i := 17) (v := ?_) rfl (by kernel_rfl) (by kernel_rfl) (by kernel_rfl) (fun _ _ _ h => h) (Or.inl ⟨by kernel_rfl, ?_⟩) (by assumption) ?_
      rotate_left
      · intro w hSw; (try dsimp only at hSw); (first | (go_simp; done) | (go_simp; with_reducible rfl))
      (try simp only [Act.put, List.getElem_toArray, List.getElem_cons_succ, List.getElem_cons_zero, List.setIfInBounds_toArray, List.set_cons_succ, List.set_cons_zero])
      refine wpAnyH_take (i := 18) (v := ?_) rfl (by kernel_rfl) (by kernel_rfl) (by kernel_rfl) (fun _ _ _ h => h) (Or.inl ⟨by kernel_rfl, ?_⟩) (by assumption) ?_
      rotate_left
      · intro w hSw; (try dsimp only at hSw); (first | (go_simp; done) | (go_simp; with_reducible rfl))
      (try simp only [Act.put, List.getElem_toArray, List.getElem_cons_succ, List.getElem_cons_zero, List.setIfInBounds_toArray, List.set_cons_succ, List.set_cons_zero])
      refine wpAnyH_take (i := 19) (v := ?_) rfl (by kernel_rfl) (by kernel_rfl) (by kernel_rfl) (fun _ _ _ h => h) (Or.inl ⟨by kernel_rfl, ?_⟩) (by assumption) ?_
      rotate_left
      · intro w hSw; (try dsimp only at hSw); (first | (go_simp; done) | (go_simp; with_reducible rfl))
      (try simp only [Act.put, List.getElem_toArray, List.getElem_cons_succ, List.getElem_cons_zero, List.setIfInBounds_toArray, List.set_cons_succ, List.set_cons_zero])
      refine wpAnyH_take (i := 20) (v := ?_) rfl (by kernel_rfl) (by kernel_rfl) (by kernel_rfl) (fun _ _ _ h => h) (Or.inl ⟨by kernel_rfl, ?_⟩) (by assumption) ?_
      rotate_left
      · intro w hSw; (try dsimp only at hSw); (first | (go_simp; done) | (go_simp; with_reducible rfl))
      (try simp only [Act.put, List.getElem_toArray, List.getElem_cons_succ, List.getElem_cons_zero, List.setIfInBounds_toArray, List.set_cons_succ, List.set_cons_zero])
      refine wpAnyH_take (i := 21) (v := ?_) rfl (by kernel_rfl) (by kernel_rfl) (by kernel_rfl) (fun _ _ _ h => h) (Or.inl ⟨by kernel_rfl, ?_⟩) (by assumption) ?_
      rotate_left
      · intro w hSw; (try dsimp only at hSw); (first | (go_simp; done) | (go_simp; with_reducible rfl))
      (try simp only [Act.put, List.getElem_toArray, List.getElem_cons_succ, List.getElem_cons_zero, List.setIfInBounds_toArray, List.set_cons_succ, List.set_cons_zero])
      refine wpAnyH_take (i := 22) (v := ?_) rfl (by kernel_rfl) (by kernel_rfl) (by kernel_rfl) (fun _ _ _ h => h) (Or.inl ⟨by kernel_rfl, ?_⟩) (by assumption) ?_
      rotate_left
      · intro w hSw; (try dsimp only at hSw); (first | (go_simp; done) | (go_simp; with_reducible rfl))
      (try simp only [Act.put, List.getElem_toArray, List.getElem_cons_succ, List.getElem_cons_zero, List.setIfInBounds_toArray, List.set_cons_succ, List.set_cons_zero])
      refine wpAnyH_take (i := 23) (v := ?_) rfl (by kernel_rfl) (by kernel_rfl) (by kernel_rfl) (fun _ _ _ h => h) (Or.inl ⟨by kernel_rfl, ?_⟩) (by assumption) ?_
      rotate_left
      · intro w hSw; (try dsimp only at hSw); (first | (go_simp; done) | (go_simp; with_reducible rfl))
      (try simp only [Act.put, List.getElem_toArray, List.getElem_cons_succ, List.getElem_cons_zero, List.setIfInBounds_toArray, List.set_cons_succ, List.set_cons_zero])
      refine wpAnyH_take (i := 24) (v := ?_) rfl (by kernel_rfl) (by kernel_rfl) (by kernel_rfl) (fun _ _ _ h => h) (Or.inl ⟨by kernel_rfl, ?_⟩) (by assumption) ?_
      rotate_left
      · intro w hSw; (try dsimp only at hSw); (first | (go_simp; done) | (go_simp; with_reducible rfl))
      (try simp only [Act.put, List.getElem_toArray, List.getElem_cons_succ, List.getElem_cons_zero, List.setIfInBounds_toArray, List.set_cons_succ, List.set_cons_zero])
      refine wpAnyH_take (i := 25) (v := ?_) rfl (by kernel_rfl) (by kernel_rfl) (by kernel_rfl) (fun _ _ _ h => h) (Or.inl ⟨by kernel_rfl, ?_⟩) (by assumption) ?_
      rotate_left
      · intro w hSw; (try dsimp only at hSw); (first | (go_simp; done) | (go_simp; with_reducible rfl))
      (try simp only [Act.put, List.getElem_toArray, List.getElem_cons_succ, List.getElem_cons_zero, List.setIfInBounds_toArray, List.set_cons_succ, List.set_cons_zero])
      refine wpAnyH_take (i := 26) (v := ?_) rfl (by kernel_rfl) (by kernel_rfl) (by kernel_rfl) (fun _ _ _ h => h) (Or.inl ⟨by kernel_rfl, ?_⟩) (by assumption) ?_
      rotate_left
      · intro w hSw; (try dsimp only at hSw); (first | (go_simp; done) | (go_simp; with_reducible rfl))
      (try simp only [Act.put, List.getElem_toArray, List.getElem_cons_succ, List.getElem_cons_zero, List.setIfInBounds_toArray, List.set_cons_succ, List.set_cons_zero])
      refine wpAnyH_take (i := 27) (v := ?_) rfl (by kernel_rfl) (by kernel_rfl) (by kernel_rfl) (fun _ _ _ h => h) (Or.inl ⟨by kernel_rfl, ?_⟩) (by assumption) ?_
      rotate_left
      · intro w hSw; (try dsimp only at hSw); (first | (go_simp; done) | (go_simp; with_reducible rfl))
      (try simp only [Act.put, List.getElem_toArray, List.getElem_cons_succ, List.getElem_cons_zero, List.setIfInBounds_toArray, List.set_cons_succ, List.set_cons_zero])
      refine wpAnyH_take (i := 28) (v := ?_) rfl (by kernel_rfl) (by kernel_rfl) (by kernel_rfl) (fun _ _ _ h => h) (Or.inl ⟨by kernel_rfl, ?_⟩) (by assumption) ?_
      rotate_left
      · intro w hSw; (try dsimp only at hSw); (first | (go_simp; done) | (go_simp; with_reducible rfl))
      (try simp only [Act.put, List.getElem_toArray, List.getElem_cons_succ, List.getElem_cons_zero, List.setIfInBounds_toArray, List.set_cons_succ, List.set_cons_zero])
      refine wpAnyH_take (i := 29) (v := ?_) rfl (by kernel_rfl) (by kernel_rfl) (by kernel_rfl) (fun _ _ _ h => h) (Or.inl ⟨by kernel_rfl, ?_⟩) (by assumption) ?_
      rotate_left
      · intro w hSw; (try dsimp only at hSw); (first | (go_simp; done) | (go_simp; with_reducible rfl))
      (try simp only [Act.put, List.getElem_toArray, List.getElem_cons_succ, List.getElem_cons_zero, List.setIfInBounds_toArray, List.set_cons_succ, List.set_cons_zero])
      refine wpAnyH_take (i := 30) (v := ?_) rfl (by kernel_rfl) (by kernel_rfl) (by kernel_rfl) (fun _ _ _ h => h) (Or.inl ⟨by kernel_rfl, ?_⟩) (by assumption) ?_
      rotate_left
      · intro w hSw; (try dsimp only at hSw); (first | (go_simp; done) | (go_simp; with_reducible rfl))
      (try simp only [Act.put, List.getElem_toArray, List.getElem_cons_succ, List.getElem_cons_zero, List.setIfInBounds_toArray, List.set_cons_succ, List.set_cons_zero])
      refine wpAnyH_take (i := 32) (v := ?_) rfl (by kernel_rfl) (by kernel_rfl) (by kernel_rfl) (fun _ _ _ h => h) (Or.inl ⟨by kernel_rfl, ?_⟩) (by assumption) ?_
      rotate_left
      · intro w hSw; (try dsimp only at hSw); (first | (go_simp; done) | (go_simp; with_reducible rfl))
      (try simp only [Act.put, List.getElem_toArray, List.getElem_cons_succ, List.getElem_cons_zero, List.setIfInBounds_toArray, List.set_cons_succ, List.set_cons_zero])
      refine wpAnyH_ready (rs := [31]) (by kernel_rfl) (by simp) ?_
      refine AllReadyH.cons (i := 31) rfl (fun K hK => ?_) AllReadyH.nil
      (try dsimp (config := { proj := false }) only [List.getElem_toArray, List.getElem_cons_succ, List.getElem_cons_zero])
      go_simp
      refine (HENDC.out _ ?_).mono ?_
      · (repeat (first | exact Mod.refl _ _ | refine Mod.drew ?_))
      rintro e w20 ⟨rfl, hm20⟩
      have c0x := cell_kept c0 hm20 (World.block_lt_of_cell? _ _ c0) (not_nil _)
      have c1x := cell_kept c1 hm20 (World.block_lt_of_cell? _ _ c1) (not_nil _)
      have c2x := cell_kept c2 hm20 (World.block_lt_of_cell? _ _ c2) (not_nil _)
      have c3x := cell_kept c3 hm20 (World.block_lt_of_cell? _ _ c3) (not_nil _)
      have c4x := cell_kept c4 hm20 (World.block_lt_of_cell? _ _ c4) (not_nil _)
      have c5x := cell_kept c5 hm20 (World.block_lt_of_cell? _ _ c5) (not_nil _)
      have c6x := cell_kept c6 hm20 (World.block_lt_of_cell? _ _ c6) (not_nil _)
      have c7x := cell_kept c7 hm20 (World.block_lt_of_cell? _ _ c7) (not_nil _)
      have a0x := cell_kept a0 hm20 (World.block_lt_of_cell? _ _ a0) (not_nil _)
      have a1x := cell_kept a1 hm20 (World.block_lt_of_cell? _ _ a1) (not_nil _)
      have a2x := cell_kept a2 hm20 (World.block_lt_of_cell? _ _ a2) (not_nil _)
      have a3x := cell_kept a3 hm20 (World.block_lt_of_cell? _ _ a3) (not_nil _)
      have a4x := cell_kept a4 hm20 (World.block_lt_of_cell? _ _ a4) (not_nil _)
      have a5x := cell_kept a5 hm20 (World.block_lt_of_cell? _ _ a5) (not_nil _)
      have a6x := cell_kept a6 hm20 (World.block_lt_of_cell? _ _ a6) (not_nil _)
      have a7x := cell_kept a7 hm20 (World.block_lt_of_cell? _ _ a7) (not_nil _)
      have xc0x := cell_kept xc0 hm20 (World.block_lt_of_cell? _ _ xc0) (not_nil _)
      have xa0x := cell_kept xa0 hm20 (World.block_lt_of_cell? _ _ xa0) (not_nil _)
      refine hK.out _ _ ⟨c0x, c1x, c2x, c3x, c4x, c5x, c6x, c7x, a0x, a1x, a2x, a3x, a4x, a5x, a6x, a7x, xc0x, xa0x⟩ (fun hHeld => ?_)
      clear hK K
      (try simp only [Act.put, List.setIfInBounds_toArray, List.set_cons_zero, List.set_cons_succ])
      (try simp only [List.set_cons_succ, List.set_cons_zero])
      refine wpAnyH_ready (rs := [33]) (by kernel_rfl) (by simp) ?_
      refine AllReadyH.cons (i := 33) rfl (fun K hK => ?_) AllReadyH.nil
      (try dsimp (config := { proj := false }) only [List.getElem_toArray, List.getElem_cons_succ, List.getElem_cons_zero])
      go_simp
      refine (HENDA.out _ hm20).mono ?_
      rintro e w21 ⟨rfl, hm21⟩
      have c0y := cell_kept c0 hm21 (World.block_lt_of_cell? _ _ c0) (not_nil _)
      have c1y := cell_kept c1 hm21 (World.block_lt_of_cell? _ _ c1) (not_nil _)
      have c2y := cell_kept c2 hm21 (World.block_lt_of_cell? _ _ c2) (not_nil _)
      have c3y := cell_kept c3 hm21 (World.block_lt_of_cell? _ _ c3) (not_nil _)
      have c4y := cell_kept c4 hm21 (World.block_lt_of_cell? _ _ c4) (not_nil _)
      have c5y := cell_kept c5 hm21 (World.block_lt_of_cell? _ _ c5) (not_nil _)
      have c6y := cell_kept c6 hm21 (World.block_lt_of_cell? _ _ c6) (not_nil _)
      have c7y := cell_kept c7 hm21 (World.block_lt_of_cell? _ _ c7) (not_nil _)
      have a0y := cell_kept a0 hm21 (World.block_lt_of_cell? _ _ a0) (not_nil _)
      have a1y := cell_kept a1 hm21 (World.block_lt_of_cell? _ _ a1) (not_nil _)
      have a2y := cell_kept a2 hm21 (World.block_lt_of_cell? _ _ a2) (not_nil _)
      have a3y := cell_kept a3 hm21 (World.block_lt_of_cell? _ _ a3) (not_nil _)
      have a4y := cell_kept a4 hm21 (World.block_lt_of_cell? _ _ a4) (not_nil _)
      have a5y := cell_kept a5 hm21 (World.block_lt_of_cell? _ _ a5) (not_nil _)
      have a6y := cell_kept a6 hm21 (World.block_lt_of_cell? _ _ a6) (not_nil _)
      have a7y := cell_kept a7 hm21 (World.block_lt_of_cell? _ _ a7) (not_nil _)
      have xc0y := cell_kept xc0 hm21 (World.block_lt_of_cell? _ _ xc0) (not_nil _)
      have xa0y := cell_kept xa0 hm21 (World.block_lt_of_cell? _ _ xa0) (not_nil _)
      have HE := Lib.hid (HPOST.out _ w21 ⟨rfl, HMw11.out.thenNil hm21⟩)
      refine hK.out _ _ ⟨c0y, c1y, c2y, c3y, c4y, c5y, c6y, c7y, a0y, a1y, a2y, a3y, a4y, a5y, a6y, a7y, xc0y, xa0y⟩ (fun hHeld => ?_)
      clear hK K
      (try simp only [Act.put, List.setIfInBounds_toArray, List.set_cons_zero, List.set_cons_succ])
      (try simp only [List.set_cons_succ, List.set_cons_zero])
      refine wpAnyH_take (i := 34) (v := ?_) rfl (by kernel_rfl) (by kernel_rfl) (by kernel_rfl) (fun _ _ _ h => h) (Or.inl ⟨by kernel_rfl, ?_⟩) (by assumption) ?_
      rotate_left
      · intro w hSw; (try dsimp only at hSw); (first | (go_simp; done) | (go_simp; with_reducible rfl))
      (try simp only [Act.put, List.getElem_toArray, List.getElem_cons_succ, List.getElem_cons_zero, List.setIfInBounds_toArray, List.set_cons_succ, List.set_cons_zero])
      refine wpAnyH_take (i := 35) (v := ?_) rfl (by kernel_rfl) (by kernel_rfl) (by kernel_rfl) (fun _ _ _ h => h) (Or.inl ⟨by kernel_rfl, ?_⟩) (by assumption) ?_
      rotate_left
      · intro w hSw; (try dsimp only at hSw); (first | (go_simp; done) | (go_simp; with_reducible rfl))
      (try simp only [Act.put, List.getElem_toArray, List.getElem_cons_succ, List.getElem_cons_zero, List.setIfInBounds_toArray, List.set_cons_succ, List.set_cons_zero])
      refine wpAnyH_take (i := 36) (v := ?_) rfl (by kernel_rfl) (by kernel_rfl) (by kernel_rfl) (fun _ _ _ h => h) (Or.inl ⟨by kernel_rfl, ?_⟩) (by assumption) ?_
      rotate_left
      · intro w hSw; (try dsimp only at hSw); (first | (go_simp; done) | (go_simp; with_reducible rfl))
      (try simp only [Act.put, List.getElem_toArray, List.getElem_cons_succ, List.getElem_cons_zero, List.setIfInBounds_toArray, List.set_cons_succ, List.set_cons_zero])
      refine wpAnyH_take (i := 37) (v := ?_) rfl (by kernel_rfl) (by kernel_rfl) (by kernel_rfl) (fun _ _ _ h => h) (Or.inl ⟨by kernel_rfl, ?_⟩) (by assumption) ?_
      rotate_left
      · intro w hSw; (try dsimp only at hSw); (first | (go_simp; done) | (go_simp; with_reducible rfl))
      (try simp only [Act.put, List.getElem_toArray, List.getElem_cons_succ, List.getElem_cons_zero, List.setIfInBounds_toArray, List.set_cons_succ, List.set_cons_zero])
      refine wpAnyH_take (i := 38) (v := ?_) rfl (by kernel_rfl) (by kernel_rfl) (by kernel_rfl) (fun _ _ _ h => h) (Or.inl ⟨by kernel_rfl, ?_⟩) (by assumption) ?_
      rotate_left
      · intro w hSw; (try dsimp only at hSw); (first | (go_simp; done) | (go_simp; with_reducible rfl))
      (try simp only [Act.put, List.getElem_toArray, List.getElem_cons_succ, List.getElem_cons_zero, List.setIfInBounds_toArray, List.set_cons_succ, List.set_cons_zero])
      refine wpAnyH_done (by kernel_rfl) ?_ _
      go_wp2_with fail
      exact HE.out

set_option maxRecDepth 100000 in
theorem walkPlanMade (v0 v1 v2 v3 v4 : Value) (W : World) (r0 : Rd W 3 v0) (r1 : Rd W 25 v1) (r2 : Rd W 3 v2) (r3 : Rd W 3 v3) (r4 : Rd W 3 v4) :
    Calls Try.prog 3 #[v0, v1, v2, v3, v4] W fun e w' => e = .returned (.bool true) ∧ Below W.heap.size W w' := by
  obtain ⟨deal, rfl, _⟩ := r0.int Try.underlying3
  obtain ⟨pp, np, cp, ps, pl, nl, cl, ls, rfl, h1, h2, h3, h4, h5, h6, h7⟩ := r1.ring
  obtain ⟨start, rfl, _⟩ := r2.int Try.underlying3
  obtain ⟨eps, rfl, _⟩ := r3.int Try.underlying3
  obtain ⟨wait, rfl, _⟩ := r4.int Try.underlying3
  exact (lawPlanMade deal start eps wait pp pl np cp nl cl ps ls W h3 h6 h1 h4 h2 h5).mono fun e w' ⟨a, b⟩ => ⟨a, b.below⟩
end Go.Proofs.Ytpkhjdhbkkepgaa

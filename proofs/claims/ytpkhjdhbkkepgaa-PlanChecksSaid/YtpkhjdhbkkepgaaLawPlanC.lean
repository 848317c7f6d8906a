/- cfllaw21: FewPlan, PlanOdd. (Printed by wip/tools/gen_lawplanc.py.) -/
import Derived.Test.YtpkhjdhbkkepgaaLawPlan
import Derived.Test.YtpkhjdhbkkepgaaPlanJ
import Derived.Test.YtpkhjdhbkkepgaaBitsAnd
namespace Go.Proofs.Ytpkhjdhbkkepgaa
open Go.ChangeShapes Go.WideShapes Go.ChangeAt Go.RowKit
set_option maxRecDepth 100000 in
theorem Rd.plan {w : World} {v : Value} (h : Rd w 30 v) : ∃ P : Pl, IsPl (· < w.heap.size) w v P ∧ P.ps.length ≤ maxLen ∧ P.ls.length ≤ maxLen ∧ P.dl.length ≤ maxLen ∧ P.hash.length ≤ maxLen := by
  obtain ⟨cs, rfl, hl, hf⟩ := h.struct Try.underlying30
  have hc : Try.prog.cellsOf 30 = 8 := by kernel_rfl
  have h1 : Try.prog.cellsOf 22 = 1 := by kernel_rfl
  have h2 : Try.prog.cellsOf 23 = 1 := by kernel_rfl
  have h3 : Try.prog.cellsOf 3 = 1 := by kernel_rfl
  have h4 : Try.prog.cellsOf 9 = 1 := by kernel_rfl
  rw [hc] at hl
  match cs, hl with
  | [c0, c1, c2, c3, c4, c5, c6, c7], _ =>
    have f0 : Rc w 3 [c0] := by simpa [h3] using hf 0 _ rfl
    have f1 : Rc w 22 [c1] := by simpa [h1] using hf 1 _ rfl
    have f2 : Rc w 23 [c2] := by simpa [h2] using hf 2 _ rfl
    have f3 : Rc w 9 [c3] := by simpa [h4] using hf 3 _ rfl
    have f4 : Rc w 3 [c4] := by simpa [h3] using hf 4 _ rfl
    have f5 : Rc w 3 [c5] := by simpa [h3] using hf 5 _ rfl
    have f6 : Rc w 3 [c6] := by simpa [h3] using hf 6 _ rfl
    have f7 : Rc w 22 [c7] := by simpa [h1] using hf 7 _ rfl
    obtain ⟨n0, e0, -⟩ := f0.int Try.underlying3
    obtain ⟨pp, np, cp, ps, e1, a1, a2, a3, a4, -⟩ := f1.ints
    obtain ⟨pl, nl, cl, ls, e2, b1, b2, b3, b4, -⟩ := f2.legs
    obtain ⟨s, e3, hs⟩ := f3.string Try.underlying9
    obtain ⟨n4, e4, -⟩ := f4.int Try.underlying3
    obtain ⟨n5, e5, -⟩ := f5.int Try.underlying3
    obtain ⟨n6, e6, -⟩ := f6.int Try.underlying3
    obtain ⟨pd, nd, cd, dl, e7, d1, d2, d3, d4, -⟩ := f7.ints
    simp only [List.cons.injEq, and_true] at e0 e1 e2 e3 e4 e5 e6 e7
    subst e0 e1 e2 e3 e4 e5 e6 e7
    subst a3 b3 d3
    refine ⟨⟨n0, ps, ls, s.data.toList, n4, n5, n6, dl⟩, ⟨pp, cp, pl, cl, pd, cd, by simp, a4, b4, d4⟩, by simp only; omega, by simp only; omega, by simp only; omega, by simp only [Array.length_toList]; exact hs⟩
def fewP (P : Pl) : Prop := fewN P.ps P.ls ∧ P.dl.length ≤ 100 ∧ P.hash.length ≤ 1000
instance (P : Pl) : Decidable (fewP P) := inferInstanceAs (Decidable (_ ∧ _))
theorem fewP.few {P : Pl} (h : fewP P) : P.few := ⟨by have := h.1.2.1; omega, by have := h.1.2.2; omega, by have := h.2.1; omega, fun l hl => by have := h.1.1 l (by rw [List.take_of_length_le h.1.2.2]; exact hl); omega⟩
set_option maxRecDepth 100000 in
set_option maxHeartbeats 1000000 in
theorem planFewPlan (S : Nat → Prop) (v : Value) (P : Pl) (w : World) (hp : IsPl S w v P) (h1 : P.ps.length ≤ maxLen) (h2 : P.ls.length ≤ maxLen) (h3 : P.dl.length ≤ maxLen) (h4 : P.hash.length ≤ maxLen) :
    Calls Try.prog 15 #[v] w fun e w' => e = .returned (.bool (decide (fewP P))) ∧ Mod nil w w' := by
  refine (?_ : ∀ Post : Ending → World → Prop, Hid (∀ e w', (e = .returned (.bool (decide (fewP P))) ∧ Mod nil w w') → Post e w') → Calls Try.prog 15 #[v] w Post) _ (Lib.hid (fun _ _ h => h))
  intro Post HPOST
  obtain ⟨p1, c1, p2, c2, p7, c7, rfl, hps, hls, hdl⟩ := hp
  obtain ⟨deal, ps, ls, Z, start, eps, wait, dl⟩ := P
  simp only at *
  obtain ⟨np, hnp⟩ : ∃ n, ps.length = n := ⟨_, rfl⟩
  obtain ⟨nl, hnl⟩ : ∃ n, ls.length = n := ⟨_, rfl⟩
  obtain ⟨nd, hnd⟩ : ∃ n, dl.length = n := ⟨_, rfl⟩
  obtain ⟨nz, hnz⟩ : ∃ n, Z.length = n := ⟨_, rfl⟩
  rw [hnp] at h1 ⊢
  rw [hnl] at hls h2 ⊢
  rw [hnd] at h3 ⊢
  rw [hnz] at h4
  have HLS := Lib.hid hls
  have HNP := Lib.hid hnp
  have HND := Lib.hid hnd
  have HNZ := Lib.hid hnz
  obtain ⟨r, hr⟩ : ∃ r, w.heap.size = r := ⟨_, rfl⟩
  clear hps hls hdl hnp hnl hnd
  go_enter Try.func15, Try.ntmps15
  go_upto_region 1 with (fail)
  (try rw [hr])
  generalize hw1 : World.alloc w _ = w1
  have hm1 : Mod nil w w1 := by rw [← hw1]; exact (Mod.refl _ _).alloc _
  have hb1 : w1.heap[r]? = some (.cells #[.int .i64 deal, .slice p1 np c1, .slice p2 nl c2, .string ⟨Z.toArray⟩, .int .i64 start, .int .i64 eps, .int .i64 wait, .slice p7 nd c7] 30 (0, 0)) := by rw [← hw1, ← hr]; exact heap_alloc_new _ _
  have a0 := cell_of hb1 0
  have a1 := cell_of hb1 1
  have a2 := cell_of hb1 2
  have a3 := cell_of hb1 3
  have a4 := cell_of hb1 4
  have a5 := cell_of hb1 5
  have a6 := cell_of hb1 6
  have a7 := cell_of hb1 7
  simp only [List.getElem?_toArray, List.getElem?_cons_zero, List.getElem?_cons_succ] at a0 a1 a2 a3 a4 a5 a6 a7
  have HM1 := Lib.hid hm1
  have hF := planFew _ p1 p2 np c1 nl c2 ps ls w1 HNP.out (HLS.out.modNil hm1) h1 h2
  clear hw1 hm1 hb1 hr
  unfold maxLen at h3 h4
  have hzl : (⟨Z.toArray⟩ : ByteArray).size = nz := by rw [← hnz]; rfl
  have hzl2 : Z.toArray.size = nz := by rw [← hnz]; rfl
  by_cases hf : fewN ps ls
  · rw [decide_eq_true hf] at hF
    have HF := Lib.hid hF
    have HEND : Hid (∀ (b : Bool) W, (b = true ↔ nd ≤ 100 ∧ nz ≤ 1000) → Mod nil w W → Post (.returned (.bool b)) W) := Lib.hid (fun b W hb m => HPOST.out _ _ ⟨by
      have : b = decide (fewP ⟨deal, ps, ls, Z, start, eps, wait, dl⟩) := by
        rw [Bool.eq_iff_iff, hb, decide_eq_true_iff]
        unfold fewP
        simp only
        rw [HND.out, HNZ.out]
        exact ⟨fun h => ⟨hf, h⟩, fun h => h.2⟩
      rw [this], m⟩)
    clear hF hf
    go_wp2_with fail
    refine HF.out.mono ?_
    rintro e w2 ⟨rfl, hm2⟩
    have a0' := cell_kept a0 hm2 (World.block_lt_of_cell? _ _ a0) (not_nil _)
    clear a0
    have a0 := a0'
    clear a0'
    have a1' := cell_kept a1 hm2 (World.block_lt_of_cell? _ _ a1) (not_nil _)
    clear a1
    have a1 := a1'
    clear a1'
    have a2' := cell_kept a2 hm2 (World.block_lt_of_cell? _ _ a2) (not_nil _)
    clear a2
    have a2 := a2'
    clear a2'
    have a3' := cell_kept a3 hm2 (World.block_lt_of_cell? _ _ a3) (not_nil _)
    clear a3
    have a3 := a3'
    clear a3'
    have a4' := cell_kept a4 hm2 (World.block_lt_of_cell? _ _ a4) (not_nil _)
    clear a4
    have a4 := a4'
    clear a4'
    have a5' := cell_kept a5 hm2 (World.block_lt_of_cell? _ _ a5) (not_nil _)
    clear a5
    have a5 := a5'
    clear a5'
    have a6' := cell_kept a6 hm2 (World.block_lt_of_cell? _ _ a6) (not_nil _)
    clear a6
    have a6 := a6'
    clear a6'
    have a7' := cell_kept a7 hm2 (World.block_lt_of_cell? _ _ a7) (not_nil _)
    clear a7
    have a7 := a7'
    clear a7'
    have HM2 := Lib.hid (HM1.out.thenNil hm2)
    clear hm2
    by_cases h5 : nd ≤ 100
    · have HE := Lib.hid (HEND.out (decide ((nz : Int) ≤ 1000)) w2 (by simp; omega) HM2.out)
      go_wp2_with fail
      exact HE.out
    · have HE := Lib.hid (HEND.out false w2 (by simp; omega) HM2.out)
      go_wp2_with fail
      exact HE.out
  · rw [decide_eq_false hf] at hF
    have HF := Lib.hid hF
    have HN : Hid (decide (fewP ⟨deal, ps, ls, Z, start, eps, wait, dl⟩) = false) := Lib.hid (decide_eq_false (fun h => hf h.1))
    clear hF hf
    go_wp2_with fail
    refine HF.out.mono ?_
    rintro e w2 ⟨rfl, hm2⟩
    have HE := Lib.hid (HPOST.out _ w2 ⟨by rw [HN.out], HM1.out.thenNil hm2⟩)
    clear hm2
    go_wp2_with fail
    exact HE.out

theorem checkN_zero {P : Pl} {a b c : Int} (h : checkN P a b c = 0) : makeN P.deal P.ps P.ls P.hash P.start P.eps P.wait = (P, 0) := by
  unfold checkN at h
  by_cases hm : makeN P.deal P.ps P.ls P.hash P.start P.eps P.wait = (P, 0)
  · exact hm
  · rw [if_neg hm] at h; exact absurd h (by decide)
theorem make_self {P : Pl} (h : makeN P.deal P.ps P.ls P.hash P.start P.eps P.wait = (P, 0)) : mayN P.deal P.ps P.ls P.start P.eps P.wait ∧ ladderN P.ps.length P.start P.eps P.wait = some P.dl := by
  rcases makeN_cases h with ⟨-, dl, h1, h2, -, h4⟩ | ⟨h1, -⟩
  · refine ⟨h1, ?_⟩
    rw [h2]
    exact congrArg some (congrArg Pl.dl h4).symm
  · exact absurd rfl h1
theorem checkN_dl {P Q : Pl} {a b c : Int} (h : makeN P.deal P.ps P.ls P.hash P.start P.eps P.wait = (P, 0)) (hq : Q = { P with dl := Q.dl }) (hd : Q.dl ≠ P.dl) : checkN Q a b c = 16 := by
  unfold checkN
  rw [if_neg]
  intro e
  rw [hq] at e
  simp only at e
  rw [h] at e
  exact hd (congrArg Pl.dl (Prod.mk.inj e).1).symm
theorem checkN_ps {Q : Pl} {a b c : Int} (hd : ¬ Q.ps.Nodup) : checkN Q a b c = 16 := by
  unfold checkN
  rw [if_neg]
  intro e
  exact hd (make_self e).1.2.2.1.2.2.2
theorem set_twice {l : List Int} {i j : Nat} (hi : i < l.length) (hj : j < l.length) (hij : i ≠ j) : ¬ (l.set i (l.getD j 0)).Nodup := by
  intro h
  have h2 := List.pairwise_iff_getElem.1 h
  have ei : (l.set i (l.getD j 0))[i]'(by simpa using hi) = l.getD j 0 := by simp
  have ej : (l.set i (l.getD j 0))[j]'(by simpa using hj) = l.getD j 0 := by rw [List.getElem_set_ne hij]; simp [hj]
  rcases Nat.lt_or_gt_of_ne hij with h3 | h3
  · exact h2 i j (by simpa using hi) (by simpa using hj) h3 (by rw [ei, ej])
  · exact h2 j i (by simpa using hj) (by simpa using hi) h3 (by rw [ei, ej])
theorem nodup_index {l : List Int} (h : l.Nodup) {i : Nat} (hi : i < l.length) : indexN (l.getD i 0) l = i := by
  refine indexN_at _ l i hi (fun y hy e => ?_) (by simp [hi])
  obtain ⟨j, hj, rfl⟩ := List.getElem_of_mem hy
  rw [List.length_take] at hj
  rw [List.getElem_take] at e
  have h2 := List.pairwise_iff_getElem.1 h j i (by omega) hi (by omega)
  apply h2
  rw [← e]; simp [hi]
theorem ladder_bounds {n : Nat} {start eps wait : Int} {dl : List Int} (ht : timesN eps wait) (hs : tickN start) (h : ladderN n start eps wait = some dl) (i : Nat) (hi : i < n) : 0 ≤ dl.getD i 0 ∧ dl.getD i 0 ≤ 1099511627776 := by
  obtain ⟨-, h2, h3⟩ := ladderN_some h
  rw [h3 i hi]
  obtain ⟨t1, t2, t3, t4⟩ := id ht
  obtain ⟨s1, s2⟩ := hs
  have g1 : gapN eps wait = 2 * eps + 2 * wait + 2 := if_pos ht
  have hp2 : 0 ≤ ladTop n start eps wait := by
    unfold ladTop
    have h2 : 0 ≤ (2 * (n : Int) + 3) * (wait + 1) := Int.mul_nonneg (by omega) (by omega)
    omega
  unfold ladAt
  have hp1 : 0 ≤ ((n - 1 - i : Nat) : Int) * gapN eps wait := Int.mul_nonneg (by omega) (by omega)
  have hp3 : ((n - 1 - i : Nat) : Int) * gapN eps wait ≤ ((n - 1 : Nat) : Int) * gapN eps wait := Int.mul_le_mul_of_nonneg_right (by omega) (by omega)
  omega
def lowTo (ps : List Int) (x : Int) (j : Nat) : Bool := (ps.take j).any (fun y => decide (x ≤ y))
set_option maxRecDepth 100000 in
set_option maxHeartbeats 8000000 in
theorem lawPlanOdd (v : Value) (P : Pl) (k nx : Int) (w : World) (hp : IsPl (· < w.heap.size) w v P) (l1 : P.ps.length ≤ maxLen) (l2 : P.ls.length ≤ maxLen) (l3 : P.dl.length ≤ maxLen) (l4 : P.hash.length ≤ maxLen) :
    Calls Try.prog 4 #[v, .int .i64 k, .int .i64 nx] w fun e w' => e = .returned (.bool true) ∧ Mod nil w w' := by
  refine (?_ : ∀ Post : Ending → World → Prop, Hid (∀ e w', (e = .returned (.bool true) ∧ Mod nil w w') → Post e w') → Calls Try.prog 4 #[v, .int .i64 k, .int .i64 nx] w Post) _ (Lib.hid (fun _ _ h => h))
  intro Post HPOST
  obtain ⟨p1, c1, p2, c2, p7, c7, rfl, hps, hls, hdl⟩ := id hp
  have HPL := Lib.hid hp
  obtain ⟨deal, ps, ls, Z, start, eps, wait, dl⟩ := P
  simp only at *
  obtain ⟨np, hnp⟩ : ∃ n, ps.length = n := ⟨_, rfl⟩
  obtain ⟨nl, hnl⟩ : ∃ n, ls.length = n := ⟨_, rfl⟩
  obtain ⟨nd, hnd⟩ : ∃ n, dl.length = n := ⟨_, rfl⟩
  have HFW := Lib.hid (fun W (m : Mod nil w W) => planFewPlan _ _ ⟨deal, ps, ls, Z, start, eps, wait, dl⟩ W (hp.modNil m) l1 l2 l3 l4)
  rw [hnp] at hps HPL HFW ⊢
  rw [hnl] at hls HPL HFW ⊢
  rw [hnd] at hdl HPL HFW ⊢
  have HPS := Lib.hid hps
  have HLS := Lib.hid hls
  have HDL := Lib.hid hdl
  have HNP := Lib.hid hnp
  have HNL := Lib.hid hnl
  have HND := Lib.hid hnd
  obtain ⟨r, hr⟩ : ∃ r, w.heap.size = r := ⟨_, rfl⟩
  clear hp hps hls hdl hnp hnl hnd l1 l2 l3
  go_enter Try.func4, Try.ntmps4
  go_upto_region 1 with (fail)
  (try rw [hr])
  generalize hw1 : World.alloc w _ = w1
  have hm1 : Mod nil w w1 := by rw [← hw1]; exact (Mod.refl _ _).alloc _
  have hb1 : w1.heap[r]? = some (.cells #[.int .i64 deal, .slice p1 np c1, .slice p2 nl c2, .string ⟨Z.toArray⟩, .int .i64 start, .int .i64 eps, .int .i64 wait, .slice p7 nd c7] 30 (0, 0)) := by rw [← hw1, ← hr]; exact heap_alloc_new _ _
  have a0 := cell_of hb1 0
  have a1 := cell_of hb1 1
  have a2 := cell_of hb1 2
  have a3 := cell_of hb1 3
  have a4 := cell_of hb1 4
  have a5 := cell_of hb1 5
  have a6 := cell_of hb1 6
  have a7 := cell_of hb1 7
  simp only [List.getElem?_toArray, List.getElem?_cons_zero, List.getElem?_cons_succ] at a0 a1 a2 a3 a4 a5 a6 a7
  have HM1 := Lib.hid hm1
  clear hw1 hm1 hb1 hr
  go_wp2_with fail
  refine (planFirst w1).mono ?_
  rintro e w' ⟨rfl, rfl⟩
  have HF1 := Lib.hid (HFW.out w1 HM1.out)
  by_cases hfew : fewP ⟨deal, ps, ls, Z, start, eps, wait, dl⟩
  case neg =>
    rw [decide_eq_false hfew] at HF1
    clear hfew
    go_wp2_with fail
    refine HF1.out.mono ?_
    rintro e w2 ⟨rfl, hm2⟩
    have HE := Lib.hid (HPOST.out _ w2 ⟨rfl, HM1.out.thenNil hm2⟩)
    clear hm2
    go_wp2_with fail
    refine (planFirst w2).mono ?_
    rintro e w' ⟨rfl, rfl⟩
    go_wp2_with fail
    exact HE.out
  rw [decide_eq_true hfew] at HF1
  have HFEW := Lib.hid hfew
  clear hfew
  go_wp2_with fail
  refine HF1.out.mono ?_
  rintro e w2 ⟨rfl, hm2⟩
  have a0' := cell_kept a0 hm2 (World.block_lt_of_cell? _ _ a0) (not_nil _)
  clear a0
  have a0 := a0'
  clear a0'
  have a1' := cell_kept a1 hm2 (World.block_lt_of_cell? _ _ a1) (not_nil _)
  clear a1
  have a1 := a1'
  clear a1'
  have a2' := cell_kept a2 hm2 (World.block_lt_of_cell? _ _ a2) (not_nil _)
  clear a2
  have a2 := a2'
  clear a2'
  have a3' := cell_kept a3 hm2 (World.block_lt_of_cell? _ _ a3) (not_nil _)
  clear a3
  have a3 := a3'
  clear a3'
  have a4' := cell_kept a4 hm2 (World.block_lt_of_cell? _ _ a4) (not_nil _)
  clear a4
  have a4 := a4'
  clear a4'
  have a5' := cell_kept a5 hm2 (World.block_lt_of_cell? _ _ a5) (not_nil _)
  clear a5
  have a5 := a5'
  clear a5'
  have a6' := cell_kept a6 hm2 (World.block_lt_of_cell? _ _ a6) (not_nil _)
  clear a6
  have a6 := a6'
  clear a6'
  have a7' := cell_kept a7 hm2 (World.block_lt_of_cell? _ _ a7) (not_nil _)
  clear a7
  have a7 := a7'
  clear a7'
  have HM2 := Lib.hid (HM1.out.thenNil hm2)
  clear hm2
  have HC2 := Lib.hid (planCheck _ _ ⟨deal, ps, ls, Z, start, eps, wait, dl⟩ 16 4 4 w2 (HPL.out.modNil HM2.out) HFEW.out.few (by have := HFEW.out.2.2; simp only at this ⊢; omega))
  by_cases hck : checkN ⟨deal, ps, ls, Z, start, eps, wait, dl⟩ 16 4 4 = 0
  case neg =>
    obtain ⟨cn, hcn⟩ : ∃ c, checkN ⟨deal, ps, ls, Z, start, eps, wait, dl⟩ 16 4 4 = c := ⟨_, rfl⟩
    rw [hcn] at HC2 hck
    have hb : (cn != 0) = true := by simp [hck]
    clear hcn hck
    go_wp2_with fail
    refine HC2.out.mono ?_
    rintro e w3 ⟨rfl, hm3⟩
    have HE := Lib.hid (HPOST.out _ w3 ⟨rfl, HM2.out.thenNil hm3⟩)
    clear hm3
    go_wp2_with fail
    refine (planFirst w3).mono ?_
    rintro e w' ⟨rfl, rfl⟩
    go_wp2_with fail
    exact HE.out
  have HMAKE : Hid (makeN deal ps ls Z start eps wait = (⟨deal, ps, ls, Z, start, eps, wait, dl⟩, 0)) := Lib.hid (checkN_zero hck)
  rw [hck] at HC2
  clear hck
  go_wp2_with fail
  refine HC2.out.mono ?_
  rintro e w3 ⟨rfl, hm3⟩
  have a0' := cell_kept a0 hm3 (World.block_lt_of_cell? _ _ a0) (not_nil _)
  clear a0
  have a0 := a0'
  clear a0'
  have a1' := cell_kept a1 hm3 (World.block_lt_of_cell? _ _ a1) (not_nil _)
  clear a1
  have a1 := a1'
  clear a1'
  have a2' := cell_kept a2 hm3 (World.block_lt_of_cell? _ _ a2) (not_nil _)
  clear a2
  have a2 := a2'
  clear a2'
  have a3' := cell_kept a3 hm3 (World.block_lt_of_cell? _ _ a3) (not_nil _)
  clear a3
  have a3 := a3'
  clear a3'
  have a4' := cell_kept a4 hm3 (World.block_lt_of_cell? _ _ a4) (not_nil _)
  clear a4
  have a4 := a4'
  clear a4'
  have a5' := cell_kept a5 hm3 (World.block_lt_of_cell? _ _ a5) (not_nil _)
  clear a5
  have a5 := a5'
  clear a5'
  have a6' := cell_kept a6 hm3 (World.block_lt_of_cell? _ _ a6) (not_nil _)
  clear a6
  have a6 := a6'
  clear a6'
  have a7' := cell_kept a7 hm3 (World.block_lt_of_cell? _ _ a7) (not_nil _)
  clear a7
  have a7 := a7'
  clear a7'
  have HM3 := Lib.hid (HM2.out.thenNil hm3)
  clear hm3
  by_cases hk0 : k < 0
  case pos =>
    have HE := Lib.hid (HPOST.out _ w3 ⟨rfl, HM3.out⟩)
    go_wp2_with fail
    refine (planFirst w3).mono ?_
    rintro e w' ⟨rfl, rfl⟩
    go_wp2_with fail
    exact HE.out
  obtain ⟨K, rfl⟩ := Int.eq_ofNat_of_zero_le (show 0 ≤ k by omega)
  obtain ⟨hmay, hlad⟩ := make_self (P := ⟨deal, ps, ls, Z, start, eps, wait, dl⟩) HMAKE.out
  simp only at hmay hlad
  obtain ⟨-, -, ⟨hp2, hp16, hrng, hnod⟩, -, -, htk, htm0⟩ := hmay
  have hbnd := ladder_bounds htm0 htk hlad
  rw [HNP.out] at hbnd
  obtain ⟨hl1, hl2, hl3⟩ := ladderN_some hlad
  rw [HND.out, HNP.out] at hl1
  subst hl1
  rw [HNP.out] at hp2 hp16 hl2 hl3
  obtain ⟨at0, hat⟩ : ∃ a, K % nd = a := ⟨_, rfl⟩
  obtain ⟨at1, hat1⟩ : ∃ a, (at0 + 1) % nd = a := ⟨_, rfl⟩
  have hlt0 : at0 < nd := by rw [← hat]; exact Nat.mod_lt _ (by omega)
  have hlt1 : at1 < nd := by rw [← hat1]; exact Nat.mod_lt _ (by omega)
  have hne01 : at0 ≠ at1 := by
    rw [← hat1]
    rcases (show at0 + 1 < nd ∨ at0 + 1 = nd by omega) with h | h
    · rw [Nat.mod_eq_of_lt h]; omega
    · rw [h, Nat.mod_self]; omega
  have htm : (K : Int).tmod (nd : Int) = (at0 : Int) := by rw [← hat]; rfl
  have htm1 : ((at0 : Int) + 1).tmod (nd : Int) = (at1 : Int) := by rw [← hat1]; rfl
  have hw01 : IntKind.i64.wrap ((at0 : Int) + 1) = (at0 : Int) + 1 := by rw [IntKind.wrap_i64]; omega
  have hnd0 : ¬ (nd : Int) = 0 := by omega
  have hnn : ¬ nd = 0 := by omega
  obtain ⟨y, hy⟩ : ∃ y, dl.getD at0 0 = y := ⟨_, rfl⟩
  obtain ⟨x0, hx0⟩ : ∃ x, ps.getD at0 0 = x := ⟨_, rfl⟩
  obtain ⟨x1, hx1⟩ : ∃ x, ps.getD at1 0 = x := ⟨_, rfl⟩
  have hyb : 0 ≤ y ∧ y ≤ 1099511627776 := by rw [← hy]; exact hbnd at0 hlt0
  have hw1 : IntKind.i64.wrap (y + 1) = y + 1 := by rw [IntKind.wrap_i64]; omega
  have HNOD := Lib.hid hnod
  have HRNG := Lib.hid hrng
  have HY := Lib.hid hy
  have HX0 := Lib.hid hx0
  have HX1 := Lib.hid hx1
  clear hnod hrng hy hx0 hx1 hat hat1 hl2 hl3 hlad hbnd htk htm0
  go_upto_region 10 with (fail)
  clear htm
  have hr3 : r < w3.heap.size := World.block_lt_of_cell? _ _ a0
  obtain ⟨rq, hrq⟩ : ∃ r, w3.heap.size = r := ⟨_, rfl⟩
  (try rw [hrq])
  generalize hw4 : World.alloc w3 _ = w4
  have hm4 : Mod nil w3 w4 := by rw [← hw4]; exact (Mod.refl _ _).alloc _
  have hb4 : w4.heap[rq]? = some (.cells #[.int .i64 deal, .slice p1 nd c1, .slice p2 nl c2, .string ⟨Z.toArray⟩, .int .i64 start, .int .i64 eps, .int .i64 wait, .slice p7 nd c7] 30 (0, 0)) := by rw [← hw4, ← hrq]; exact heap_alloc_new _ _
  have a0' := cell_kept a0 hm4 (World.block_lt_of_cell? _ _ a0) (not_nil _)
  clear a0
  have a0 := a0'
  clear a0'
  have a1' := cell_kept a1 hm4 (World.block_lt_of_cell? _ _ a1) (not_nil _)
  clear a1
  have a1 := a1'
  clear a1'
  have a2' := cell_kept a2 hm4 (World.block_lt_of_cell? _ _ a2) (not_nil _)
  clear a2
  have a2 := a2'
  clear a2'
  have a3' := cell_kept a3 hm4 (World.block_lt_of_cell? _ _ a3) (not_nil _)
  clear a3
  have a3 := a3'
  clear a3'
  have a4' := cell_kept a4 hm4 (World.block_lt_of_cell? _ _ a4) (not_nil _)
  clear a4
  have a4 := a4'
  clear a4'
  have a5' := cell_kept a5 hm4 (World.block_lt_of_cell? _ _ a5) (not_nil _)
  clear a5
  have a5 := a5'
  clear a5'
  have a6' := cell_kept a6 hm4 (World.block_lt_of_cell? _ _ a6) (not_nil _)
  clear a6
  have a6 := a6'
  clear a6'
  have a7' := cell_kept a7 hm4 (World.block_lt_of_cell? _ _ a7) (not_nil _)
  clear a7
  have a7 := a7'
  clear a7'
  have HM4 := Lib.hid (HM3.out.thenNil hm4)
  have hr4 : r < w4.heap.size := World.block_lt_of_cell? _ _ a0
  have hrq0 : w.heap.size ≤ rq := by have := HM3.out.size; omega
  have hrl : r ≠ rq := by omega
  have hrql : rq < w4.heap.size := heap_lt hb4
  have HB4 := Lib.hid hb4
  have HCOPY := Lib.hid (refCopyInts _ p7 nd c7 dl w4 (HDL.out.modNil HM4.out) HND.out (by omega))
  clear hw4 hm4 hb4 hrq hr3
  go_wp2_with fail
  refine HCOPY.out.mono ?_
  rintro e w5 ⟨pq, c7q, rfl, hvq, hm5⟩
  have a0' := cell_kept a0 hm5 (World.block_lt_of_cell? _ _ a0) (not_nil _)
  clear a0
  have a0 := a0'
  clear a0'
  have a1' := cell_kept a1 hm5 (World.block_lt_of_cell? _ _ a1) (not_nil _)
  clear a1
  have a1 := a1'
  clear a1'
  have a2' := cell_kept a2 hm5 (World.block_lt_of_cell? _ _ a2) (not_nil _)
  clear a2
  have a2 := a2'
  clear a2'
  have a3' := cell_kept a3 hm5 (World.block_lt_of_cell? _ _ a3) (not_nil _)
  clear a3
  have a3 := a3'
  clear a3'
  have a4' := cell_kept a4 hm5 (World.block_lt_of_cell? _ _ a4) (not_nil _)
  clear a4
  have a4 := a4'
  clear a4'
  have a5' := cell_kept a5 hm5 (World.block_lt_of_cell? _ _ a5) (not_nil _)
  clear a5
  have a5 := a5'
  clear a5'
  have a6' := cell_kept a6 hm5 (World.block_lt_of_cell? _ _ a6) (not_nil _)
  clear a6
  have a6 := a6'
  clear a6'
  have a7' := cell_kept a7 hm5 (World.block_lt_of_cell? _ _ a7) (not_nil _)
  clear a7
  have a7 := a7'
  clear a7'
  have hb5 := hm5.keep HB4.out
  have k7 := cell_of hb5 7
  have z7 := free_of hb5 7
  have HM5 := Lib.hid (HM4.out.thenNil hm5)
  have hs5 := hm5.size
  simp only [List.getElem?_toArray, List.getElem?_cons_zero, List.getElem?_cons_succ] at k7
  go_upto_region 11 with (fail)
  generalize hw6 : World.setCell w5 _ _ = w6
  have m6 : Mod (· = rq) w5 w6 := by rw [← hw6]; exact (Mod.refl _ _).setCell _ _ (fun _ => rfl)
  have hb6 : w6.heap[rq]? = some (.cells #[.int .i64 deal, .slice p1 nd c1, .slice p2 nl c2, .string ⟨Z.toArray⟩, .int .i64 start, .int .i64 eps, .int .i64 wait, .slice pq nd c7q] 30 (0, 0)) := by rw [← hw6]; exact heap_setCell_same hb5 _
  have a0' := cell_kept a0 m6 (World.block_lt_of_cell? _ _ a0) hrl
  clear a0
  have a0 := a0'
  clear a0'
  have a1' := cell_kept a1 m6 (World.block_lt_of_cell? _ _ a1) hrl
  clear a1
  have a1 := a1'
  clear a1'
  have a2' := cell_kept a2 m6 (World.block_lt_of_cell? _ _ a2) hrl
  clear a2
  have a2 := a2'
  clear a2'
  have a3' := cell_kept a3 m6 (World.block_lt_of_cell? _ _ a3) hrl
  clear a3
  have a3 := a3'
  clear a3'
  have a4' := cell_kept a4 m6 (World.block_lt_of_cell? _ _ a4) hrl
  clear a4
  have a4 := a4'
  clear a4'
  have a5' := cell_kept a5 m6 (World.block_lt_of_cell? _ _ a5) hrl
  clear a5
  have a5 := a5'
  clear a5'
  have a6' := cell_kept a6 m6 (World.block_lt_of_cell? _ _ a6) hrl
  clear a6
  have a6 := a6'
  clear a6'
  have a7' := cell_kept a7 m6 (World.block_lt_of_cell? _ _ a7) hrl
  clear a7
  have a7 := a7'
  clear a7'
  have hv6 := hvq.mod m6 (fun k hk h e => by omega)
  obtain ⟨gq, cgq, hge, hgS, hgl, hgc, hgf, hgset⟩ := vec_set hv6 at0 hlt0
  simp only [Value.slice.injEq, true_and] at hge
  obtain ⟨rfl, rfl⟩ := hge
  have hgc' : w6.cell? ⟨gq, at0, none⟩ = some (.int .i64 y) := by rw [hgc, ← HY.out]; simp [HND.out, hlt0]
  have q7 := cell_of hb6 7
  simp only [List.getElem?_toArray, List.getElem?_cons_zero, List.getElem?_cons_succ] at q7
  have HM6 := Lib.hid (HM5.out.new m6 (fun k h => by rw [h]; exact hrq0))
  have HSET := Lib.hid hgset
  have HB6 := Lib.hid hb6
  have hs6 := m6.size
  clear hw6 m6 hb5 k7 z7 hvq hm5 hv6 hgc hgset HCOPY HB4 hb6
  go_upto_region 12 with (fail)
  clear q7 hgc' hgf hw1
  generalize hw7 : World.setCell w6 _ _ = w7
  have m7 : Mod (· = gq) w6 w7 := by rw [← hw7]; exact (Mod.refl _ _).setCell _ _ (fun _ => rfl)
  have hv7 : IsVec (fun k => w4.heap.size ≤ k) w7 3 1 (.slice (some ⟨gq, 0, none⟩) nd c7q) nd ((dl.set at0 (y + 1)).map (.int .i64)) := by
    have h := HSET.out (.int .i64 (y + 1)) rfl
    rw [hw7] at h
    rw [List.map_set]
    exact h
  have hb7 := (m7.block rq (by omega) (by omega)).trans HB6.out
  have a0' := cell_kept a0 m7 (World.block_lt_of_cell? _ _ a0) (show r ≠ gq by omega)
  clear a0
  have a0 := a0'
  clear a0'
  have a1' := cell_kept a1 m7 (World.block_lt_of_cell? _ _ a1) (show r ≠ gq by omega)
  clear a1
  have a1 := a1'
  clear a1'
  have a2' := cell_kept a2 m7 (World.block_lt_of_cell? _ _ a2) (show r ≠ gq by omega)
  clear a2
  have a2 := a2'
  clear a2'
  have a3' := cell_kept a3 m7 (World.block_lt_of_cell? _ _ a3) (show r ≠ gq by omega)
  clear a3
  have a3 := a3'
  clear a3'
  have a4' := cell_kept a4 m7 (World.block_lt_of_cell? _ _ a4) (show r ≠ gq by omega)
  clear a4
  have a4 := a4'
  clear a4'
  have a5' := cell_kept a5 m7 (World.block_lt_of_cell? _ _ a5) (show r ≠ gq by omega)
  clear a5
  have a5 := a5'
  clear a5'
  have a6' := cell_kept a6 m7 (World.block_lt_of_cell? _ _ a6) (show r ≠ gq by omega)
  clear a6
  have a6 := a6'
  clear a6'
  have a7' := cell_kept a7 m7 (World.block_lt_of_cell? _ _ a7) (show r ≠ gq by omega)
  clear a7
  have a7 := a7'
  clear a7'
  have HM7 := Lib.hid (HM6.out.new m7 (fun k h => by rw [h]; omega))
  have HV7 := Lib.hid hv7.row.here
  have HB7 := Lib.hid hb7
  have hs7 := m7.size
  have hr7 : r < w7.heap.size := World.block_lt_of_cell? _ _ a0
  clear hw7 m7 hv7 hb7 HSET HB6
  go_upto_region 13 with (fail)
  obtain ⟨rr, hrr⟩ : ∃ r, w7.heap.size = r := ⟨_, rfl⟩
  (try rw [hrr])
  generalize hw8 : World.alloc w7 _ = w8
  have hm8 : Mod nil w7 w8 := by rw [← hw8]; exact (Mod.refl _ _).alloc _
  have hb8 : w8.heap[rr]? = some (.cells #[.int .i64 deal, .slice p1 nd c1, .slice p2 nl c2, .string ⟨Z.toArray⟩, .int .i64 start, .int .i64 eps, .int .i64 wait, .slice p7 nd c7] 30 (0, 0)) := by rw [← hw8, ← hrr]; exact heap_alloc_new _ _
  have a0' := cell_kept a0 hm8 (World.block_lt_of_cell? _ _ a0) (not_nil _)
  clear a0
  have a0 := a0'
  clear a0'
  have a1' := cell_kept a1 hm8 (World.block_lt_of_cell? _ _ a1) (not_nil _)
  clear a1
  have a1 := a1'
  clear a1'
  have a2' := cell_kept a2 hm8 (World.block_lt_of_cell? _ _ a2) (not_nil _)
  clear a2
  have a2 := a2'
  clear a2'
  have a3' := cell_kept a3 hm8 (World.block_lt_of_cell? _ _ a3) (not_nil _)
  clear a3
  have a3 := a3'
  clear a3'
  have a4' := cell_kept a4 hm8 (World.block_lt_of_cell? _ _ a4) (not_nil _)
  clear a4
  have a4 := a4'
  clear a4'
  have a5' := cell_kept a5 hm8 (World.block_lt_of_cell? _ _ a5) (not_nil _)
  clear a5
  have a5 := a5'
  clear a5'
  have a6' := cell_kept a6 hm8 (World.block_lt_of_cell? _ _ a6) (not_nil _)
  clear a6
  have a6 := a6'
  clear a6'
  have a7' := cell_kept a7 hm8 (World.block_lt_of_cell? _ _ a7) (not_nil _)
  clear a7
  have a7 := a7'
  clear a7'
  have HM8 := Lib.hid (HM7.out.thenNil hm8)
  have HN78 := Lib.hid (hm8.ofNil : Mod (fun k => rr ≤ k) w7 w8)
  have hrrl : rr < w8.heap.size := heap_lt hb8
  have HB8 := Lib.hid hb8
  have hrne : r ≠ rr := by omega
  have HCOPY := Lib.hid (refCopyInts _ p1 nd c1 ps w8 (HPS.out.modNil HM8.out) HNP.out (by omega))
  clear hw8 hm8 hb8
  go_wp2_with fail
  refine HCOPY.out.mono ?_
  rintro e w9 ⟨pr, c1r, rfl, hvr, hm9⟩
  have a0' := cell_kept a0 hm9 (World.block_lt_of_cell? _ _ a0) (not_nil _)
  clear a0
  have a0 := a0'
  clear a0'
  have a1' := cell_kept a1 hm9 (World.block_lt_of_cell? _ _ a1) (not_nil _)
  clear a1
  have a1 := a1'
  clear a1'
  have a2' := cell_kept a2 hm9 (World.block_lt_of_cell? _ _ a2) (not_nil _)
  clear a2
  have a2 := a2'
  clear a2'
  have a3' := cell_kept a3 hm9 (World.block_lt_of_cell? _ _ a3) (not_nil _)
  clear a3
  have a3 := a3'
  clear a3'
  have a4' := cell_kept a4 hm9 (World.block_lt_of_cell? _ _ a4) (not_nil _)
  clear a4
  have a4 := a4'
  clear a4'
  have a5' := cell_kept a5 hm9 (World.block_lt_of_cell? _ _ a5) (not_nil _)
  clear a5
  have a5 := a5'
  clear a5'
  have a6' := cell_kept a6 hm9 (World.block_lt_of_cell? _ _ a6) (not_nil _)
  clear a6
  have a6 := a6'
  clear a6'
  have a7' := cell_kept a7 hm9 (World.block_lt_of_cell? _ _ a7) (not_nil _)
  clear a7
  have a7 := a7'
  clear a7'
  have hb9 := hm9.keep HB8.out
  have k1 := cell_of hb9 1
  have z1 := free_of hb9 1
  have HM9 := Lib.hid (HM8.out.thenNil hm9)
  have HN79 := Lib.hid (HN78.out.thenNil hm9)
  have hs9 := hm9.size
  simp only [List.getElem?_toArray, List.getElem?_cons_zero, List.getElem?_cons_succ] at k1
  go_upto_region 14 with (fail)
  generalize hw10 : World.setCell w9 _ _ = w10
  have m10 : Mod (· = rr) w9 w10 := by rw [← hw10]; exact (Mod.refl _ _).setCell _ _ (fun _ => rfl)
  have hb10 : w10.heap[rr]? = some (.cells #[.int .i64 deal, .slice pr nd c1r, .slice p2 nl c2, .string ⟨Z.toArray⟩, .int .i64 start, .int .i64 eps, .int .i64 wait, .slice p7 nd c7] 30 (0, 0)) := by rw [← hw10]; exact heap_setCell_same hb9 _
  have a0' := cell_kept a0 m10 (World.block_lt_of_cell? _ _ a0) hrne
  clear a0
  have a0 := a0'
  clear a0'
  have a1' := cell_kept a1 m10 (World.block_lt_of_cell? _ _ a1) hrne
  clear a1
  have a1 := a1'
  clear a1'
  have a2' := cell_kept a2 m10 (World.block_lt_of_cell? _ _ a2) hrne
  clear a2
  have a2 := a2'
  clear a2'
  have a3' := cell_kept a3 m10 (World.block_lt_of_cell? _ _ a3) hrne
  clear a3
  have a3 := a3'
  clear a3'
  have a4' := cell_kept a4 m10 (World.block_lt_of_cell? _ _ a4) hrne
  clear a4
  have a4 := a4'
  clear a4'
  have a5' := cell_kept a5 m10 (World.block_lt_of_cell? _ _ a5) hrne
  clear a5
  have a5 := a5'
  clear a5'
  have a6' := cell_kept a6 m10 (World.block_lt_of_cell? _ _ a6) hrne
  clear a6
  have a6 := a6'
  clear a6'
  have a7' := cell_kept a7 m10 (World.block_lt_of_cell? _ _ a7) hrne
  clear a7
  have a7 := a7'
  clear a7'
  have hv10 := hvr.mod m10 (fun k hk h e => by omega)
  obtain ⟨gr, cgr, hge, hgrS, hgrl, hgrc, hgrf, hgrset⟩ := vec_set hv10 at0 hlt0
  simp only [Value.slice.injEq, true_and] at hge
  obtain ⟨rfl, rfl⟩ := hge
  have kx1 : w10.cell? ⟨gr, at1, none⟩ = some (.int .i64 x1) := by
    obtain ⟨p', c', he, hcc⟩ := hv10.row
    obtain ⟨b, off, h1, -, -, h4⟩ := hcc at1 (by rw [List.length_map, HNP.out]; exact hlt1)
    simp only [Value.slice.injEq] at he
    obtain ⟨rfl, -, -⟩ := he
    simp only [Option.some.injEq, Addr.mk.injEq, and_true] at h1
    obtain ⟨rfl, rfl⟩ := h1
    rw [Nat.zero_add] at h4
    rw [h4, ← HX1.out]; simp [HNP.out, hlt1]
  clear k1 z1
  have k1 := cell_of hb10 1
  simp only [List.getElem?_toArray, List.getElem?_cons_zero, List.getElem?_cons_succ] at k1
  have HM10 := Lib.hid (HM9.out.new m10 (fun k h => by have := HM7.out.size; omega))
  have HN710 := Lib.hid (HN79.out.trans m10 (fun k _ h => by omega))
  have HSET := Lib.hid hgrset
  have HB10 := Lib.hid hb10
  have hs10 := m10.size
  clear hw10 m10 hb9 hvr hm9 hv10 hgrset HCOPY HB8 hb10
  go_upto_region 14 with (fail)
  refine region_till (fun w' => w'.cell? ⟨rr, 1, none⟩ = some (.slice (some ⟨gr, 0, none⟩) nd c1r) ∧ w'.cell? ⟨gr, at1, none⟩ = some (.int .i64 x1)) 12 (by kernel_rfl) ?_
  refine till_free (i := 0) (v := ?_) rfl (by kernel_rfl) (by kernel_rfl) (by kernel_rfl) (by kernel_rfl) (fun _ _ _ h => h) (Or.inl ⟨by kernel_rfl, ?_⟩) (fun _ => ⟨k1, kx1⟩) ?_
  rotate_left
  · intro w _; (first | (go_simp; done) | (go_simp; with_reducible rfl))
  (try simp only [Act.put]); (try simp only [List.setIfInBounds_toArray])
  refine till_free (i := 2) (v := ?_) rfl (by kernel_rfl) (by kernel_rfl) (by kernel_rfl) (by kernel_rfl) (fun _ _ _ h => h) (Or.inl ⟨by kernel_rfl, ?_⟩) (fun _ => ⟨k1, kx1⟩) ?_
  rotate_left
  · intro w _; (first | (go_simp; done) | (go_simp; with_reducible rfl))
  (try simp only [Act.put]); (try simp only [List.setIfInBounds_toArray])
  refine till_free (i := 3) (v := ?_) rfl (by kernel_rfl) (by kernel_rfl) (by kernel_rfl) (by kernel_rfl) (fun _ _ _ h => h) (Or.inl ⟨by kernel_rfl, ?_⟩) (fun _ => ⟨k1, kx1⟩) ?_
  rotate_left
  · intro w _; (first | (go_simp; done) | (go_simp; with_reducible rfl))
  (try simp only [Act.put]); (try simp only [List.setIfInBounds_toArray])
  refine till_free (i := 5) (v := ?_) rfl (by kernel_rfl) (by kernel_rfl) (by kernel_rfl) (by kernel_rfl) (fun _ _ _ h => h) (Or.inl ⟨by kernel_rfl, ?_⟩) (fun _ => ⟨k1, kx1⟩) ?_
  rotate_left
  · intro w _; (first | (go_simp; done) | (go_simp; with_reducible rfl))
  (try simp only [Act.put]); (try simp only [List.setIfInBounds_toArray])
  refine till_free (i := 7) (v := ?_) rfl (by kernel_rfl) (by kernel_rfl) (by kernel_rfl) (by kernel_rfl) (fun _ _ _ h => h) (Or.inl ⟨by kernel_rfl, ?_⟩) (fun _ => ⟨k1, kx1⟩) ?_
  rotate_left
  · intro w _; (first | (go_simp; done) | (go_simp; with_reducible rfl))
  (try simp only [Act.put]); (try simp only [List.setIfInBounds_toArray])
  refine till_take (i := 1) (v := ?_) rfl (by kernel_rfl) (by kernel_rfl) (by kernel_rfl) (by kernel_rfl) (by kernel_rfl) (by kernel_rfl) (fun _ _ _ h => h) (Or.inl ⟨by kernel_rfl, ?_⟩) (⟨k1, kx1⟩) ?_
  rotate_left
  · intro w hSw; (try dsimp only at hSw); (first | (go_simp; done) | (go_simp; with_reducible rfl))
  (try simp only [Act.put]); (try simp only [List.setIfInBounds_toArray])
  refine till_take (i := 4) (v := ?_) rfl (by kernel_rfl) (by kernel_rfl) (by kernel_rfl) (by kernel_rfl) (by kernel_rfl) (by kernel_rfl) (fun _ _ _ h => h) (Or.inl ⟨by kernel_rfl, ?_⟩) (⟨k1, kx1⟩) ?_
  rotate_left
  · intro w hSw; (try dsimp only at hSw); (first | (go_simp; done) | (go_simp; with_reducible rfl))
  (try simp only [Act.put]); (try simp only [List.setIfInBounds_toArray])
  refine till_free (i := 6) (v := ?_) rfl (by kernel_rfl) (by kernel_rfl) (by kernel_rfl) (by kernel_rfl) (fun _ _ _ h => h) (Or.inl ⟨by kernel_rfl, ?_⟩) (fun _ => ⟨k1, kx1⟩) ?_
  rotate_left
  · intro w _; (first | (go_simp; done) | (go_simp; with_reducible rfl))
  (try simp only [Act.put]); (try simp only [List.setIfInBounds_toArray])
  refine till_free (i := 8) (v := ?_) rfl (by kernel_rfl) (by kernel_rfl) (by kernel_rfl) (by kernel_rfl) (fun _ _ _ h => h) (Or.inl ⟨by kernel_rfl, ?_⟩) (fun _ => ⟨k1, kx1⟩) ?_
  rotate_left
  · intro w _; (first | (go_simp; done) | (go_simp; with_reducible rfl))
  (try simp only [Act.put]); (try simp only [List.setIfInBounds_toArray])
  refine till_free (i := 9) (v := ?_) rfl (by kernel_rfl) (by kernel_rfl) (by kernel_rfl) (by kernel_rfl) (fun _ _ _ h => h) (Or.inl ⟨by kernel_rfl, ?_⟩) (fun _ => ⟨k1, kx1⟩) ?_
  rotate_left
  · intro w _; (first | (go_simp; done) | (go_simp; with_reducible rfl))
  (try simp only [Act.put]); (try simp only [List.setIfInBounds_toArray])
  refine till_take (i := 10) (v := ?_) rfl (by kernel_rfl) (by kernel_rfl) (by kernel_rfl) (by kernel_rfl) (by kernel_rfl) (by kernel_rfl) (fun _ _ _ h => h) (Or.inl ⟨by kernel_rfl, ?_⟩) (⟨k1, kx1⟩) ?_
  rotate_left
  · intro w hSw; (try dsimp only at hSw); (first | (go_simp; done) | (go_simp; with_reducible rfl))
  (try simp only [Act.put]); (try simp only [List.setIfInBounds_toArray])
  refine till_free (i := 11) (v := ?_) rfl (by kernel_rfl) (by kernel_rfl) (by kernel_rfl) (by kernel_rfl) (fun _ _ _ h => h) (Or.inl ⟨by kernel_rfl, ?_⟩) (fun _ => ⟨k1, kx1⟩) ?_
  rotate_left
  · intro w _; (first | (go_simp; done) | (go_simp; with_reducible rfl))
  (try simp only [Act.put]); (try simp only [List.setIfInBounds_toArray])
  refine till_ready (rs := [12]) (by kernel_rfl) (by simp) ?_
  refine till_cons (i := 12) rfl (fun K hK => ?_) till_nil
  (try dsimp (config := { proj := false }) only [List.getElem_toArray, List.getElem_cons_succ, List.getElem_cons_zero])
  go_simp
  refine hK.out _ _ (fun h => (by simp at h)) ?_
  clear hK K
  (try simp only [Act.put, List.setIfInBounds_toArray, List.set_cons_zero, List.set_cons_succ])
  refine till_done (by kernel_rfl) ?_ _
  clear htm1 hw01 k1 kx1 hgrf hgrc
  generalize hw11 : World.drew _ = w11
  have m11 : Mod (· = gr) w10 w11 := by rw [← hw11]; exact ((Mod.refl (· = gr) w10).setCell ⟨gr, at0, none⟩ _ (fun _ => rfl)).drew
  have hv11 : IsVec (fun k => w8.heap.size ≤ k) w11 3 1 (.slice (some ⟨gr, 0, none⟩) nd c1r) nd ((ps.set at0 x1).map (.int .i64)) := by
    have h := HSET.out (.int .i64 x1) rfl
    rw [List.map_set]
    rw [← hw11]
    exact h.modNil ((Mod.refl _ _).drew)
  have hb11 := (m11.block rr (by omega) (by omega)).trans HB10.out
  have a0' := cell_kept a0 m11 (World.block_lt_of_cell? _ _ a0) (show r ≠ gr by omega)
  clear a0
  have a0 := a0'
  clear a0'
  have a1' := cell_kept a1 m11 (World.block_lt_of_cell? _ _ a1) (show r ≠ gr by omega)
  clear a1
  have a1 := a1'
  clear a1'
  have a2' := cell_kept a2 m11 (World.block_lt_of_cell? _ _ a2) (show r ≠ gr by omega)
  clear a2
  have a2 := a2'
  clear a2'
  have a3' := cell_kept a3 m11 (World.block_lt_of_cell? _ _ a3) (show r ≠ gr by omega)
  clear a3
  have a3 := a3'
  clear a3'
  have a4' := cell_kept a4 m11 (World.block_lt_of_cell? _ _ a4) (show r ≠ gr by omega)
  clear a4
  have a4 := a4'
  clear a4'
  have a5' := cell_kept a5 m11 (World.block_lt_of_cell? _ _ a5) (show r ≠ gr by omega)
  clear a5
  have a5 := a5'
  clear a5'
  have a6' := cell_kept a6 m11 (World.block_lt_of_cell? _ _ a6) (show r ≠ gr by omega)
  clear a6
  have a6 := a6'
  clear a6'
  have a7' := cell_kept a7 m11 (World.block_lt_of_cell? _ _ a7) (show r ≠ gr by omega)
  clear a7
  have a7 := a7'
  clear a7'
  have HM11 := Lib.hid (HM10.out.new m11 (fun k h => by have := HM8.out.size; omega))
  have HN711 := Lib.hid (HN710.out.trans m11 (fun k _ h => by omega))
  have hbq := (HN711.out.block rq (by omega) (by omega)).trans HB7.out
  have q0 := cell_of hbq 0
  have q1 := cell_of hbq 1
  have q2 := cell_of hbq 2
  have q3 := cell_of hbq 3
  have q4 := cell_of hbq 4
  have q5 := cell_of hbq 5
  have q6 := cell_of hbq 6
  have q7 := cell_of hbq 7
  simp only [List.getElem?_toArray, List.getElem?_cons_zero, List.getElem?_cons_succ] at q0 q1 q2 q3 q4 q5 q6 q7
  have r0 := cell_of hb11 0
  have r1 := cell_of hb11 1
  have r2 := cell_of hb11 2
  have r3 := cell_of hb11 3
  have r4 := cell_of hb11 4
  have r5 := cell_of hb11 5
  have r6 := cell_of hb11 6
  have r7 := cell_of hb11 7
  simp only [List.getElem?_toArray, List.getElem?_cons_zero, List.getElem?_cons_succ] at r0 r1 r2 r3 r4 r5 r6 r7
  have HROWQ := Lib.hid (HV7.out.mod HN711.out (fun k hk h e => by have := h.2; omega))
  have HROWR := Lib.hid hv11.row
  have hplq : IsPl (fun _ => True) w11 (.agg #[.int .i64 deal, .slice p1 nd c1, .slice p2 nl c2, .string ⟨Z.toArray⟩, .int .i64 start, .int .i64 eps, .int .i64 wait, .slice (some ⟨gq, 0, none⟩) nd c7q]) ⟨deal, ps, ls, Z, start, eps, wait, dl.set at0 (y + 1)⟩ := ⟨p1, c1, p2, c2, (some ⟨gq, 0, none⟩), c7q, by simp only [HNP.out, HNL.out, List.length_set, HND.out], by simp only [HNP.out]; exact (HPS.out.modNil HM11.out).mono (fun _ _ _ => trivial), by simp only [HNL.out]; exact (HLS.out.modNil HM11.out).mono (fun _ _ _ => trivial), by simp only [List.length_set, HND.out]; exact HROWQ.out.mono (fun _ _ _ => trivial)⟩
  have hplr : IsPl (fun _ => True) w11 (.agg #[.int .i64 deal, .slice (some ⟨gr, 0, none⟩) nd c1r, .slice p2 nl c2, .string ⟨Z.toArray⟩, .int .i64 start, .int .i64 eps, .int .i64 wait, .slice p7 nd c7]) ⟨deal, ps.set at0 x1, ls, Z, start, eps, wait, dl⟩ := ⟨(some ⟨gr, 0, none⟩), c1r, p2, c2, p7, c7, by simp only [HNP.out, HNL.out, List.length_set, HND.out], by simp only [List.length_set, HNP.out]; exact HROWR.out.mono (fun _ _ _ => trivial), by simp only [HNL.out]; exact (HLS.out.modNil HM11.out).mono (fun _ _ _ => trivial), by simp only [HND.out]; exact (HDL.out.modNil HM11.out).mono (fun _ _ _ => trivial)⟩
  have hfp := HFEW.out.few
  have hz : Z.length ≤ 1000000000 := by have h : Z.length ≤ 1000 := HFEW.out.2.2; omega
  have hfq : Pl.few ⟨deal, ps, ls, Z, start, eps, wait, dl.set at0 (y + 1)⟩ := ⟨hfp.1, hfp.2.1, by simp only [List.length_set]; exact hfp.2.2.1, hfp.2.2.2⟩
  have hfr : Pl.few ⟨deal, ps.set at0 x1, ls, Z, start, eps, wait, dl⟩ := ⟨by simp only [List.length_set]; exact hfp.1, hfp.2.1, hfp.2.2.1, hfp.2.2.2⟩
  have hdlne : dl.set at0 (y + 1) ≠ dl := fun e => by
    have h := congrArg (fun l => l.getD at0 0) e
    rw [HY.out] at h
    simp [HND.out, hlt0] at h
    omega
  have hnodr : ¬ (ps.set at0 x1).Nodup := by
    rw [← HX1.out]
    exact set_twice (by rw [HNP.out]; exact hlt0) (by rw [HNP.out]; exact hlt1) hne01
  have hcq : checkN ⟨deal, ps, ls, Z, start, eps, wait, dl.set at0 (y + 1)⟩ 16 4 4 = 16 := checkN_dl (P := ⟨deal, ps, ls, Z, start, eps, wait, dl⟩) HMAKE.out rfl hdlne
  have hcr : checkN ⟨deal, ps.set at0 x1, ls, Z, start, eps, wait, dl⟩ 16 4 4 = 16 := checkN_ps hnodr
  have HCQ : Hid (∀ W, Mod nil w11 W → Calls Try.prog 16 #[.agg #[.int .i64 deal, .slice p1 nd c1, .slice p2 nl c2, .string ⟨Z.toArray⟩, .int .i64 start, .int .i64 eps, .int .i64 wait, .slice (some ⟨gq, 0, none⟩) nd c7q], .int .i64 16, .int .i64 4, .int .i64 4] W fun e w' => e = .returned (.int .i64 16) ∧ Mod nil w11 w') := Lib.hid (fun W m => by
    have h := planCheck _ _ _ 16 4 4 W (hplq.modNil m) hfq hz
    rw [hcq] at h
    exact h.mono (fun e w' ⟨a, b⟩ => ⟨a, m.thenNil b⟩))
  have HCR : Hid (∀ W, Mod nil w11 W → Calls Try.prog 16 #[.agg #[.int .i64 deal, .slice (some ⟨gr, 0, none⟩) nd c1r, .slice p2 nl c2, .string ⟨Z.toArray⟩, .int .i64 start, .int .i64 eps, .int .i64 wait, .slice p7 nd c7], .int .i64 16, .int .i64 4, .int .i64 4] W fun e w' => e = .returned (.int .i64 16) ∧ Mod nil w11 w') := Lib.hid (fun W m => by
    have h := planCheck _ _ _ 16 4 4 W (hplr.modNil m) hfr hz
    rw [hcr] at h
    exact h.mono (fun e w' ⟨a, b⟩ => ⟨a, m.thenNil b⟩))
  have HSQ : Hid (∀ W, Mod nil w11 W → Calls Try.prog 11 #[.agg #[.int .i64 deal, .slice p1 nd c1, .slice p2 nl c2, .string ⟨Z.toArray⟩, .int .i64 start, .int .i64 eps, .int .i64 wait, .slice p7 nd c7], .agg #[.int .i64 deal, .slice p1 nd c1, .slice p2 nl c2, .string ⟨Z.toArray⟩, .int .i64 start, .int .i64 eps, .int .i64 wait, .slice (some ⟨gq, 0, none⟩) nd c7q]] W fun e w' => e = .returned (.bool false) ∧ Mod nil w11 w') := Lib.hid (fun W m => by
    have h := planSame _ _ _ _ _ _ W (HPL.out.modNil (HM11.out.thenNil m)) (hplq.modNil m) hfp
    rw [decide_eq_false (fun e => hdlne (congrArg Pl.dl e).symm)] at h
    exact h.mono (fun e w' ⟨a, b⟩ => ⟨a, m.thenNil b⟩))
  have HSR : Hid (∀ W, Mod nil w11 W → Calls Try.prog 11 #[.agg #[.int .i64 deal, .slice p1 nd c1, .slice p2 nl c2, .string ⟨Z.toArray⟩, .int .i64 start, .int .i64 eps, .int .i64 wait, .slice p7 nd c7], .agg #[.int .i64 deal, .slice (some ⟨gr, 0, none⟩) nd c1r, .slice p2 nl c2, .string ⟨Z.toArray⟩, .int .i64 start, .int .i64 eps, .int .i64 wait, .slice p7 nd c7]] W fun e w' => e = .returned (.bool false) ∧ Mod nil w11 w') := Lib.hid (fun W m => by
    have h := planSame _ _ _ _ _ _ W (HPL.out.modNil (HM11.out.thenNil m)) (hplr.modNil m) hfp
    rw [decide_eq_false (fun e => hnodr (by have h := congrArg Pl.ps e; simp only at h; rw [← h]; exact HNOD.out))] at h
    exact h.mono (fun e w' ⟨a, b⟩ => ⟨a, m.thenNil b⟩))
  have hix0 : indexN x0 ps = at0 := by rw [← HX0.out]; exact nodup_index HNOD.out (by rw [HNP.out]; exact hlt0)
  have HPLC : Hid (∀ W, Mod nil w11 W → Calls Try.prog 18 #[.agg #[.int .i64 deal, .slice p1 nd c1, .slice p2 nl c2, .string ⟨Z.toArray⟩, .int .i64 start, .int .i64 eps, .int .i64 wait, .slice p7 nd c7], .int .i64 x0] W fun e w' => e = .returned (.tuple #[.int .i64 at0, .bool true]) ∧ Mod nil w11 w') := Lib.hid (fun W m => by
    have h := planPlace _ _ _ x0 W (HPL.out.modNil (HM11.out.thenNil m)) hfp
    simp only at h
    rw [hix0, if_pos (by omega), decide_eq_true (by omega)] at h
    exact h.mono (fun e w' ⟨a, b⟩ => ⟨a, m.thenNil b⟩))
  obtain ⟨xn, hxn⟩ : ∃ x, 16 + nx % 16 = x := ⟨_, rfl⟩
  have hand : bits .and .i64 nx 15 = nx % 16 := and15 nx
  have hwn : IntKind.i64.wrap (16 + nx % 16) = xn := by rw [hxn, IntKind.wrap_i64]; omega
  have hixn : indexN xn ps = -1 := indexN_none xn ps (fun z hz => by have := HRNG.out z hz; omega)
  have HPLN : Hid (∀ W, Mod nil w11 W → Calls Try.prog 18 #[.agg #[.int .i64 deal, .slice p1 nd c1, .slice p2 nl c2, .string ⟨Z.toArray⟩, .int .i64 start, .int .i64 eps, .int .i64 wait, .slice p7 nd c7], .int .i64 xn] W fun e w' => e = .returned (.tuple #[.int .i64 0, .bool false]) ∧ Mod nil w11 w') := Lib.hid (fun W m => by
    have h := planPlace _ _ _ xn W (HPL.out.modNil (HM11.out.thenNil m)) hfp
    simp only at h
    rw [hixn, if_neg (by omega), decide_eq_false (by omega)] at h
    exact h.mono (fun e w' ⟨a, b⟩ => ⟨a, m.thenNil b⟩))
  have hc1 : checkN ⟨deal, ps, ls, Z, start, eps, wait, dl⟩ x0 4 4 = 1 := by
    unfold checkN
    simp only
    rw [HMAKE.out, if_pos rfl, if_pos]
    rw [List.any_eq_true]
    exact ⟨x0, by rw [← HX0.out]; simp [HNP.out, hlt0], decide_eq_true (Int.le_refl _)⟩
  have HCX : Hid (∀ W, Mod nil w11 W → Calls Try.prog 16 #[.agg #[.int .i64 deal, .slice p1 nd c1, .slice p2 nl c2, .string ⟨Z.toArray⟩, .int .i64 start, .int .i64 eps, .int .i64 wait, .slice p7 nd c7], .int .i64 x0, .int .i64 4, .int .i64 4] W fun e w' => e = .returned (.int .i64 1) ∧ Mod nil w11 w') := Lib.hid (fun W m => by
    have h := planCheck _ _ _ x0 4 4 W (HPL.out.modNil (HM11.out.thenNil m)) hfp hz
    rw [hc1] at h
    exact h.mono (fun e w' ⟨a, b⟩ => ⟨a, m.thenNil b⟩))
  obtain ⟨gp, op, hpp, hcellp⟩ : ∃ g o, p1 = some ⟨g, o, none⟩ ∧ ∀ j, j < nd → w11.cell? ⟨g, o + j, none⟩ = some (.int .i64 (ps.getD j 0)) := by
    obtain ⟨p', c', he, hcc⟩ := HPS.out.modNil HM11.out
    simp only [Value.slice.injEq] at he
    obtain ⟨rfl, -, -⟩ := he
    obtain ⟨g, o, rfl, -, -, -⟩ := hcc 0 (by rw [List.length_map, HNP.out]; omega)
    refine ⟨g, o, rfl, fun j hj => ?_⟩
    obtain ⟨g', o', h1, -, -, h4⟩ := hcc j (by rw [List.length_map, HNP.out]; exact hj)
    simp only [Option.some.injEq, Addr.mk.injEq, and_true] at h1
    obtain ⟨rfl, rfl⟩ := h1
    rw [h4]; simp [HNP.out, hj]
  subst hpp
  have HCELLP := Lib.hid hcellp
  have x00 := hcellp at0 hlt0
  rw [HX0.out] at x00
  clear hcellp hplq hplr hfp hfq hfr hz hdlne hnodr hcq hcr hix0 hixn hxn hc1 hbq hb11 hv11 m11 HSET HB10 HB7 HV7 HROWQ HROWR
  have M0 : Mod nil w11 w11 := Mod.refl _ _
  have HKEEP : Hid (∀ W, Mod nil w11 W → W.cell? ⟨r, 0, none⟩ = some (.int .i64 deal) ∧ W.cell? ⟨r, 1, none⟩ = some (.slice (some ⟨gp, op, none⟩) nd c1) ∧ W.cell? ⟨r, 2, none⟩ = some (.slice p2 nl c2) ∧ W.cell? ⟨r, 3, none⟩ = some (.string ⟨Z.toArray⟩) ∧ W.cell? ⟨r, 4, none⟩ = some (.int .i64 start) ∧ W.cell? ⟨r, 5, none⟩ = some (.int .i64 eps) ∧ W.cell? ⟨r, 6, none⟩ = some (.int .i64 wait) ∧ W.cell? ⟨r, 7, none⟩ = some (.slice p7 nd c7) ∧ W.cell? ⟨rq, 0, none⟩ = some (.int .i64 deal) ∧ W.cell? ⟨rq, 1, none⟩ = some (.slice (some ⟨gp, op, none⟩) nd c1) ∧ W.cell? ⟨rq, 2, none⟩ = some (.slice p2 nl c2) ∧ W.cell? ⟨rq, 3, none⟩ = some (.string ⟨Z.toArray⟩) ∧ W.cell? ⟨rq, 4, none⟩ = some (.int .i64 start) ∧ W.cell? ⟨rq, 5, none⟩ = some (.int .i64 eps) ∧ W.cell? ⟨rq, 6, none⟩ = some (.int .i64 wait) ∧ W.cell? ⟨rq, 7, none⟩ = some (.slice (some ⟨gq, 0, none⟩) nd c7q) ∧ W.cell? ⟨rr, 0, none⟩ = some (.int .i64 deal) ∧ W.cell? ⟨rr, 1, none⟩ = some (.slice (some ⟨gr, 0, none⟩) nd c1r) ∧ W.cell? ⟨rr, 2, none⟩ = some (.slice p2 nl c2) ∧ W.cell? ⟨rr, 3, none⟩ = some (.string ⟨Z.toArray⟩) ∧ W.cell? ⟨rr, 4, none⟩ = some (.int .i64 start) ∧ W.cell? ⟨rr, 5, none⟩ = some (.int .i64 eps) ∧ W.cell? ⟨rr, 6, none⟩ = some (.int .i64 wait) ∧ W.cell? ⟨rr, 7, none⟩ = some (.slice p7 nd c7) ∧ W.cell? ⟨gp, op + at0, none⟩ = some (.int .i64 x0)) := Lib.hid (fun W m => ⟨cell_kept a0 m (World.block_lt_of_cell? _ _ a0) (not_nil _), cell_kept a1 m (World.block_lt_of_cell? _ _ a1) (not_nil _), cell_kept a2 m (World.block_lt_of_cell? _ _ a2) (not_nil _), cell_kept a3 m (World.block_lt_of_cell? _ _ a3) (not_nil _), cell_kept a4 m (World.block_lt_of_cell? _ _ a4) (not_nil _), cell_kept a5 m (World.block_lt_of_cell? _ _ a5) (not_nil _), cell_kept a6 m (World.block_lt_of_cell? _ _ a6) (not_nil _), cell_kept a7 m (World.block_lt_of_cell? _ _ a7) (not_nil _), cell_kept q0 m (World.block_lt_of_cell? _ _ q0) (not_nil _), cell_kept q1 m (World.block_lt_of_cell? _ _ q1) (not_nil _), cell_kept q2 m (World.block_lt_of_cell? _ _ q2) (not_nil _), cell_kept q3 m (World.block_lt_of_cell? _ _ q3) (not_nil _), cell_kept q4 m (World.block_lt_of_cell? _ _ q4) (not_nil _), cell_kept q5 m (World.block_lt_of_cell? _ _ q5) (not_nil _), cell_kept q6 m (World.block_lt_of_cell? _ _ q6) (not_nil _), cell_kept q7 m (World.block_lt_of_cell? _ _ q7) (not_nil _), cell_kept r0 m (World.block_lt_of_cell? _ _ r0) (not_nil _), cell_kept r1 m (World.block_lt_of_cell? _ _ r1) (not_nil _), cell_kept r2 m (World.block_lt_of_cell? _ _ r2) (not_nil _), cell_kept r3 m (World.block_lt_of_cell? _ _ r3) (not_nil _), cell_kept r4 m (World.block_lt_of_cell? _ _ r4) (not_nil _), cell_kept r5 m (World.block_lt_of_cell? _ _ r5) (not_nil _), cell_kept r6 m (World.block_lt_of_cell? _ _ r6) (not_nil _), cell_kept r7 m (World.block_lt_of_cell? _ _ r7) (not_nil _), cell_kept x00 m (World.block_lt_of_cell? _ _ x00) (not_nil _)⟩)
  go_wp2_with fail
  refine (HCQ.out w11 M0).mono ?_
  rintro e w12 ⟨rfl, m12⟩
  clear a0 a1 a2 a3 a4 a5 a6 a7 q0 q1 q2 q3 q4 q5 q6 q7 r0 r1 r2 r3 r4 r5 r6 r7 x00
  obtain ⟨a0, a1, a2, a3, a4, a5, a6, a7, q0, q1, q2, q3, q4, q5, q6, q7, r0, r1, r2, r3, r4, r5, r6, r7, x00⟩ := HKEEP.out w12 m12
  go_wp2_with fail
  refine (HCR.out w12 m12).mono ?_
  rintro e w13 ⟨rfl, m13⟩
  clear a0 a1 a2 a3 a4 a5 a6 a7 q0 q1 q2 q3 q4 q5 q6 q7 r0 r1 r2 r3 r4 r5 r6 r7 x00
  obtain ⟨a0, a1, a2, a3, a4, a5, a6, a7, q0, q1, q2, q3, q4, q5, q6, q7, r0, r1, r2, r3, r4, r5, r6, r7, x00⟩ := HKEEP.out w13 m13
  go_wp2_with fail
  refine (HSQ.out w13 m13).mono ?_
  rintro e w14 ⟨rfl, m14⟩
  clear a0 a1 a2 a3 a4 a5 a6 a7 q0 q1 q2 q3 q4 q5 q6 q7 r0 r1 r2 r3 r4 r5 r6 r7 x00
  obtain ⟨a0, a1, a2, a3, a4, a5, a6, a7, q0, q1, q2, q3, q4, q5, q6, q7, r0, r1, r2, r3, r4, r5, r6, r7, x00⟩ := HKEEP.out w14 m14
  go_wp2_with fail
  refine (HSR.out w14 m14).mono ?_
  rintro e w15 ⟨rfl, m15⟩
  clear a0 a1 a2 a3 a4 a5 a6 a7 q0 q1 q2 q3 q4 q5 q6 q7 r0 r1 r2 r3 r4 r5 r6 r7 x00
  obtain ⟨a0, a1, a2, a3, a4, a5, a6, a7, q0, q1, q2, q3, q4, q5, q6, q7, r0, r1, r2, r3, r4, r5, r6, r7, x00⟩ := HKEEP.out w15 m15
  go_upto_region 17 with (fail)
  refine wp_region_held_drew (S := (fun w' => w'.cell? ⟨r, 0, none⟩ = some (.int .i64 deal) ∧ w'.cell? ⟨r, 1, none⟩ = some (.slice (some ⟨gp, op, none⟩) nd c1) ∧ w'.cell? ⟨r, 2, none⟩ = some (.slice p2 nl c2) ∧ w'.cell? ⟨r, 3, none⟩ = some (.string ⟨Z.toArray⟩) ∧ w'.cell? ⟨r, 4, none⟩ = some (.int .i64 start) ∧ w'.cell? ⟨r, 5, none⟩ = some (.int .i64 eps) ∧ w'.cell? ⟨r, 6, none⟩ = some (.int .i64 wait) ∧ w'.cell? ⟨r, 7, none⟩ = some (.slice p7 nd c7) ∧ w'.cell? ⟨gp, op + at0, none⟩ = some (.int .i64 x0))) (by kernel_rfl) (⟨a0, a1, a2, a3, a4, a5, a6, a7, x00⟩) (fun hHeld => ?_)
  refine wpAnyH_take (i := 0) (v := ?_) rfl (by kernel_rfl) (by kernel_rfl) (by kernel_rfl) (fun _ _ _ h => h) (Or.inl ⟨by kernel_rfl, ?_⟩) (by assumption) ?_
  rotate_left
  · intro w hSw; (try dsimp only at hSw); (first | (go_simp; done) | (go_simp; with_reducible rfl))
  (try simp only [Act.put, List.getElem_toArray, List.getElem_cons_succ, List.getElem_cons_zero, List.setIfInBounds_toArray, List.set_cons_succ, List.set_cons_zero])
  refine wpAnyH_take (i := 1) (v := ?_) rfl (by kernel_rfl) (by kernel_rfl) (by kernel_rfl) (fun _ _ _ h => h) (Or.inl ⟨by kernel_rfl, ?_⟩) (by assumption) ?_
  rotate_left
  · intro w hSw; (try dsimp only at hSw); (first | (go_simp; done) | (go_simp; with_reducible rfl))
  (try simp only [Act.put, List.getElem_toArray, List.getElem_cons_succ, List.getElem_cons_zero, List.setIfInBounds_toArray, List.set_cons_succ, List.set_cons_zero])
  refine wpAnyH_take (i := 2) (v := ?_) rfl (by kernel_rfl) (by kernel_rfl) (by kernel_rfl) (fun _ _ _ h => h) (Or.inl ⟨by kernel_rfl, ?_⟩) (by assumption) ?_
  rotate_left
  · intro w hSw; (try dsimp only at hSw); (first | (go_simp; done) | (go_simp; with_reducible rfl))
  (try simp only [Act.put, List.getElem_toArray, List.getElem_cons_succ, List.getElem_cons_zero, List.setIfInBounds_toArray, List.set_cons_succ, List.set_cons_zero])
  refine wpAnyH_take (i := 3) (v := ?_) rfl (by kernel_rfl) (by kernel_rfl) (by kernel_rfl) (fun _ _ _ h => h) (Or.inl ⟨by kernel_rfl, ?_⟩) (by assumption) ?_
  rotate_left
  · intro w hSw; (try dsimp only at hSw); (first | (go_simp; done) | (go_simp; with_reducible rfl))
  (try simp only [Act.put, List.getElem_toArray, List.getElem_cons_succ, List.getElem_cons_zero, List.setIfInBounds_toArray, List.set_cons_succ, List.set_cons_zero])
  refine wpAnyH_take (i := 4) (v := ?_) rfl (by kernel_rfl) (by kernel_rfl) (by kernel_rfl) (fun _ _ _ h => h) (Or.inl ⟨by kernel_rfl, ?_⟩) (by assumption) ?_
  rotate_left
  · intro w hSw; (try dsimp only at hSw); (first | (go_simp; done) | (go_simp; with_reducible rfl))
  (try simp only [Act.put, List.getElem_toArray, List.getElem_cons_succ, List.getElem_cons_zero, List.setIfInBounds_toArray, List.set_cons_succ, List.set_cons_zero])
  refine wpAnyH_take (i := 5) (v := ?_) rfl (by kernel_rfl) (by kernel_rfl) (by kernel_rfl) (fun _ _ _ h => h) (Or.inl ⟨by kernel_rfl, ?_⟩) (by assumption) ?_
  rotate_left
  · intro w hSw; (try dsimp only at hSw); (first | (go_simp; done) | (go_simp; with_reducible rfl))
  (try simp only [Act.put, List.getElem_toArray, List.getElem_cons_succ, List.getElem_cons_zero, List.setIfInBounds_toArray, List.set_cons_succ, List.set_cons_zero])
  refine wpAnyH_ready (rs := [6]) (by kernel_rfl) (by simp) ?_
  refine AllReadyH.cons (i := 6) rfl (fun K hK => ?_) AllReadyH.nil
  (try dsimp (config := { proj := false }) only [List.getElem_toArray, List.getElem_cons_succ, List.getElem_cons_zero])
  go_simp
  refine (HPLC.out _ ?_).mono ?_
  · (repeat (first | exact m15 | refine Mod.drew ?_))
  rintro e w16 ⟨rfl, m16⟩
  clear a0 a1 a2 a3 a4 a5 a6 a7 q0 q1 q2 q3 q4 q5 q6 q7 r0 r1 r2 r3 r4 r5 r6 r7 x00
  obtain ⟨a0, a1, a2, a3, a4, a5, a6, a7, q0, q1, q2, q3, q4, q5, q6, q7, r0, r1, r2, r3, r4, r5, r6, r7, x00⟩ := HKEEP.out w16 m16
  refine hK.out _ _ ⟨a0, a1, a2, a3, a4, a5, a6, a7, x00⟩ (fun hHeld => ?_)
  clear hK K
  (try simp only [Act.put, List.setIfInBounds_toArray, List.set_cons_zero, List.set_cons_succ])
  (try simp only [List.set_cons_succ, List.set_cons_zero])
  refine wpAnyH_take (i := 7) (v := ?_) rfl (by kernel_rfl) (by kernel_rfl) (by kernel_rfl) (fun _ _ _ h => h) (Or.inl ⟨by kernel_rfl, ?_⟩) (by assumption) ?_
  rotate_left
  · intro w hSw; (try dsimp only at hSw); (first | (go_simp; done) | (go_simp; with_reducible rfl))
  (try simp only [Act.put, List.getElem_toArray, List.getElem_cons_succ, List.getElem_cons_zero, List.setIfInBounds_toArray, List.set_cons_succ, List.set_cons_zero])
  refine wpAnyH_take (i := 8) (v := ?_) rfl (by kernel_rfl) (by kernel_rfl) (by kernel_rfl) (fun _ _ _ h => h) (Or.inl ⟨by kernel_rfl, ?_⟩) (by assumption) ?_
  rotate_left
  · intro w hSw; (try dsimp only at hSw); (first | (go_simp; done) | (go_simp; with_reducible rfl))
  (try simp only [Act.put, List.getElem_toArray, List.getElem_cons_succ, List.getElem_cons_zero, List.setIfInBounds_toArray, List.set_cons_succ, List.set_cons_zero])
  refine wpAnyH_take (i := 9) (v := ?_) rfl (by kernel_rfl) (by kernel_rfl) (by kernel_rfl) (fun _ _ _ h => h) (Or.inl ⟨by kernel_rfl, ?_⟩) (by assumption) ?_
  rotate_left
  · intro w hSw; (try dsimp only at hSw); (first | (go_simp; done) | (go_simp; with_reducible rfl))
  (try simp only [Act.put, List.getElem_toArray, List.getElem_cons_succ, List.getElem_cons_zero, List.setIfInBounds_toArray, List.set_cons_succ, List.set_cons_zero])
  refine wpAnyH_take (i := 10) (v := ?_) rfl (by kernel_rfl) (by kernel_rfl) (by kernel_rfl) (fun _ _ _ h => h) (Or.inl ⟨by kernel_rfl, ?_⟩) (by assumption) ?_
  rotate_left
  · intro w hSw; (try dsimp only at hSw); (first | (go_simp; done) | (go_simp; with_reducible rfl))
  (try simp only [Act.put, List.getElem_toArray, List.getElem_cons_succ, List.getElem_cons_zero, List.setIfInBounds_toArray, List.set_cons_succ, List.set_cons_zero])
  refine wpAnyH_take (i := 11) (v := ?_) rfl (by kernel_rfl) (by kernel_rfl) (by kernel_rfl) (fun _ _ _ h => h) (Or.inl ⟨by kernel_rfl, ?_⟩) (by assumption) ?_
  rotate_left
  · intro w hSw; (try dsimp only at hSw); (first | (go_simp; done) | (go_simp; with_reducible rfl))
  (try simp only [Act.put, List.getElem_toArray, List.getElem_cons_succ, List.getElem_cons_zero, List.setIfInBounds_toArray, List.set_cons_succ, List.set_cons_zero])
  refine wpAnyH_done (by kernel_rfl) ?_ _
  obtain ⟨w17, hw17⟩ : ∃ W, w16.drew = W := ⟨_, rfl⟩
  (try rw [hw17])
  have m17 : Mod nil w11 w17 := by rw [← hw17]; exact m16.drew
  clear hw17
  clear a0 a1 a2 a3 a4 a5 a6 a7 q0 q1 q2 q3 q4 q5 q6 q7 r0 r1 r2 r3 r4 r5 r6 r7 x00
  obtain ⟨a0, a1, a2, a3, a4, a5, a6, a7, q0, q1, q2, q3, q4, q5, q6, q7, r0, r1, r2, r3, r4, r5, r6, r7, x00⟩ := HKEEP.out w17 m17
  go_wp2_with fail
  refine (HPLN.out _ ?_).mono ?_
  · (repeat (first | exact m16 | refine Mod.drew ?_))
  rintro e w18 ⟨rfl, m18⟩
  clear a0 a1 a2 a3 a4 a5 a6 a7 q0 q1 q2 q3 q4 q5 q6 q7 r0 r1 r2 r3 r4 r5 r6 r7 x00
  obtain ⟨a0, a1, a2, a3, a4, a5, a6, a7, q0, q1, q2, q3, q4, q5, q6, q7, r0, r1, r2, r3, r4, r5, r6, r7, x00⟩ := HKEEP.out w18 m18
  clear hand hwn
  have HPSL : Hid (∀ j, j < nd → ∃ x, ps.getD j 0 = x ∧ ps.take (j + 1) = ps.take j ++ [x]) := Lib.hid (fun j hj => ⟨_, rfl, by
    rw [List.take_succ_eq_append_getElem (by rw [HNP.out]; exact hj)]; simp [HNP.out, hj]⟩)
  go_wp2_with fail
  go_loopw [15, 16] (fun v15 v16 wr => ∃ j : Nat, j ≤ nd ∧ v15 = .bool (lowTo ps x0 j) ∧ v16 = .int .i64 j ∧ Hid (Mod nil w11 wr)) (fun _ v _ => nd - (intOf v).toNat)
  case atStart => exact ⟨0, by omega, by simp [lowTo], rfl, Lib.hid m18⟩
  case round =>
    obtain ⟨j, hj, rfl, rfl, HMR⟩ := hrel
    clear a0 a1 a2 a3 a4 a5 a6 a7 q0 q1 q2 q3 q4 q5 q6 q7 r0 r1 r2 r3 r4 r5 r6 r7 x00
    obtain ⟨a0, a1, a2, a3, a4, a5, a6, a7, q0, q1, q2, q3, q4, q5, q6, q7, r0, r1, r2, r3, r4, r5, r6, r7, x00⟩ := HKEEP.out wr HMR.out
    by_cases hlt : j < nd
    · have xj := HCELLP.out j hlt
      obtain ⟨xv, hxv, htk⟩ := HPSL.out j hlt
      rw [hxv] at xj
      have xj := cell_kept xj HMR.out (World.block_lt_of_cell? _ _ xj) (not_nil _)
      have hlow : lowTo ps x0 (j + 1) = (lowTo ps x0 j || decide (x0 ≤ xv)) := by
        unfold lowTo
        rw [htk, List.any_append]
        simp
      clear hxv htk
      obtain ⟨lb, hlb⟩ : ∃ b, lowTo ps x0 j = b := ⟨_, rfl⟩
      rw [hlb] at hlow ⊢
      have HLOW := Lib.hid hlow
      clear hlow hlb
      cases lb
      · go_upto_region 23 with (fail)
        go_quiet (fail)
        go_wp2_with fail
        exact ⟨⟨j + 1, by omega, by rw [HLOW.out]; simp, by go_num, Lib.hid (HMR.out.drewN _)⟩, by simp [intOf]; omega⟩
      · go_upto_region 23 with (fail)
        go_quiet (fail)
        go_wp2_with fail
        exact ⟨⟨j + 1, by omega, by rw [HLOW.out]; simp, by go_num, Lib.hid (HMR.out.drewN _)⟩, by simp [intOf]; omega⟩
    · obtain rfl : nd = j := by omega
      have hlow : lowTo ps x0 nd = true := by
        unfold lowTo
        rw [List.take_of_length_le (by rw [HNP.out]; exact Nat.le_refl _), List.any_eq_true]
        exact ⟨x0, by rw [← HX0.out]; simp [HNP.out, hlt0], by simp⟩
      rw [hlow]
      clear hlow
      go_upto_region 24 with (fail)
      refine wp_region_held_drew (S := (fun w' => w'.cell? ⟨r, 0, none⟩ = some (.int .i64 deal) ∧ w'.cell? ⟨r, 1, none⟩ = some (.slice (some ⟨gp, op, none⟩) nd c1) ∧ w'.cell? ⟨r, 2, none⟩ = some (.slice p2 nl c2) ∧ w'.cell? ⟨r, 3, none⟩ = some (.string ⟨Z.toArray⟩) ∧ w'.cell? ⟨r, 4, none⟩ = some (.int .i64 start) ∧ w'.cell? ⟨r, 5, none⟩ = some (.int .i64 eps) ∧ w'.cell? ⟨r, 6, none⟩ = some (.int .i64 wait) ∧ w'.cell? ⟨r, 7, none⟩ = some (.slice p7 nd c7) ∧ w'.cell? ⟨gp, op + at0, none⟩ = some (.int .i64 x0))) (by kernel_rfl) (⟨a0, a1, a2, a3, a4, a5, a6, a7, x00⟩) (fun hHeld => ?_)
      refine wpAnyH_ready (rs := [0]) (by kernel_rfl) (by simp) ?_
      refine AllReadyH.cons (i := 0) rfl (fun K hK => ?_) AllReadyH.nil
      (try dsimp (config := { proj := false }) only [List.getElem_toArray, List.getElem_cons_succ, List.getElem_cons_zero])
      go_simp
      refine (planFirst _).mono ?_
      rintro e w' ⟨rfl, rfl⟩
      refine hK.out _ _ ⟨a0, a1, a2, a3, a4, a5, a6, a7, x00⟩ (fun hHeld => ?_)
      clear hK K
      (try simp only [Act.put, List.setIfInBounds_toArray, List.set_cons_zero, List.set_cons_succ])
      (try simp only [List.set_cons_succ, List.set_cons_zero])
      refine wpAnyH_take (i := 1) (v := ?_) rfl (by kernel_rfl) (by kernel_rfl) (by kernel_rfl) (fun _ _ _ h => h) (Or.inl ⟨by kernel_rfl, ?_⟩) (by assumption) ?_
      rotate_left
      · intro w hSw; (try dsimp only at hSw); (first | (go_simp; done) | (go_simp; with_reducible rfl))
      (try simp only [Act.put, List.getElem_toArray, List.getElem_cons_succ, List.getElem_cons_zero, List.setIfInBounds_toArray, List.set_cons_succ, List.set_cons_zero])
      refine wpAnyH_take (i := 2) (v := ?_) rfl (by kernel_rfl) (by kernel_rfl) (by kernel_rfl) (fun _ _ _ h => h) (Or.inl ⟨by kernel_rfl, ?_⟩) (by assumption) ?_
      rotate_left
      · intro w hSw; (try dsimp only at hSw); (first | (go_simp; done) | (go_simp; with_reducible rfl))
      (try simp only [Act.put, List.getElem_toArray, List.getElem_cons_succ, List.getElem_cons_zero, List.setIfInBounds_toArray, List.set_cons_succ, List.set_cons_zero])
      refine wpAnyH_take (i := 3) (v := ?_) rfl (by kernel_rfl) (by kernel_rfl) (by kernel_rfl) (fun _ _ _ h => h) (Or.inl ⟨by kernel_rfl, ?_⟩) (by assumption) ?_
      rotate_left
      · intro w hSw; (try dsimp only at hSw); (first | (go_simp; done) | (go_simp; with_reducible rfl))
      (try simp only [Act.put, List.getElem_toArray, List.getElem_cons_succ, List.getElem_cons_zero, List.setIfInBounds_toArray, List.set_cons_succ, List.set_cons_zero])
      refine wpAnyH_take (i := 4) (v := ?_) rfl (by kernel_rfl) (by kernel_rfl) (by kernel_rfl) (fun _ _ _ h => h) (Or.inl ⟨by kernel_rfl, ?_⟩) (by assumption) ?_
      rotate_left
      · intro w hSw; (try dsimp only at hSw); (first | (go_simp; done) | (go_simp; with_reducible rfl))
      (try simp only [Act.put, List.getElem_toArray, List.getElem_cons_succ, List.getElem_cons_zero, List.setIfInBounds_toArray, List.set_cons_succ, List.set_cons_zero])
      refine wpAnyH_take (i := 5) (v := ?_) rfl (by kernel_rfl) (by kernel_rfl) (by kernel_rfl) (fun _ _ _ h => h) (Or.inl ⟨by kernel_rfl, ?_⟩) (by assumption) ?_
      rotate_left
      · intro w hSw; (try dsimp only at hSw); (first | (go_simp; done) | (go_simp; with_reducible rfl))
      (try simp only [Act.put, List.getElem_toArray, List.getElem_cons_succ, List.getElem_cons_zero, List.setIfInBounds_toArray, List.set_cons_succ, List.set_cons_zero])
      refine wpAnyH_take (i := 6) (v := ?_) rfl (by kernel_rfl) (by kernel_rfl) (by kernel_rfl) (fun _ _ _ h => h) (Or.inl ⟨by kernel_rfl, ?_⟩) (by assumption) ?_
      rotate_left
      · intro w hSw; (try dsimp only at hSw); (first | (go_simp; done) | (go_simp; with_reducible rfl))
      (try simp only [Act.put, List.getElem_toArray, List.getElem_cons_succ, List.getElem_cons_zero, List.setIfInBounds_toArray, List.set_cons_succ, List.set_cons_zero])
      refine wpAnyH_take (i := 7) (v := ?_) rfl (by kernel_rfl) (by kernel_rfl) (by kernel_rfl) (fun _ _ _ h => h) (Or.inl ⟨by kernel_rfl, ?_⟩) (by assumption) ?_
      rotate_left
      · intro w hSw; (try dsimp only at hSw); (first | (go_simp; done) | (go_simp; with_reducible rfl))
      (try simp only [Act.put, List.getElem_toArray, List.getElem_cons_succ, List.getElem_cons_zero, List.setIfInBounds_toArray, List.set_cons_succ, List.set_cons_zero])
      refine wpAnyH_take (i := 8) (v := ?_) rfl (by kernel_rfl) (by kernel_rfl) (by kernel_rfl) (fun _ _ _ h => h) (Or.inl ⟨by kernel_rfl, ?_⟩) (by assumption) ?_
      rotate_left
      · intro w hSw; (try dsimp only at hSw); (first | (go_simp; done) | (go_simp; with_reducible rfl))
      (try simp only [Act.put, List.getElem_toArray, List.getElem_cons_succ, List.getElem_cons_zero, List.setIfInBounds_toArray, List.set_cons_succ, List.set_cons_zero])
      refine wpAnyH_take (i := 9) (v := ?_) rfl (by kernel_rfl) (by kernel_rfl) (by kernel_rfl) (fun _ _ _ h => h) (Or.inl ⟨by kernel_rfl, ?_⟩) (by assumption) ?_
      rotate_left
      · intro w hSw; (try dsimp only at hSw); (first | (go_simp; done) | (go_simp; with_reducible rfl))
      (try simp only [Act.put, List.getElem_toArray, List.getElem_cons_succ, List.getElem_cons_zero, List.setIfInBounds_toArray, List.set_cons_succ, List.set_cons_zero])
      refine wpAnyH_take (i := 10) (v := ?_) rfl (by kernel_rfl) (by kernel_rfl) (by kernel_rfl) (fun _ _ _ h => h) (Or.inl ⟨by kernel_rfl, ?_⟩) (by assumption) ?_
      rotate_left
      · intro w hSw; (try dsimp only at hSw); (first | (go_simp; done) | (go_simp; with_reducible rfl))
      (try simp only [Act.put, List.getElem_toArray, List.getElem_cons_succ, List.getElem_cons_zero, List.setIfInBounds_toArray, List.set_cons_succ, List.set_cons_zero])
      refine wpAnyH_take (i := 11) (v := ?_) rfl (by kernel_rfl) (by kernel_rfl) (by kernel_rfl) (fun _ _ _ h => h) (Or.inl ⟨by kernel_rfl, ?_⟩) (by assumption) ?_
      rotate_left
      · intro w hSw; (try dsimp only at hSw); (first | (go_simp; done) | (go_simp; with_reducible rfl))
      (try simp only [Act.put, List.getElem_toArray, List.getElem_cons_succ, List.getElem_cons_zero, List.setIfInBounds_toArray, List.set_cons_succ, List.set_cons_zero])
      refine wpAnyH_take (i := 12) (v := ?_) rfl (by kernel_rfl) (by kernel_rfl) (by kernel_rfl) (fun _ _ _ h => h) (Or.inl ⟨by kernel_rfl, ?_⟩) (by assumption) ?_
      rotate_left
      · intro w hSw; (try dsimp only at hSw); (first | (go_simp; done) | (go_simp; with_reducible rfl))
      (try simp only [Act.put, List.getElem_toArray, List.getElem_cons_succ, List.getElem_cons_zero, List.setIfInBounds_toArray, List.set_cons_succ, List.set_cons_zero])
      refine wpAnyH_take (i := 13) (v := ?_) rfl (by kernel_rfl) (by kernel_rfl) (by kernel_rfl) (fun _ _ _ h => h) (Or.inl ⟨by kernel_rfl, ?_⟩) (by assumption) ?_
      rotate_left
      · intro w hSw; (try dsimp only at hSw); (first | (go_simp; done) | (go_simp; with_reducible rfl))
      (try simp only [Act.put, List.getElem_toArray, List.getElem_cons_succ, List.getElem_cons_zero, List.setIfInBounds_toArray, List.set_cons_succ, List.set_cons_zero])
      refine wpAnyH_take (i := 14) (v := ?_) rfl (by kernel_rfl) (by kernel_rfl) (by kernel_rfl) (fun _ _ _ h => h) (Or.inl ⟨by kernel_rfl, ?_⟩) (by assumption) ?_
      rotate_left
      · intro w hSw; (try dsimp only at hSw); (first | (go_simp; done) | (go_simp; with_reducible rfl))
      (try simp only [Act.put, List.getElem_toArray, List.getElem_cons_succ, List.getElem_cons_zero, List.setIfInBounds_toArray, List.set_cons_succ, List.set_cons_zero])
      refine wpAnyH_take (i := 15) (v := ?_) rfl (by kernel_rfl) (by kernel_rfl) (by kernel_rfl) (fun _ _ _ h => h) (Or.inl ⟨by kernel_rfl, ?_⟩) (by assumption) ?_
      rotate_left
      · intro w hSw; (try dsimp only at hSw); (first | (go_simp; done) | (go_simp; with_reducible rfl))
      (try simp only [Act.put, List.getElem_toArray, List.getElem_cons_succ, List.getElem_cons_zero, List.setIfInBounds_toArray, List.set_cons_succ, List.set_cons_zero])
      refine wpAnyH_take (i := 16) (v := ?_) rfl (by kernel_rfl) (by kernel_rfl) (by kernel_rfl) (fun _ _ _ h => h) (Or.inl ⟨by kernel_rfl, ?_⟩) (by assumption) ?_
      rotate_left
      · intro w hSw; (try dsimp only at hSw); (first | (go_simp; done) | (go_simp; with_reducible rfl))
      (try simp only [Act.put, List.getElem_toArray, List.getElem_cons_succ, List.getElem_cons_zero, List.setIfInBounds_toArray, List.set_cons_succ, List.set_cons_zero])
      refine wpAnyH_take (i := 17) (v := ?_) rfl (by kernel_rfl) (by kernel_rfl) (by kernel_rfl) (fun _ _ _ h => h) (Or.inl ⟨by kernel_rfl, ?_⟩) (by assumption) ?_
      rotate_left
      · intro w hSw; (try dsimp only at hSw); (first | (go_simp; done) | (go_simp; with_reducible rfl))
      (try simp only [Act.put, List.getElem_toArray, List.getElem_cons_succ, List.getElem_cons_zero, List.setIfInBounds_toArray, List.set_cons_succ, List.set_cons_zero])
      refine wpAnyH_take (i := 18) (v := ?_) rfl (by kernel_rfl) (by kernel_rfl) (by kernel_rfl) (fun _ _ _ h => h) (Or.inl ⟨by kernel_rfl, ?_⟩) (by assumption) ?_
      rotate_left
      · intro w hSw; (try dsimp only at hSw); (first | (go_simp; done) | (go_simp; with_reducible rfl))
      (try simp only [Act.put, List.getElem_toArray, List.getElem_cons_succ, List.getElem_cons_zero, List.setIfInBounds_toArray, List.set_cons_succ, List.set_cons_zero])
      refine wpAnyH_take (i := 19) (v := ?_) rfl (by kernel_rfl) (by kernel_rfl) (by kernel_rfl) (fun _ _ _ h => h) (Or.inl ⟨by kernel_rfl, ?_⟩) (by assumption) ?_
      rotate_left
      · intro w hSw; (try dsimp only at hSw); (first | (go_simp; done) | (go_simp; with_reducible rfl))
      (try simp only [Act.put, List.getElem_toArray, List.getElem_cons_succ, List.getElem_cons_zero, List.setIfInBounds_toArray, List.set_cons_succ, List.set_cons_zero])
      refine wpAnyH_take (i := 20) (v := ?_) rfl (by kernel_rfl) (by kernel_rfl) (by kernel_rfl) (fun _ _ _ h => h) (Or.inl ⟨by kernel_rfl, ?_⟩) (by assumption) ?_
      rotate_left
      · intro w hSw; (try dsimp only at hSw); (first | (go_simp; done) | (go_simp; with_reducible rfl))
      (try simp only [Act.put, List.getElem_toArray, List.getElem_cons_succ, List.getElem_cons_zero, List.setIfInBounds_toArray, List.set_cons_succ, List.set_cons_zero])
      refine wpAnyH_take (i := 21) (v := ?_) rfl (by kernel_rfl) (by kernel_rfl) (by kernel_rfl) (fun _ _ _ h => h) (Or.inl ⟨by kernel_rfl, ?_⟩) (by assumption) ?_
      rotate_left
      · intro w hSw; (try dsimp only at hSw); (first | (go_simp; done) | (go_simp; with_reducible rfl))
      (try simp only [Act.put, List.getElem_toArray, List.getElem_cons_succ, List.getElem_cons_zero, List.setIfInBounds_toArray, List.set_cons_succ, List.set_cons_zero])
      refine wpAnyH_take (i := 22) (v := ?_) rfl (by kernel_rfl) (by kernel_rfl) (by kernel_rfl) (fun _ _ _ h => h) (Or.inl ⟨by kernel_rfl, ?_⟩) (by assumption) ?_
      rotate_left
      · intro w hSw; (try dsimp only at hSw); (first | (go_simp; done) | (go_simp; with_reducible rfl))
      (try simp only [Act.put, List.getElem_toArray, List.getElem_cons_succ, List.getElem_cons_zero, List.setIfInBounds_toArray, List.set_cons_succ, List.set_cons_zero])
      refine wpAnyH_ready (rs := [23]) (by kernel_rfl) (by simp) ?_
      refine AllReadyH.cons (i := 23) rfl (fun K hK => ?_) AllReadyH.nil
      (try dsimp (config := { proj := false }) only [List.getElem_toArray, List.getElem_cons_succ, List.getElem_cons_zero])
      go_simp
      refine (HCX.out _ ?_).mono ?_
      · (repeat (first | exact HMR.out | refine Mod.drew ?_))
      rintro e w19 ⟨rfl, m19⟩
      clear a0 a1 a2 a3 a4 a5 a6 a7 q0 q1 q2 q3 q4 q5 q6 q7 r0 r1 r2 r3 r4 r5 r6 r7 x00
      obtain ⟨a0, a1, a2, a3, a4, a5, a6, a7, q0, q1, q2, q3, q4, q5, q6, q7, r0, r1, r2, r3, r4, r5, r6, r7, x00⟩ := HKEEP.out w19 m19
      have HE := Lib.hid (HPOST.out _ w19 ⟨rfl, HM11.out.thenNil m19⟩)
      refine hK.out _ _ ⟨a0, a1, a2, a3, a4, a5, a6, a7, x00⟩ (fun hHeld => ?_)
      clear hK K
      (try simp only [Act.put, List.setIfInBounds_toArray, List.set_cons_zero, List.set_cons_succ])
      (try simp only [List.set_cons_succ, List.set_cons_zero])
      refine wpAnyH_take (i := 24) (v := ?_) rfl (by kernel_rfl) (by kernel_rfl) (by kernel_rfl) (fun _ _ _ h => h) (Or.inl ⟨by kernel_rfl, ?_⟩) (by assumption) ?_
      rotate_left
      · intro w hSw; (try dsimp only at hSw); (first | (go_simp; done) | (go_simp; with_reducible rfl))
      (try simp only [Act.put, List.getElem_toArray, List.getElem_cons_succ, List.getElem_cons_zero, List.setIfInBounds_toArray, List.set_cons_succ, List.set_cons_zero])
      refine wpAnyH_take (i := 25) (v := ?_) rfl (by kernel_rfl) (by kernel_rfl) (by kernel_rfl) (fun _ _ _ h => h) (Or.inl ⟨by kernel_rfl, ?_⟩) (by assumption) ?_
      rotate_left
      · intro w hSw; (try dsimp only at hSw); (first | (go_simp; done) | (go_simp; with_reducible rfl))
      (try simp only [Act.put, List.getElem_toArray, List.getElem_cons_succ, List.getElem_cons_zero, List.setIfInBounds_toArray, List.set_cons_succ, List.set_cons_zero])
      refine wpAnyH_take (i := 26) (v := ?_) rfl (by kernel_rfl) (by kernel_rfl) (by kernel_rfl) (fun _ _ _ h => h) (Or.inl ⟨by kernel_rfl, ?_⟩) (by assumption) ?_
      rotate_left
      · intro w hSw; (try dsimp only at hSw); (first | (go_simp; done) | (go_simp; with_reducible rfl))
      (try simp only [Act.put, List.getElem_toArray, List.getElem_cons_succ, List.getElem_cons_zero, List.setIfInBounds_toArray, List.set_cons_succ, List.set_cons_zero])
      refine wpAnyH_done (by kernel_rfl) ?_ _
      go_wp2_with fail
      exact HE.out

set_option maxRecDepth 100000 in
theorem walkPlanOdd (v0 v1 v2 : Value) (W : World) (r0 : Rd W 30 v0) (r1 : Rd W 3 v1) (r2 : Rd W 3 v2) :
    Calls Try.prog 4 #[v0, v1, v2] W fun e w' => e = .returned (.bool true) ∧ Below W.heap.size W w' := by
  obtain ⟨P, hp, h1, h2, h3, h4⟩ := r0.plan
  obtain ⟨k, rfl, _⟩ := r1.int Try.underlying3
  obtain ⟨nx, rfl, _⟩ := r2.int Try.underlying3
  exact (lawPlanOdd v0 P k nx W hp h1 h2 h3 h4).mono fun e w' ⟨a, b⟩ => ⟨a, b.below⟩
end Go.Proofs.Ytpkhjdhbkkepgaa

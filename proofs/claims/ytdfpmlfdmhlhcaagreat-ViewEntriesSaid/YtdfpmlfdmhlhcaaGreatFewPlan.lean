/- cfllaw21: FewPlan; a plan as an argument. (Cut out of LawPlan, LawPlanC, LawPlanF.) -/
import Derived.Test.YtdfpmlfdmhlhcaaGreatPlanR
import Derived.Test.YtdfpmlfdmhlhcaaGreatRefEncode
namespace Go.Proofs.YtdfpmlfdmhlhcaaGreat
open Go.ChangeShapes Go.WideShapes Go.ChangeAt Go.RowKit
def fewN (ps : List Int) (ls : List (List It)) : Prop := (∀ l ∈ ls.take 100, l.length ≤ 100) ∧ ps.length ≤ 100 ∧ ls.length ≤ 100
instance (ps : List Int) (ls : List (List It)) : Decidable (fewN ps ls) := inferInstanceAs (Decidable (_ ∧ _))
set_option maxRecDepth 100000 in
set_option maxHeartbeats 1000000 in
theorem planFew (T : Nat → Prop) (pp pl : Option Addr) (np cp nl cl : Nat) (ps : List Int) (ls : List (List It)) (w : World) (hp : ps.length = np) (hl : IsLegs T w (.slice pl nl cl) ls) (hnp : np ≤ maxLen) (hnl : nl ≤ maxLen) :
    Calls Tryz.prog 35 #[.agg #[.slice pp np cp, .slice pl nl cl]] w fun e w' => e = .returned (.bool (decide (fewN ps ls))) ∧ Mod nil w w' := by
  refine (?_ : ∀ Post : Ending → World → Prop, Hid (∀ e w', (e = .returned (.bool (decide (fewN ps ls))) ∧ Mod nil w w') → Post e w') → Calls Tryz.prog 35 #[.agg #[.slice pp np cp, .slice pl nl cl]] w Post) _ (Lib.hid (fun _ _ h => h))
  intro Post HPOST
  have hll : ls.length = nl := by obtain ⟨_, _, h⟩ := hl.form; simp only [Value.slice.injEq] at h; exact h.2.1.symm
  have HL := Lib.hid hl
  have HLL := Lib.hid hll
  have HNP := Lib.hid hp
  unfold maxLen at hnp hnl
  obtain ⟨r, hr⟩ : ∃ r, w.heap.size = r := ⟨_, rfl⟩
  clear hl hll hp
  go_enter Tryz.func35, Tryz.ntmps35
  go_upto_region 1 with (fail)
  (try rw [hr])
  generalize hw1 : World.alloc w _ = w1
  have hm1 : Mod nil w w1 := by rw [← hw1]; exact (Mod.refl _ _).alloc _
  have hb1 : w1.heap[r]? = some (.cells #[.slice pp np cp, .slice pl nl cl] 73 (0, 0)) := by rw [← hw1, ← hr]; exact heap_alloc_new _ _
  have a0 := cell_of hb1 0
  have a1 := cell_of hb1 1
  simp only [List.getElem?_toArray, List.getElem?_cons_zero, List.getElem?_cons_succ] at a0 a1
  have HM1 := Lib.hid hm1
  clear hw1 hm1 hb1 hr
  go_wp2_with fail
  go_loopw [3] (fun v wr => ∃ i : Nat, i ≤ nl ∧ i ≤ 100 ∧ v = .int .i64 i ∧ Hid (∀ l ∈ ls.take i, l.length ≤ 100) ∧ wr = w1) (fun v _ => nl - (intOf v).toNat)
  case atStart => exact ⟨0, by omega, by omega, rfl, Lib.hid (by simp), rfl⟩
  case round =>
    obtain ⟨i, hi, hi2, rfl, HS, rfl⟩ := hrel
    by_cases hlt : i < nl ∧ i < 100
    · obtain ⟨hlt, hlt2⟩ := hlt
      have hil : i < ls.length := by rw [HLL.out]; exact hlt
      obtain ⟨b, off, x, rfl, -, hbw, hx, hits⟩ := (HL.out.modNil HM1.out).at i hil
      obtain ⟨l, hll⟩ : ∃ l, ls[i] = l := ⟨_, rfl⟩
      rw [hll] at hits
      obtain ⟨px, cx, rfl⟩ := hits.form
      have HT : Hid (ls.take (i + 1) = ls.take i ++ [l]) := Lib.hid (by rw [List.take_succ_eq_append_getElem hil, hll])
      obtain ⟨n, hn⟩ : ∃ n, l.length = n := ⟨_, rfl⟩
      rw [hn] at hx
      have HN := Lib.hid hn
      have HLM : Hid (l ∈ ls.take 100) := Lib.hid (by
        have h1 : l ∈ ls.take (i + 1) := by rw [HT.out]; simp
        have h2 : ls.take (i + 1) = (ls.take 100).take (i + 1) := by rw [List.take_take, Nat.min_eq_left (by omega)]
        rw [h2] at h1
        exact List.mem_of_mem_take h1)
      clear hits hll hn
      by_cases hbig : 100 < n
      · have HE : Hid (Post (.returned (.bool false)) wr) := Lib.hid (HPOST.out _ _ ⟨by rw [decide_eq_false]; intro h; have := h.1 l HLM.out; have := HN.out; omega, HM1.out⟩)
        go_wp2_with fail
        exact HE.out
      · have HSN : Hid (∀ l ∈ ls.take (i + 1), l.length ≤ 100) := Lib.hid (by
          rw [HT.out]
          intro y hy
          rcases List.mem_append.1 hy with h | h
          · exact HS.out y h
          · rw [List.mem_singleton.1 h, HN.out]; omega)
        go_wp2_with fail
        exact ⟨⟨i + 1, by omega, by omega, by go_num, HSN, trivial⟩, by simp [intOf]; omega⟩
    · have HALL : Hid (∀ l ∈ ls.take 100, l.length ≤ 100) := Lib.hid (by
        have : ls.take 100 = ls.take i := by
          rcases (show i = 100 ∨ (i < 100 ∧ nl ≤ i) by omega) with h | ⟨h1, h2⟩
          · rw [h]
          · rw [List.take_of_length_le (by rw [HLL.out]; omega), List.take_of_length_le (by rw [HLL.out]; omega)]
        rw [this]
        exact HS.out)
      have HEND : Hid (∀ b : Bool, (b = true ↔ np ≤ 100 ∧ nl ≤ 100) → Post (.returned (.bool b)) wr) := Lib.hid (fun b hb => HPOST.out _ _ ⟨by
        have : b = decide (fewN ps ls) := by
          rw [Bool.eq_iff_iff, hb, decide_eq_true_iff]
          unfold fewN
          rw [HNP.out, HLL.out]
          exact ⟨fun h => ⟨HALL.out, h⟩, fun h => h.2⟩
        rw [this], HM1.out⟩)
      clear HS HALL
      rcases (show (¬ i < nl) ∨ (i < nl ∧ i = 100) by omega) with h1 | ⟨h1, rfl⟩
      all_goals
        by_cases h2 : np ≤ 100
        · have HE := Lib.hid (HEND.out (decide ((nl : Int) ≤ 100)) (by simp; omega))
          (try simp only [Int.cast_ofNat_Int])
          go_wp2_with fail
          exact HE.out
        · have HE := Lib.hid (HEND.out false (by simp; omega))
          (try simp only [Int.cast_ofNat_Int])
          go_wp2_with fail
          exact HE.out
set_option maxRecDepth 100000 in
theorem Rd.plan {w : World} {v : Value} (h : Rd w 25 v) : ∃ P : Pl, IsPl (· < w.heap.size) w v P ∧ P.ps.length ≤ maxLen ∧ P.ls.length ≤ maxLen ∧ P.dl.length ≤ maxLen ∧ P.hash.length ≤ maxLen := by
  obtain ⟨cs, rfl, hl, hf⟩ := h.struct Tryz.underlying25
  have hc : Tryz.prog.cellsOf 25 = 8 := by kernel_rfl
  have h1 : Tryz.prog.cellsOf 22 = 1 := by kernel_rfl
  have h2 : Tryz.prog.cellsOf 23 = 1 := by kernel_rfl
  have h3 : Tryz.prog.cellsOf 3 = 1 := by kernel_rfl
  have h4 : Tryz.prog.cellsOf 9 = 1 := by kernel_rfl
  rw [hc] at hl
  match cs, hl with
  | [c0, c1, c2, c3, c4, c5, c6, c7], _ =>
    have f0 : Rc w 3 [c0] := by simpa [h3] using hf 0 _ rfl
    have f1 : Rc w 22 [c1] := by simpa [h1] using hf 1 _ rfl
    have f2 : Rc w 23 [c2] := by simpa [h2] using hf 2 _ rfl
    have f3 : Rc w 9 [c3] := by simpa [h4] using hf 3 _ rfl
    have f4 : Rc w 3 [c4] := by simpa [h3] using hf 4 _ rfl
    have f5 : Rc w 3 [c5] := by simpa [h3] using hf 5 _ rfl
    have f6 : Rc w 3 [c6] := by simpa [h3] using hf 6 _ rfl
    have f7 : Rc w 22 [c7] := by simpa [h1] using hf 7 _ rfl
    obtain ⟨n0, e0, -⟩ := f0.int Tryz.underlying3
    obtain ⟨pp, np, cp, ps, e1, a1, a2, a3, a4, -⟩ := f1.ints
    obtain ⟨pl, nl, cl, ls, e2, b1, b2, b3, b4, -⟩ := f2.legs
    obtain ⟨s, e3, hs⟩ := f3.string Tryz.underlying9
    obtain ⟨n4, e4, -⟩ := f4.int Tryz.underlying3
    obtain ⟨n5, e5, -⟩ := f5.int Tryz.underlying3
    obtain ⟨n6, e6, -⟩ := f6.int Tryz.underlying3
    obtain ⟨pd, nd, cd, dl, e7, d1, d2, d3, d4, -⟩ := f7.ints
    simp only [List.cons.injEq, and_true] at e0 e1 e2 e3 e4 e5 e6 e7
    subst e0 e1 e2 e3 e4 e5 e6 e7
    subst a3 b3 d3
    refine ⟨⟨n0, ps, ls, s.data.toList, n4, n5, n6, dl⟩, ⟨pp, cp, pl, cl, pd, cd, by simp, a4, b4, d4⟩, by simp only; omega, by simp only; omega, by simp only; omega, by simp only [Array.length_toList]; exact hs⟩
def fewP (P : Pl) : Prop := fewN P.ps P.ls ∧ P.dl.length ≤ 100 ∧ P.hash.length ≤ 1000
instance (P : Pl) : Decidable (fewP P) := inferInstanceAs (Decidable (_ ∧ _))
theorem fewP.few {P : Pl} (h : fewP P) : P.few := ⟨by have := h.1.2.1; omega, by have := h.1.2.2; omega, by have := h.2.1; omega, fun l hl => by have := h.1.1 l (by rw [List.take_of_length_le h.1.2.2]; exact hl); omega⟩
set_option maxRecDepth 100000 in
set_option maxHeartbeats 1000000 in
theorem planFewPlan (S : Nat → Prop) (v : Value) (P : Pl) (w : World) (hp : IsPl S w v P) (h1 : P.ps.length ≤ maxLen) (h2 : P.ls.length ≤ maxLen) (h3 : P.dl.length ≤ maxLen) (h4 : P.hash.length ≤ maxLen) :
    Calls Tryz.prog 7 #[v] w fun e w' => e = .returned (.bool (decide (fewP P))) ∧ Mod nil w w' := by
  refine (?_ : ∀ Post : Ending → World → Prop, Hid (∀ e w', (e = .returned (.bool (decide (fewP P))) ∧ Mod nil w w') → Post e w') → Calls Tryz.prog 7 #[v] w Post) _ (Lib.hid (fun _ _ h => h))
  intro Post HPOST
  obtain ⟨p1, c1, p2, c2, p7, c7, rfl, hps, hls, hdl⟩ := hp
  obtain ⟨deal, ps, ls, Z, start, eps, wait, dl⟩ := P
  simp only at *
  obtain ⟨np, hnp⟩ : ∃ n, ps.length = n := ⟨_, rfl⟩
  obtain ⟨nl, hnl⟩ : ∃ n, ls.length = n := ⟨_, rfl⟩
  obtain ⟨nd, hnd⟩ : ∃ n, dl.length = n := ⟨_, rfl⟩
  obtain ⟨nz, hnz⟩ : ∃ n, Z.length = n := ⟨_, rfl⟩
  rw [hnp] at h1 ⊢
  rw [hnl] at hls h2 ⊢
  rw [hnd] at h3 ⊢
  rw [hnz] at h4
  have HLS := Lib.hid hls
  have HNP := Lib.hid hnp
  have HND := Lib.hid hnd
  have HNZ := Lib.hid hnz
  obtain ⟨r, hr⟩ : ∃ r, w.heap.size = r := ⟨_, rfl⟩
  clear hps hls hdl hnp hnl hnd
  go_enter Tryz.func7, Tryz.ntmps7
  go_upto_region 1 with (fail)
  (try rw [hr])
  generalize hw1 : World.alloc w _ = w1
  have hm1 : Mod nil w w1 := by rw [← hw1]; exact (Mod.refl _ _).alloc _
  have hb1 : w1.heap[r]? = some (.cells #[.int .i64 deal, .slice p1 np c1, .slice p2 nl c2, .string ⟨Z.toArray⟩, .int .i64 start, .int .i64 eps, .int .i64 wait, .slice p7 nd c7] 25 (0, 0)) := by rw [← hw1, ← hr]; exact heap_alloc_new _ _
  have a0 := cell_of hb1 0
  have a1 := cell_of hb1 1
  have a2 := cell_of hb1 2
  have a3 := cell_of hb1 3
  have a4 := cell_of hb1 4
  have a5 := cell_of hb1 5
  have a6 := cell_of hb1 6
  have a7 := cell_of hb1 7
  simp only [List.getElem?_toArray, List.getElem?_cons_zero, List.getElem?_cons_succ] at a0 a1 a2 a3 a4 a5 a6 a7
  have HM1 := Lib.hid hm1
  have hF := planFew _ p1 p2 np c1 nl c2 ps ls w1 HNP.out (HLS.out.modNil hm1) h1 h2
  clear hw1 hm1 hb1 hr
  unfold maxLen at h3 h4
  have hzl : (⟨Z.toArray⟩ : ByteArray).size = nz := by rw [← hnz]; rfl
  have hzl2 : Z.toArray.size = nz := by rw [← hnz]; rfl
  by_cases hf : fewN ps ls
  · rw [decide_eq_true hf] at hF
    have HF := Lib.hid hF
    have HEND : Hid (∀ (b : Bool) W, (b = true ↔ nd ≤ 100 ∧ nz ≤ 1000) → Mod nil w W → Post (.returned (.bool b)) W) := Lib.hid (fun b W hb m => HPOST.out _ _ ⟨by
      have : b = decide (fewP ⟨deal, ps, ls, Z, start, eps, wait, dl⟩) := by
        rw [Bool.eq_iff_iff, hb, decide_eq_true_iff]
        unfold fewP
        simp only
        rw [HND.out, HNZ.out]
        exact ⟨fun h => ⟨hf, h⟩, fun h => h.2⟩
      rw [this], m⟩)
    clear hF hf
    go_wp2_with fail
    refine HF.out.mono ?_
    rintro e w2 ⟨rfl, hm2⟩
    have a0' := cell_kept a0 hm2 (World.block_lt_of_cell? _ _ a0) (not_nil _)
    clear a0
    have a0 := a0'
    clear a0'
    have a1' := cell_kept a1 hm2 (World.block_lt_of_cell? _ _ a1) (not_nil _)
    clear a1
    have a1 := a1'
    clear a1'
    have a2' := cell_kept a2 hm2 (World.block_lt_of_cell? _ _ a2) (not_nil _)
    clear a2
    have a2 := a2'
    clear a2'
    have a3' := cell_kept a3 hm2 (World.block_lt_of_cell? _ _ a3) (not_nil _)
    clear a3
    have a3 := a3'
    clear a3'
    have a4' := cell_kept a4 hm2 (World.block_lt_of_cell? _ _ a4) (not_nil _)
    clear a4
    have a4 := a4'
    clear a4'
    have a5' := cell_kept a5 hm2 (World.block_lt_of_cell? _ _ a5) (not_nil _)
    clear a5
    have a5 := a5'
    clear a5'
    have a6' := cell_kept a6 hm2 (World.block_lt_of_cell? _ _ a6) (not_nil _)
    clear a6
    have a6 := a6'
    clear a6'
    have a7' := cell_kept a7 hm2 (World.block_lt_of_cell? _ _ a7) (not_nil _)
    clear a7
    have a7 := a7'
    clear a7'
    have HM2 := Lib.hid (HM1.out.thenNil hm2)
    clear hm2
    by_cases h5 : nd ≤ 100
    · have HE := Lib.hid (HEND.out (decide ((nz : Int) ≤ 1000)) w2 (by simp; omega) HM2.out)
      go_wp2_with fail
      exact HE.out
    · have HE := Lib.hid (HEND.out false w2 (by simp; omega) HM2.out)
      go_wp2_with fail
      exact HE.out
  · rw [decide_eq_false hf] at hF
    have HF := Lib.hid hF
    have HN : Hid (decide (fewP ⟨deal, ps, ls, Z, start, eps, wait, dl⟩) = false) := Lib.hid (decide_eq_false (fun h => hf h.1))
    clear hF hf
    go_wp2_with fail
    refine HF.out.mono ?_
    rintro e w2 ⟨rfl, hm2⟩
    have HE := Lib.hid (HPOST.out _ w2 ⟨by rw [HN.out], HM1.out.thenNil hm2⟩)
    clear hm2
    go_wp2_with fail
    exact HE.out

set_option maxRecDepth 100000 in
theorem Rd.planCap {w : World} {v : Value} (h : Rd w 25 v) : ∃ P : Pl, IsPl (· < w.heap.size) w v P ∧ PlCap v P ∧ P.ps.length ≤ maxLen ∧ P.ls.length ≤ maxLen ∧ P.dl.length ≤ maxLen ∧ P.hash.length ≤ maxLen := by
  obtain ⟨cs, rfl, hl, hf⟩ := h.struct Tryz.underlying25
  have hc : Tryz.prog.cellsOf 25 = 8 := by kernel_rfl
  have h1 : Tryz.prog.cellsOf 22 = 1 := by kernel_rfl
  have h2 : Tryz.prog.cellsOf 23 = 1 := by kernel_rfl
  have h3 : Tryz.prog.cellsOf 3 = 1 := by kernel_rfl
  have h4 : Tryz.prog.cellsOf 9 = 1 := by kernel_rfl
  rw [hc] at hl
  match cs, hl with
  | [c0, c1, c2, c3, c4, c5, c6, c7], _ =>
    have f0 : Rc w 3 [c0] := by simpa [h3] using hf 0 _ rfl
    have f1 : Rc w 22 [c1] := by simpa [h1] using hf 1 _ rfl
    have f2 : Rc w 23 [c2] := by simpa [h2] using hf 2 _ rfl
    have f3 : Rc w 9 [c3] := by simpa [h4] using hf 3 _ rfl
    have f4 : Rc w 3 [c4] := by simpa [h3] using hf 4 _ rfl
    have f5 : Rc w 3 [c5] := by simpa [h3] using hf 5 _ rfl
    have f6 : Rc w 3 [c6] := by simpa [h3] using hf 6 _ rfl
    have f7 : Rc w 22 [c7] := by simpa [h1] using hf 7 _ rfl
    obtain ⟨n0, e0, -⟩ := f0.int Tryz.underlying3
    obtain ⟨pp, np, cp, ps, e1, a1, a2, a3, a4, -⟩ := f1.ints
    obtain ⟨pl, nl, cl, ls, e2, b1, b2, b3, b4, -⟩ := f2.legs
    obtain ⟨s, e3, hs⟩ := f3.string Tryz.underlying9
    obtain ⟨n4, e4, -⟩ := f4.int Tryz.underlying3
    obtain ⟨n5, e5, -⟩ := f5.int Tryz.underlying3
    obtain ⟨n6, e6, -⟩ := f6.int Tryz.underlying3
    obtain ⟨pd, nd, cd, dl, e7, d1, d2, d3, d4, -⟩ := f7.ints
    simp only [List.cons.injEq, and_true] at e0 e1 e2 e3 e4 e5 e6 e7
    subst e0 e1 e2 e3 e4 e5 e6 e7
    subst a3 b3 d3
    refine ⟨⟨n0, ps, ls, s.data.toList, n4, n5, n6, dl⟩, ⟨pp, cp, pl, cl, pd, cd, by simp, a4, b4, d4⟩, ⟨_, pp, cp, pl, cl, _, _, _, _, pd, cd, rfl, a1⟩, by simp only; omega, by simp only; omega, by simp only; omega, by simp only [Array.length_toList]; exact hs⟩
end Go.Proofs.YtdfpmlfdmhlhcaaGreat

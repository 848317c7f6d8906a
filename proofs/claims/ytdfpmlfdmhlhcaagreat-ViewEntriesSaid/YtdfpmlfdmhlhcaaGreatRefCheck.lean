/- cflref18.Check. (Printed by wip/tools/gen_refcheck.py.) -/
import Derived.Test.YtdfpmlfdmhlhcaaGreatRefMake
namespace Go.Proofs.YtdfpmlfdmhlhcaaGreat
open Go.RowKit
set_option maxRecDepth 100000 in
set_option maxHeartbeats 8000000 in
theorem refCheck (S : Nat → Prop) (v : Value) (P : Pl) (nn ca sa : Int) (w : World) (hp : IsPl S w v P) (hc : PlCap v P) (hf : P.few) (hh : P.hash.length ≤ 1000000000) :
    Calls Tryz.prog 81 #[v, .int .i64 nn, .int .i64 ca, .int .i64 sa] w fun e w' => e = .returned (.int .i64 (checkN P nn ca sa)) ∧ Mod nil w w' := by
  refine (?_ : ∀ Post : Ending → World → Prop, Hid (∀ e w', (e = .returned (.int .i64 (checkN P nn ca sa)) ∧ Mod nil w w') → Post e w') → Calls Tryz.prog 81 #[v, .int .i64 nn, .int .i64 ca, .int .i64 sa] w Post) _ (Lib.hid (fun _ _ h => h))
  intro Post HPOST
  obtain ⟨p1, c1, p2, c2, p7, c7, rfl, hps, hls, hdl⟩ := id hp
  obtain ⟨_, _, _, _, _, _, _, _, _, _, _, hcv, hcap⟩ := hc
  have HPL := Lib.hid hp
  obtain ⟨deal, ps, ls, Z, start, eps, wait, dl⟩ := P
  simp only at *
  simp only [Value.agg.injEq, Array.mk.injEq, List.cons.injEq, Value.slice.injEq, and_true, true_and] at hcv
  obtain ⟨-, ⟨-, hc1⟩, -⟩ := hcv
  rw [← hc1] at hcap
  clear hc1
  obtain ⟨np, hnp⟩ : ∃ n, ps.length = n := ⟨_, rfl⟩
  obtain ⟨nl, hnl⟩ : ∃ n, ls.length = n := ⟨_, rfl⟩
  obtain ⟨nd, hnd⟩ : ∃ n, dl.length = n := ⟨_, rfl⟩
  obtain ⟨f1, f2, f3, f4⟩ := hf
  simp only at f1 f2 f3 f4
  rw [hnp] at hps HPL hcap f1 ⊢
  rw [hnl] at hls HPL f2 ⊢
  rw [hnd] at hdl HPL f3 ⊢
  have HPS := Lib.hid hps
  have HLS := Lib.hid hls
  have HNP := Lib.hid hnp
  have HNL := Lib.hid hnl
  have HND := Lib.hid hnd
  have HF4 := Lib.hid f4
  obtain ⟨r, hr⟩ : ∃ r, w.heap.size = r := ⟨_, rfl⟩
  clear hp hps hls hdl hnp hnl hnd f4
  go_enter Tryz.func81, Tryz.ntmps81
  go_upto_region 1 with (fail)
  (try rw [hr])
  generalize hw1 : World.alloc w _ = w1
  have hm1 : Mod nil w w1 := by rw [← hw1]; exact (Mod.refl _ _).alloc _
  have hb1 : w1.heap[r]? = some (.cells #[.int .i64 deal, .slice p1 np c1, .slice p2 nl c2, .string ⟨Z.toArray⟩, .int .i64 start, .int .i64 eps, .int .i64 wait, .slice p7 nd c7] 25 (0, 0)) := by rw [← hw1, ← hr]; exact heap_alloc_new _ _
  have a0 := cell_of hb1 0
  have a1 := cell_of hb1 1
  have a2 := cell_of hb1 2
  have a3 := cell_of hb1 3
  have a4 := cell_of hb1 4
  have a5 := cell_of hb1 5
  have a6 := cell_of hb1 6
  have a7 := cell_of hb1 7
  simp only [List.getElem?_toArray, List.getElem?_cons_zero, List.getElem?_cons_succ] at a0 a1 a2 a3 a4 a5 a6 a7
  have HM1 := Lib.hid hm1
  clear hw1 hm1 hb1 hr
  obtain ⟨Q, er, hM⟩ : ∃ Q er, makeN deal ps ls Z start eps wait = (Q, er) := ⟨_, _, rfl⟩
  have hcall := refMake (fun _ => True) deal start eps wait p1 p2 np c1 nl c2 ps ls Z w1 ((HPS.out.modNil HM1.out).mono (fun k hk _ => hk)) ((HLS.out.modNil HM1.out).mono (fun k hk _ => hk)) hcap f1 f2 HF4.out hh
  rw [hM] at hcall
  have HC := Lib.hid hcall
  have HMK := Lib.hid hM
  clear hcall hM
  go_wp2_with fail
  refine HC.out.mono ?_
  rintro e w2 ⟨v', rfl, hplq, -, m2⟩
  have a0' := cell_kept a0 m2 (World.block_lt_of_cell? _ _ a0) (not_nil _)
  clear a0
  have a0 := a0'
  clear a0'
  have a1' := cell_kept a1 m2 (World.block_lt_of_cell? _ _ a1) (not_nil _)
  clear a1
  have a1 := a1'
  clear a1'
  have a2' := cell_kept a2 m2 (World.block_lt_of_cell? _ _ a2) (not_nil _)
  clear a2
  have a2 := a2'
  clear a2'
  have a3' := cell_kept a3 m2 (World.block_lt_of_cell? _ _ a3) (not_nil _)
  clear a3
  have a3 := a3'
  clear a3'
  have a4' := cell_kept a4 m2 (World.block_lt_of_cell? _ _ a4) (not_nil _)
  clear a4
  have a4 := a4'
  clear a4'
  have a5' := cell_kept a5 m2 (World.block_lt_of_cell? _ _ a5) (not_nil _)
  clear a5
  have a5 := a5'
  clear a5'
  have a6' := cell_kept a6 m2 (World.block_lt_of_cell? _ _ a6) (not_nil _)
  clear a6
  have a6 := a6'
  clear a6'
  have a7' := cell_kept a7 m2 (World.block_lt_of_cell? _ _ a7) (not_nil _)
  clear a7
  have a7 := a7'
  clear a7'
  have HM2 := Lib.hid (HM1.out.thenNil m2)
  have HPQ := Lib.hid hplq
  obtain ⟨x1, d1, x2, d2, x7, d7, rfl, -⟩ := hplq
  simp only at HPQ ⊢
  obtain ⟨qn, hqn⟩ : ∃ n, Q.ps.length = n := ⟨_, rfl⟩
  obtain ⟨qm, hqm⟩ : ∃ n, Q.ls.length = n := ⟨_, rfl⟩
  obtain ⟨qd, hqd⟩ : ∃ n, Q.dl.length = n := ⟨_, rfl⟩
  rw [hqn, hqm, hqd] at HPQ ⊢
  clear m2 HC hqn hqm hqd
  go_upto_region 2 with (fail)
  obtain ⟨t, ht⟩ : ∃ x, w2.heap.size = x := ⟨_, rfl⟩
  (try rw [ht])
  generalize hw3 : World.alloc w2 _ = w3
  have m3 : Mod nil w2 w3 := by rw [← hw3]; exact (Mod.refl _ _).alloc _
  have hb3 : w3.heap[t]? = some (.cells #[.int .i64 Q.deal, .slice x1 qn d1, .slice x2 qm d2, .string ⟨Q.hash.toArray⟩, .int .i64 Q.start, .int .i64 Q.eps, .int .i64 Q.wait, .slice x7 qd d7] 25 (0, 0)) := by rw [← hw3, ← ht]; exact heap_alloc_new _ _
  have b0 := cell_of hb3 0
  have b1 := cell_of hb3 1
  have b2 := cell_of hb3 2
  have b3 := cell_of hb3 3
  have b4 := cell_of hb3 4
  have b5 := cell_of hb3 5
  have b6 := cell_of hb3 6
  have b7 := cell_of hb3 7
  simp only [List.getElem?_toArray, List.getElem?_cons_zero, List.getElem?_cons_succ] at b0 b1 b2 b3 b4 b5 b6 b7
  have a0' := cell_kept a0 m3 (World.block_lt_of_cell? _ _ a0) (not_nil _)
  clear a0
  have a0 := a0'
  clear a0'
  have a1' := cell_kept a1 m3 (World.block_lt_of_cell? _ _ a1) (not_nil _)
  clear a1
  have a1 := a1'
  clear a1'
  have a2' := cell_kept a2 m3 (World.block_lt_of_cell? _ _ a2) (not_nil _)
  clear a2
  have a2 := a2'
  clear a2'
  have a3' := cell_kept a3 m3 (World.block_lt_of_cell? _ _ a3) (not_nil _)
  clear a3
  have a3 := a3'
  clear a3'
  have a4' := cell_kept a4 m3 (World.block_lt_of_cell? _ _ a4) (not_nil _)
  clear a4
  have a4 := a4'
  clear a4'
  have a5' := cell_kept a5 m3 (World.block_lt_of_cell? _ _ a5) (not_nil _)
  clear a5
  have a5 := a5'
  clear a5'
  have a6' := cell_kept a6 m3 (World.block_lt_of_cell? _ _ a6) (not_nil _)
  clear a6
  have a6 := a6'
  clear a6'
  have a7' := cell_kept a7 m3 (World.block_lt_of_cell? _ _ a7) (not_nil _)
  clear a7
  have a7 := a7'
  clear a7'
  have HM3 := Lib.hid (HM2.out.thenNil m3)
  have HPQ3 := Lib.hid (HPQ.out.modNil m3)
  clear hw3 m3 hb3 ht HPQ
  have HSIX : Hid (makeN deal ps ls Z start eps wait ≠ (⟨deal, ps, ls, Z, start, eps, wait, dl⟩, 0) → ∀ W, Mod nil w W → Post (.returned (.int .i64 16)) W) := Lib.hid (fun h W m => HPOST.out _ W ⟨by unfold checkN; rw [if_neg h], m⟩)
  by_cases her : er = 0
  case neg =>
    have hb : (er != 0) = true := by simp [her]
    have HE := Lib.hid (HSIX.out (by rw [HMK.out]; intro e; exact her (congrArg Prod.snd e)) w3 HM3.out)
    clear her
    go_wp2_with fail
    exact HE.out
  subst her
  have hsame := refSamePlan _ _ _ _ ⟨deal, ps, ls, Z, start, eps, wait, dl⟩ Q w3 (HPL.out.modNil HM3.out) HPQ3.out ⟨by simp only; rw [HNP.out]; exact f1, by simp only; rw [HNL.out]; exact f2, by simp only; rw [HND.out]; exact f3, HF4.out⟩
  by_cases hpq : ⟨deal, ps, ls, Z, start, eps, wait, dl⟩ = Q
  case neg =>
    rw [decide_eq_false hpq] at hsame
    have HS := Lib.hid hsame
    have HNE : Hid (makeN deal ps ls Z start eps wait ≠ (⟨deal, ps, ls, Z, start, eps, wait, dl⟩, 0)) := Lib.hid (by rw [HMK.out]; intro e; exact hpq (congrArg Prod.fst e).symm)
    clear hpq hsame
    go_wp2_with fail
    refine HS.out.mono ?_
    rintro e w4 ⟨rfl, m4⟩
    have HE := Lib.hid (HSIX.out HNE.out w4 (HM3.out.thenNil m4))
    clear m4
    go_wp2_with fail
    exact HE.out
  rw [decide_eq_true hpq] at hsame
  have HS := Lib.hid hsame
  have hmk := HMK.out
  rw [← hpq] at hmk
  have HMK2 := Lib.hid hmk
  obtain ⟨⟨-, -, ⟨-, -, -, -⟩, hnn, hlg, -, -⟩, -, -⟩ := make_own (P := ⟨deal, ps, ls, Z, start, eps, wait, dl⟩) hmk
  simp only at hnn hlg
  rw [HNP.out, HNL.out] at hnn
  have HNN := Lib.hid hnn
  clear hnn
  have HLG : Hid (∀ l ∈ ls, l.length ≤ 8 ∧ ∀ x ∈ l, x.ok) := Lib.hid (fun l hl => (legB_ok (List.all_eq_true.1 hlg l hl)).2)
  have HONE : Hid (((∃ x ∈ ps, nn ≤ x) ∨ (∃ l ∈ ls, ∃ x ∈ l, It.over ca sa x = true)) → ∀ W, Mod nil w W → ∀ k, Post (.returned (.int .i64 1)) (W.drewN k)) := Lib.hid (fun h W m k => HPOST.out _ _ ⟨by
    unfold checkN
    simp only
    rw [HMK2.out, if_pos rfl]
    by_cases h1 : ps.any (fun x => decide (nn ≤ x)) = true
    · rw [if_pos h1]
    · rw [if_neg h1, if_pos]
      rcases h with ⟨x, hx, h2⟩ | ⟨l, hl, x, hx, h2⟩
      · exact absurd (List.any_eq_true.2 ⟨x, hx, decide_eq_true h2⟩) h1
      · exact List.any_eq_true.2 ⟨l, hl, List.any_eq_true.2 ⟨x, hx, h2⟩⟩, m.drewN k⟩)
  clear hpq hsame hmk hlg HMK
  go_wp2_with fail
  refine HS.out.mono ?_
  rintro e w4 ⟨rfl, m4⟩
  have a0' := cell_kept a0 m4 (World.block_lt_of_cell? _ _ a0) (not_nil _)
  clear a0
  have a0 := a0'
  clear a0'
  have a1' := cell_kept a1 m4 (World.block_lt_of_cell? _ _ a1) (not_nil _)
  clear a1
  have a1 := a1'
  clear a1'
  have a2' := cell_kept a2 m4 (World.block_lt_of_cell? _ _ a2) (not_nil _)
  clear a2
  have a2 := a2'
  clear a2'
  have a3' := cell_kept a3 m4 (World.block_lt_of_cell? _ _ a3) (not_nil _)
  clear a3
  have a3 := a3'
  clear a3'
  have a4' := cell_kept a4 m4 (World.block_lt_of_cell? _ _ a4) (not_nil _)
  clear a4
  have a4 := a4'
  clear a4'
  have a5' := cell_kept a5 m4 (World.block_lt_of_cell? _ _ a5) (not_nil _)
  clear a5
  have a5 := a5'
  clear a5'
  have a6' := cell_kept a6 m4 (World.block_lt_of_cell? _ _ a6) (not_nil _)
  clear a6
  have a6 := a6'
  clear a6'
  have a7' := cell_kept a7 m4 (World.block_lt_of_cell? _ _ a7) (not_nil _)
  clear a7
  have a7 := a7'
  clear a7'
  have HM4 := Lib.hid (HM3.out.thenNil m4)
  clear m4 HS HPQ3 b0 b1 b2 b3 b4 b5 b6 b7
  go_upto_region 5 with (fail)
  obtain ⟨g, hg⟩ : ∃ x, w4.heap.size = x := ⟨_, rfl⟩
  (try rw [hg])
  generalize hw5 : World.alloc w4 _ = w5
  have m5 : Mod nil w4 w5 := by rw [← hw5]; exact (Mod.refl _ _).alloc _
  have hb5 : w5.heap[g]? = some (.cells #[.int .i64 ca, .int .i64 sa] 3 (0, 0)) := by rw [← hw5, ← hg]; exact heap_alloc_new _ _
  have g0 := cell_of hb5 0
  have g1 := cell_of hb5 1
  simp only [List.getElem?_toArray, List.getElem?_cons_zero, List.getElem?_cons_succ] at g0 g1
  have a0' := cell_kept a0 m5 (World.block_lt_of_cell? _ _ a0) (not_nil _)
  clear a0
  have a0 := a0'
  clear a0'
  have a1' := cell_kept a1 m5 (World.block_lt_of_cell? _ _ a1) (not_nil _)
  clear a1
  have a1 := a1'
  clear a1'
  have a2' := cell_kept a2 m5 (World.block_lt_of_cell? _ _ a2) (not_nil _)
  clear a2
  have a2 := a2'
  clear a2'
  have a3' := cell_kept a3 m5 (World.block_lt_of_cell? _ _ a3) (not_nil _)
  clear a3
  have a3 := a3'
  clear a3'
  have a4' := cell_kept a4 m5 (World.block_lt_of_cell? _ _ a4) (not_nil _)
  clear a4
  have a4 := a4'
  clear a4'
  have a5' := cell_kept a5 m5 (World.block_lt_of_cell? _ _ a5) (not_nil _)
  clear a5
  have a5 := a5'
  clear a5'
  have a6' := cell_kept a6 m5 (World.block_lt_of_cell? _ _ a6) (not_nil _)
  clear a6
  have a6 := a6'
  clear a6'
  have a7' := cell_kept a7 m5 (World.block_lt_of_cell? _ _ a7) (not_nil _)
  clear a7
  have a7 := a7'
  clear a7'
  have HM5 := Lib.hid (HM4.out.thenNil m5)
  have HKEEP : Hid (∀ W, Mod nil w5 W → W.cell? ⟨r, 1, none⟩ = some (.slice p1 np c1) ∧ W.cell? ⟨r, 2, none⟩ = some (.slice p2 nl c2) ∧ W.cell? ⟨g, 0, none⟩ = some (.int .i64 ca) ∧ W.cell? ⟨g, 1, none⟩ = some (.int .i64 sa)) := Lib.hid (fun W m => ⟨cell_kept a1 m (World.block_lt_of_cell? _ _ a1) (not_nil _), cell_kept a2 m (World.block_lt_of_cell? _ _ a2) (not_nil _), cell_kept g0 m (World.block_lt_of_cell? _ _ g0) (not_nil _), cell_kept g1 m (World.block_lt_of_cell? _ _ g1) (not_nil _)⟩)
  have HN : Hid (∀ W, Mod nil w5 W → Mod nil w W) := Lib.hid (fun W m => HM5.out.thenNil m)
  clear hw5 m5 hb5 hg a0 a3 a4 a5 a6 a7
  go_wp2_with fail
  clear a1 a2 g0 g1
  go_loopw [12] (fun v wr => ∃ i : Nat, i ≤ np ∧ v = .int .i64 i ∧ Hid (∀ x ∈ ps.take i, ¬ nn ≤ x) ∧ Hid (∀ l ∈ ls.take i, l.any (It.over ca sa) = false) ∧ Hid (Mod nil w5 wr)) (fun v _ => np - (intOf v).toNat)
  case atStart => exact ⟨0, by omega, rfl, Lib.hid (by simp), Lib.hid (by simp), Lib.hid (Mod.refl _ _)⟩
  case round =>
    obtain ⟨i, hi, rfl, HF, HT, HM⟩ := hrel
    obtain ⟨a1, a2, g0, g1⟩ := HKEEP.out wr HM.out
    by_cases hlt : i < np
    · have hip : i < ps.length := by rw [HNP.out]; exact hlt
      have hinl : i < nl := by have := HNN.out; omega
      have hil : i < ls.length := by rw [HNL.out]; exact hinl
      obtain ⟨gp, op, rfl, -, -, kx⟩ := row_int (HPS.out.modNil (HN.out wr HM.out)) i hip
      obtain ⟨x, hx⟩ : ∃ x, ps.getD i 0 = x := ⟨_, rfl⟩
      rw [hx] at kx
      have hpe : ps[i] = x := by rw [← hx]; simp [hip]
      have HTP : Hid (ps.take (i + 1) = ps.take i ++ [x]) := Lib.hid (by rw [List.take_succ_eq_append_getElem hip, hpe])
      have HXP : Hid (x ∈ ps) := Lib.hid (by rw [← hpe]; exact List.getElem_mem _)
      clear hx hpe
      by_cases hbig : nn ≤ x
      · have HE := Lib.hid (HONE.out (.inl ⟨x, HXP.out, hbig⟩) wr (HN.out wr HM.out) 0)
        go_wp2_with fail
        exact HE.out
      · have HFN : Hid (∀ y ∈ ps.take (i + 1), ¬ nn ≤ y) := Lib.hid (by
          rw [HTP.out]
          intro y hy
          rcases List.mem_append.1 hy with h | h
          · exact HF.out y h
          · rw [List.mem_singleton.1 h]; exact hbig)
        obtain ⟨gl, ol, xl, rfl, -, hgw, hxl, hits⟩ := HLS.out.at i hil
        obtain ⟨l, hll⟩ : ∃ l, ls[i] = l := ⟨_, rfl⟩
        rw [hll] at hits
        obtain ⟨px, cx, rfl⟩ := hits.form
        have HTL : Hid (ls.take (i + 1) = ls.take i ++ [l]) := Lib.hid (by rw [List.take_succ_eq_append_getElem hil, hll])
        have HLM : Hid (l ∈ ls) := Lib.hid (by rw [← hll]; exact List.getElem_mem _)
        obtain ⟨n, hn⟩ : ∃ n, l.length = n := ⟨_, rfl⟩
        have hn8 : n ≤ 8 := by rw [← hn]; exact (HLG.out l HLM.out).1
        rw [hn] at hxl hits
        have HITS := Lib.hid hits
        have HLN := Lib.hid hn
        have HXC : Hid (∀ W, Mod nil w5 W → W.cell? ⟨gl, ol + i, none⟩ = some (.slice px n cx)) := Lib.hid (fun W m => cell_kept hxl (HN.out W m) hgw (not_nil _))
        clear hxl hits hll hn hil hip
        obtain ⟨wo, rfl⟩ : ∃ wo, wo = wr := ⟨_, rfl⟩
        go_wp2_with fail
        clear kx a1 a2 g0 g1
        go_loopw [13] (fun v wr => ∃ j : Nat, j ≤ n ∧ v = .int .i64 j ∧ Hid (∀ x ∈ l.take j, It.over ca sa x = false) ∧ Hid (Mod nil w5 wr)) (fun v _ => n - (intOf v).toNat)
        case atStart => exact ⟨0, by omega, rfl, Lib.hid (by simp), HM⟩
        case round =>
          clear HM
          obtain ⟨j, hj, rfl, HJF, HJM⟩ := hrel
          obtain ⟨a1, a2, g0, g1⟩ := HKEEP.out wr HJM.out
          have hx := HXC.out wr HJM.out
          by_cases hlt2 : j < n
          · have hjl : j < l.length := by rw [HLN.out]; exact hlt2
            obtain ⟨b2, o2, rfl, -, -, k0, k1, k2⟩ := (HITS.out.modNil (HN.out wr HJM.out)).at j hjl
            obtain ⟨x2, hxx⟩ : ∃ x, l[j] = x := ⟨_, rfl⟩
            rw [hxx] at k0 k1 k2
            have HXT : Hid (l.take (j + 1) = l.take j ++ [x2]) := Lib.hid (by rw [List.take_succ_eq_append_getElem hjl, hxx])
            have HXM : Hid (x2 ∈ l) := Lib.hid (by rw [← hxx]; exact List.getElem_mem _)
            obtain ⟨q1, q2, -⟩ := (HLG.out l HLM.out).2 x2 HXM.out
            obtain ⟨led, asset, amt⟩ := x2
            simp only at k0 k1 k2 q1 q2
            clear hxx hjl
            go_upto_region 14 with (fail)
            obtain ⟨g5, hg5⟩ : ∃ g, wr.heap.size = g := ⟨_, rfl⟩
            (try rw [hg5])
            generalize hw6 : World.alloc wr _ = w6
            have hm6 : Mod nil wr w6 := by rw [← hw6]; exact (Mod.refl _ _).alloc _
            have hb6 : w6.heap[g5]? = some (.cells #[.int .i64 led, .int .i64 asset, .int .i64 amt] 135 (0, 0)) := by rw [← hw6, ← hg5]; exact heap_alloc_new _ _
            have y0 := cell_of hb6 0
            have y1 := cell_of hb6 1
            simp only [List.getElem?_toArray, List.getElem?_cons_zero, List.getElem?_cons_succ] at y0 y1
            have HJ6 := Lib.hid (HJM.out.thenNil hm6)
            have HJ6w := Lib.hid (HN.out w6 HJ6.out)
            have HGO : Hid (It.over ca sa ⟨led, asset, amt⟩ = false → ∀ x ∈ l.take (j + 1), It.over ca sa x = false) := Lib.hid (fun ho => by
              rw [HXT.out]
              intro z hz
              rcases List.mem_append.1 hz with h | h
              · exact HJF.out z h
              · rw [List.mem_singleton.1 h]; exact ho)
            clear hw6 hm6 hb6 hg5 k0 k1 k2 a1 a2 g0 g1 hx
            obtain ⟨a1, a2, g0, g1⟩ := HKEEP.out w6 HJ6.out
            rcases (show led = 0 ∨ led = 1 by omega) with rfl | rfl
            · by_cases hov : ca ≤ asset
              case pos =>
                have HX := Lib.hid (HONE.out (.inr ⟨l, HLM.out, ⟨_, HXM.out, by simp [It.over, hov]⟩⟩) w6 HJ6w.out)
                have D5 : decide (ca ≤ asset) = true := decide_eq_true hov
                go_upto_region 14 with (fail)
                go_quiet (fail)
                go_wp2_with fail
                exact HX.out _
              have HX := Lib.hid (HGO.out (by simp [It.over, hov]))
              have D5 : decide (ca ≤ asset) = false := decide_eq_false hov
              go_upto_region 14 with (fail)
              go_quiet (fail)
              go_wp2_with fail
              exact ⟨⟨j + 1, by omega, by go_num, HX, Lib.hid (HJ6.out.drewN _)⟩, by simp [intOf]; omega⟩
            · by_cases hov : sa ≤ asset
              case pos =>
                have HX := Lib.hid (HONE.out (.inr ⟨l, HLM.out, ⟨_, HXM.out, by simp [It.over, hov]⟩⟩) w6 HJ6w.out)
                have D5 : decide (sa ≤ asset) = true := decide_eq_true hov
                go_upto_region 14 with (fail)
                go_quiet (fail)
                go_wp2_with fail
                exact HX.out _
              have HX := Lib.hid (HGO.out (by simp [It.over, hov]))
              have D5 : decide (sa ≤ asset) = false := decide_eq_false hov
              go_upto_region 14 with (fail)
              go_quiet (fail)
              go_wp2_with fail
              exact ⟨⟨j + 1, by omega, by go_num, HX, Lib.hid (HJ6.out.drewN _)⟩, by simp [intOf]; omega⟩
          · obtain rfl : j = n := by omega
            have HTN : Hid (∀ l ∈ ls.take (i + 1), l.any (It.over ca sa) = false) := Lib.hid (by
              rw [HTL.out]
              intro z hz
              rcases List.mem_append.1 hz with h | h
              · exact HT.out z h
              · rw [List.mem_singleton.1 h]
                rw [Bool.eq_false_iff]
                intro h3
                obtain ⟨y, hy, hy2⟩ := List.any_eq_true.1 h3
                have h4 := HJF.out y (by rw [List.take_of_length_le (by rw [HLN.out]; exact Nat.le_refl _)]; exact hy)
                rw [h4] at hy2
                cases hy2)
            go_wp2_with fail
            exact ⟨⟨i + 1, by omega, by go_num, Lib.hid (fun y hy => by have h := HFN.out y hy; omega), HTN, HJM⟩, by simp [intOf]; omega⟩
    · obtain rfl : np = i := by omega
      have HE := Lib.hid (HPOST.out (.returned (.int .i64 0)) wr ⟨by
        unfold checkN
        simp only
        rw [HMK2.out, if_pos rfl, if_neg, if_neg]
        · intro h
          obtain ⟨l, hl, hl2⟩ := List.any_eq_true.1 h
          have h4 := HT.out l (by rw [List.take_of_length_le (by rw [HNL.out]; have := HNN.out; omega)]; exact hl)
          rw [h4] at hl2
          cases hl2
        · intro h
          obtain ⟨x, hx, hx2⟩ := List.any_eq_true.1 h
          exact HF.out x (by rw [List.take_of_length_le (by rw [HNP.out]; exact Nat.le_refl _)]; exact hx) (of_decide_eq_true hx2), HN.out wr HM.out⟩)
      go_wp2_with fail
      exact HE.out
end Go.Proofs.YtdfpmlfdmhlhcaaGreat

/- Package plan: Check, Place; cflref.CopyInts. (Printed by wip/tools/gen_planj.py.) -/
import Derived.Test.YtdfpmlfdmhlhcaaGreatPlanI
namespace Go.Proofs.YtdfpmlfdmhlhcaaGreat
open Go.RowKit
def It.over (ca sa : Int) (x : It) : Bool := (decide (x.led = 0) && decide (ca ≤ x.asset)) || (decide (x.led = 1) && decide (sa ≤ x.asset))
def checkN (P : Pl) (nn ca sa : Int) : Int :=
  if makeN P.deal P.ps P.ls P.hash P.start P.eps P.wait = (P, 0) then
    if P.ps.any (fun x => decide (nn ≤ x)) = true then 1 else if P.ls.any (fun l => l.any (It.over ca sa)) = true then 1 else 0
  else 16
set_option maxRecDepth 100000 in
set_option maxHeartbeats 8000000 in
theorem planCheck (S : Nat → Prop) (v : Value) (P : Pl) (nn ca sa : Int) (w : World) (hp : IsPl S w v P) (hf : P.few) (hh : P.hash.length ≤ 1000000000) :
    Calls Tryz.prog 30 #[v, .int .i64 nn, .int .i64 ca, .int .i64 sa] w fun e w' => e = .returned (.int .i64 (checkN P nn ca sa)) ∧ Mod nil w w' := by
  refine (?_ : ∀ Post : Ending → World → Prop, Hid (∀ e w', (e = .returned (.int .i64 (checkN P nn ca sa)) ∧ Mod nil w w') → Post e w') → Calls Tryz.prog 30 #[v, .int .i64 nn, .int .i64 ca, .int .i64 sa] w Post) _ (Lib.hid (fun _ _ h => h))
  intro Post HPOST
  have HAG := Lib.hid (fun W (m : Mod nil w W) => planAgain S v P W (hp.modNil m) hf hh)
  obtain ⟨p1, c1, p2, c2, p7, c7, rfl, h1, h2, h7⟩ := id hp
  have HPL := Lib.hid hp
  have HFEW := Lib.hid hf
  obtain ⟨deal, ps, ls, Z, start, eps, wait, dl⟩ := P
  obtain ⟨f1, f2, f3, f4⟩ := hf
  simp only at *
  obtain ⟨np, hnp⟩ : ∃ n, ps.length = n := ⟨_, rfl⟩
  obtain ⟨nl, hnl⟩ : ∃ n, ls.length = n := ⟨_, rfl⟩
  obtain ⟨nd, hnd⟩ : ∃ n, dl.length = n := ⟨_, rfl⟩
  rw [hnp] at h1 f1 HPL HAG ⊢
  rw [hnl] at h2 f2 HPL HAG ⊢
  rw [hnd] at HPL HAG ⊢
  have H1 := Lib.hid h1
  have H2 := Lib.hid h2
  have HF4 := Lib.hid f4
  have HNL := Lib.hid hnl
  obtain ⟨Q, er, hmk⟩ : ∃ P er, makeN deal ps ls Z start eps wait = (P, er) := ⟨_, _, rfl⟩
  rw [hmk] at HAG
  simp only at HAG
  have HMK := Lib.hid hmk
  clear hp h1 h2 h7 f4 hnp hnl hnd hmk
  obtain ⟨r, hr⟩ : ∃ r, w.heap.size = r := ⟨_, rfl⟩
  obtain ⟨g, hg⟩ : ∃ g, r + 1 = g := ⟨_, rfl⟩
  have HBAD : Hid (¬ (er = 0 ∧ Q = ⟨deal, ps, ls, Z, start, eps, wait, dl⟩) → ∀ W, Mod nil w W → Post (.returned (.int .i64 16)) W) := Lib.hid (fun hb W m => HPOST.out _ _ ⟨by
    unfold checkN
    simp only
    rw [HMK.out, if_neg]
    intro e
    have := Prod.mk.inj e
    exact hb ⟨this.2, this.1⟩, m⟩)
  go_enter Tryz.func30, Tryz.ntmps30
  go_upto_region 1 with (fail)
  (try rw [hr])
  (try rw [hg])
  generalize hw1 : World.alloc (World.alloc w _) _ = w1
  have hm1 : Mod nil w w1 := by rw [← hw1]; exact ((Mod.refl _ _).alloc _).alloc _
  have hb1 : w1.heap[r]? = some (.cells #[.int .i64 deal, .slice p1 np c1, .slice p2 nl c2, .string ⟨Z.toArray⟩, .int .i64 start, .int .i64 eps, .int .i64 wait, .slice p7 nd c7] 25 (0, 0)) := by rw [← hw1]; exact heap_alloc_old (by rw [← hr]; exact heap_alloc_new _ _)
  have hbg : w1.heap[g]? = some (.cells #[.int .i64 nn] 3 (0, 0)) := by
    rw [← hw1]
    have := heap_alloc_new (w.alloc (.cells #[.int .i64 deal, .slice p1 np c1, .slice p2 nl c2, .string ⟨Z.toArray⟩, .int .i64 start, .int .i64 eps, .int .i64 wait, .slice p7 nd c7] 25)) (.cells #[.int .i64 nn] 3)
    rw [World.size_alloc, hr, hg] at this
    exact this
  have a0 := cell_of hb1 0
  have a1 := cell_of hb1 1
  have a2 := cell_of hb1 2
  have a3 := cell_of hb1 3
  have a4 := cell_of hb1 4
  have a5 := cell_of hb1 5
  have a6 := cell_of hb1 6
  have a7 := cell_of hb1 7
  have n0 := cell_of hbg 0
  simp only [List.getElem?_toArray, List.getElem?_cons_zero, List.getElem?_cons_succ] at a0 a1 a2 a3 a4 a5 a6 a7 n0
  have HM1 := Lib.hid hm1
  clear hw1 hm1 hb1 hbg hr hg
  go_wp2_with fail
  refine (HAG.out w1 HM1.out).mono ?_
  rintro e w2 ⟨v2, rfl, hpl, hm2⟩
  have a0' := cell_kept a0 hm2 (World.block_lt_of_cell? _ _ a0) (not_nil _)
  clear a0
  have a0 := a0'
  clear a0'
  have a1' := cell_kept a1 hm2 (World.block_lt_of_cell? _ _ a1) (not_nil _)
  clear a1
  have a1 := a1'
  clear a1'
  have a2' := cell_kept a2 hm2 (World.block_lt_of_cell? _ _ a2) (not_nil _)
  clear a2
  have a2 := a2'
  clear a2'
  have a3' := cell_kept a3 hm2 (World.block_lt_of_cell? _ _ a3) (not_nil _)
  clear a3
  have a3 := a3'
  clear a3'
  have a4' := cell_kept a4 hm2 (World.block_lt_of_cell? _ _ a4) (not_nil _)
  clear a4
  have a4 := a4'
  clear a4'
  have a5' := cell_kept a5 hm2 (World.block_lt_of_cell? _ _ a5) (not_nil _)
  clear a5
  have a5 := a5'
  clear a5'
  have a6' := cell_kept a6 hm2 (World.block_lt_of_cell? _ _ a6) (not_nil _)
  clear a6
  have a6 := a6'
  clear a6'
  have a7' := cell_kept a7 hm2 (World.block_lt_of_cell? _ _ a7) (not_nil _)
  clear a7
  have a7 := a7'
  clear a7'
  have n0' := cell_kept n0 hm2 (World.block_lt_of_cell? _ _ n0) (not_nil _)
  clear n0
  have n0 := n0'
  clear n0'
  have HM2 := Lib.hid (HM1.out.thenNil hm2)
  obtain ⟨q1, d1, q2, d2, q7, d7, rfl, g1, g2, g3⟩ := id hpl
  have HQ := Lib.hid hpl
  obtain ⟨m1, hm1⟩ : ∃ n, Q.ps.length = n := ⟨_, rfl⟩
  obtain ⟨m2, hm2'⟩ : ∃ n, Q.ls.length = n := ⟨_, rfl⟩
  obtain ⟨m7, hm7⟩ : ∃ n, Q.dl.length = n := ⟨_, rfl⟩
  rw [hm1, hm2', hm7] at HQ ⊢
  clear g1 g2 g3 hpl hm1 hm2' hm7 hm2
  go_upto_region 2 with (fail)
  obtain ⟨G, hG⟩ : ∃ G, w2.heap.size = G := ⟨_, rfl⟩
  (try rw [hG])
  generalize hw3 : World.alloc w2 _ = w3
  have hm3 : Mod nil w2 w3 := by rw [← hw3]; exact (Mod.refl _ _).alloc _
  have hb3 : w3.heap[G]? = some (.cells #[.int .i64 Q.deal, .slice q1 m1 d1, .slice q2 m2 d2, .string ⟨Q.hash.toArray⟩, .int .i64 Q.start, .int .i64 Q.eps, .int .i64 Q.wait, .slice q7 m7 d7] 25 (0, 0)) := by rw [← hw3, ← hG]; exact heap_alloc_new _ _
  have b0 := cell_of hb3 0
  have b1 := cell_of hb3 1
  have b2 := cell_of hb3 2
  have b3 := cell_of hb3 3
  have b4 := cell_of hb3 4
  have b5 := cell_of hb3 5
  have b6 := cell_of hb3 6
  have b7 := cell_of hb3 7
  simp only [List.getElem?_toArray, List.getElem?_cons_zero, List.getElem?_cons_succ] at b0 b1 b2 b3 b4 b5 b6 b7
  have a0' := cell_kept a0 hm3 (World.block_lt_of_cell? _ _ a0) (not_nil _)
  clear a0
  have a0 := a0'
  clear a0'
  have a1' := cell_kept a1 hm3 (World.block_lt_of_cell? _ _ a1) (not_nil _)
  clear a1
  have a1 := a1'
  clear a1'
  have a2' := cell_kept a2 hm3 (World.block_lt_of_cell? _ _ a2) (not_nil _)
  clear a2
  have a2 := a2'
  clear a2'
  have a3' := cell_kept a3 hm3 (World.block_lt_of_cell? _ _ a3) (not_nil _)
  clear a3
  have a3 := a3'
  clear a3'
  have a4' := cell_kept a4 hm3 (World.block_lt_of_cell? _ _ a4) (not_nil _)
  clear a4
  have a4 := a4'
  clear a4'
  have a5' := cell_kept a5 hm3 (World.block_lt_of_cell? _ _ a5) (not_nil _)
  clear a5
  have a5 := a5'
  clear a5'
  have a6' := cell_kept a6 hm3 (World.block_lt_of_cell? _ _ a6) (not_nil _)
  clear a6
  have a6 := a6'
  clear a6'
  have a7' := cell_kept a7 hm3 (World.block_lt_of_cell? _ _ a7) (not_nil _)
  clear a7
  have a7 := a7'
  clear a7'
  have n0' := cell_kept n0 hm3 (World.block_lt_of_cell? _ _ n0) (not_nil _)
  clear n0
  have n0 := n0'
  clear n0'
  have HM3 := Lib.hid (HM2.out.thenNil hm3)
  have HQ3 := Lib.hid (HQ.out.modNil hm3)
  clear hw3 hm3 hb3 hG HQ
  by_cases her : er = 0
  case neg =>
    have hbe : (er != 0) = true := by simp [her]
    have HE := Lib.hid (HBAD.out (fun h => her h.1) w3 HM3.out)
    clear her
    go_wp2_with fail
    exact HE.out
  subst her
  have hsame := planSame _ _ (.agg #[.int .i64 deal, .slice p1 np c1, .slice p2 nl c2, .string ⟨Z.toArray⟩, .int .i64 start, .int .i64 eps, .int .i64 wait, .slice p7 nd c7]) (.agg #[.int .i64 Q.deal, .slice q1 m1 d1, .slice q2 m2 d2, .string ⟨Q.hash.toArray⟩, .int .i64 Q.start, .int .i64 Q.eps, .int .i64 Q.wait, .slice q7 m7 d7]) ⟨deal, ps, ls, Z, start, eps, wait, dl⟩ Q w3 (HPL.out.modNil HM3.out) HQ3.out HFEW.out
  have HSAME := Lib.hid hsame
  clear hsame
  by_cases heq : (⟨deal, ps, ls, Z, start, eps, wait, dl⟩ : Pl) = Q
  case neg =>
    rw [decide_eq_false heq] at HSAME
    have HB := Lib.hid (HBAD.out (fun h => heq h.2.symm))
    clear heq
    go_wp2_with fail
    refine HSAME.out.mono ?_
    rintro e w4 ⟨rfl, hm4⟩
    have HE := Lib.hid (HB.out w4 (HM3.out.thenNil hm4))
    clear hm4
    go_wp2_with fail
    exact HE.out
  rw [decide_eq_true heq] at HSAME
  have HCK : Hid (checkN ⟨deal, ps, ls, Z, start, eps, wait, dl⟩ nn ca sa = if ps.any (fun x => decide (nn ≤ x)) = true then 1 else if ls.any (fun l => l.any (It.over ca sa)) = true then 1 else 0) := Lib.hid (by
    unfold checkN
    simp only
    rw [HMK.out, if_pos (by rw [heq])])
  clear heq
  go_wp2_with fail
  refine HSAME.out.mono ?_
  rintro e w4 ⟨rfl, hm4⟩
  have a1' := cell_kept a1 hm4 (World.block_lt_of_cell? _ _ a1) (not_nil _)
  clear a1
  have a1 := a1'
  clear a1'
  have a2' := cell_kept a2 hm4 (World.block_lt_of_cell? _ _ a2) (not_nil _)
  clear a2
  have a2 := a2'
  clear a2'
  have n0' := cell_kept n0 hm4 (World.block_lt_of_cell? _ _ n0) (not_nil _)
  clear n0
  have n0 := n0'
  clear n0'
  have HM4 := Lib.hid (HM3.out.thenNil hm4)
  clear hm4 a0 a3 a4 a5 a6 a7 b0 b1 b2 b3 b4 b5 b6 b7 HSAME HQ3
  have hmf : ∀ (fn : Fn) (first cap : Array Value) (w : World), (Instr.makeFunc fn first cap).run Tryz.prog w = .ok (.func fn first cap) w := fun _ _ _ _ => rfl
  have HCO := Lib.hid (containsOver _ p1 np c1 g nn ps w4 (H1.out.modNil HM4.out) n0 f1)
  cases hany : ps.any (fun x => decide (nn ≤ x)) with
  | true =>
    rw [hany] at HCO
    have HE : Hid (Post (.returned (.int .i64 1)) w4) := Lib.hid (HPOST.out _ _ ⟨by rw [HCK.out, if_pos hany], HM4.out⟩)
    clear hany
    go_wp2_with fail
    refine HCO.out.mono ?_
    rintro e w' ⟨rfl, rfl⟩
    clear hmf
    go_wp2_with fail
    exact HE.out
  | false =>
    rw [hany] at HCO
    have HCK2 : Hid (checkN ⟨deal, ps, ls, Z, start, eps, wait, dl⟩ nn ca sa = if ls.any (fun l => l.any (It.over ca sa)) = true then 1 else 0) := Lib.hid (by rw [HCK.out, if_neg (by rw [hany]; decide)])
    clear hany HCK
    go_wp2_with fail
    refine HCO.out.mono ?_
    rintro e w' ⟨rfl, rfl⟩
    clear hmf
    go_wp2_with fail
    go_loopw [35] (fun v35 wr => ∃ i : Nat, i ≤ nl ∧ v35 = .int .i64 i ∧ Hid (∀ l ∈ ls.take i, l.any (It.over ca sa) = false) ∧ Hid (Mod nil w4 wr)) (fun v _ => nl - (intOf v).toNat)
    case atStart => exact ⟨0, by omega, rfl, Lib.hid (by simp), Lib.hid (Mod.refl _ _)⟩
    case round =>
      obtain ⟨i, hi, rfl, HLF, HM⟩ := hrel
      by_cases hlt : i < nl
      · have hil : i < ls.length := by rw [HNL.out]; exact hlt
        obtain ⟨b, off, x, rfl, -, hbw, hx, hits⟩ := (H2.out.modNil (HM4.out.thenNil HM.out)).at i hil
        obtain ⟨l, hll⟩ : ∃ l, ls[i] = l := ⟨_, rfl⟩
        rw [hll] at hits
        obtain ⟨px, cx, rfl⟩ := hits.form
        have HT : Hid (ls.take (i + 1) = ls.take i ++ [l]) := Lib.hid (by rw [List.take_succ_eq_append_getElem hil, hll])
        have hlm : l ∈ ls := by rw [← hll]; exact List.getElem_mem _
        have hlb : l.length ≤ 1000000 := HF4.out l hlm
        obtain ⟨n, hn⟩ : ∃ n, l.length = n := ⟨_, rfl⟩
        rw [hn] at hx hits hlb
        have HITS := Lib.hid hits
        have HN := Lib.hid hn
        have HLM := Lib.hid hlm
        obtain ⟨wo, rfl⟩ : ∃ wo, wo = wr := ⟨_, rfl⟩
        clear hits hll hlm hn
        go_wp2_with fail
        clear hx
        go_loopw [41] (fun v41 wr => ∃ j : Nat, j ≤ n ∧ v41 = .int .i64 j ∧ Hid (∀ x ∈ l.take j, It.over ca sa x = false) ∧ Hid (Mod nil wo wr)) (fun v _ => n - (intOf v).toNat)
        case atStart => exact ⟨0, by omega, rfl, Lib.hid (by simp), Lib.hid (Mod.refl _ _)⟩
        case round =>
          obtain ⟨j, hj, rfl, HJF, HJM⟩ := hrel
          by_cases hlt2 : j < n
          · have hjl : j < l.length := by rw [HN.out]; exact hlt2
            obtain ⟨b2, o2, rfl, -, hbw2, k0, k1, k2⟩ := (HITS.out.modNil HJM.out).at j hjl
            obtain ⟨x, hxx⟩ : ∃ x, l[j] = x := ⟨_, rfl⟩
            rw [hxx] at k0 k1 k2
            have HXT : Hid (l.take (j + 1) = l.take j ++ [x]) := Lib.hid (by rw [List.take_succ_eq_append_getElem hjl, hxx])
            have HXM : Hid (x ∈ l) := Lib.hid (by rw [← hxx]; exact List.getElem_mem _)
            obtain ⟨led, asset, amt⟩ := x
            simp only at k0 k1 k2
            clear hxx
            go_upto_region 12 with (fail)
            obtain ⟨g5, hg5⟩ : ∃ g, wr.heap.size = g := ⟨_, rfl⟩
            (try rw [hg5])
            generalize hw5 : World.alloc wr _ = w5
            have hm5 : Mod nil wr w5 := by rw [← hw5]; exact (Mod.refl _ _).alloc _
            have hb5 : w5.heap[g5]? = some (.cells #[.int .i64 led, .int .i64 asset, .int .i64 amt] 135 (0, 0)) := by rw [← hw5, ← hg5]; exact heap_alloc_new _ _
            have y0 := cell_of hb5 0
            have y1 := cell_of hb5 1
            simp only [List.getElem?_toArray, List.getElem?_cons_zero, List.getElem?_cons_succ] at y0 y1
            have HJ5 := Lib.hid (HJM.out.thenNil hm5)
            have HE : Hid (It.over ca sa ⟨led, asset, amt⟩ = true → Post (.returned (.int .i64 1)) w5) := Lib.hid (fun ho => HPOST.out _ _ ⟨by
              rw [HCK2.out, if_pos]
              rw [List.any_eq_true]
              exact ⟨l, HLM.out, List.any_eq_true.2 ⟨_, HXM.out, ho⟩⟩, (HM4.out.thenNil HM.out).thenNil HJ5.out⟩)
            have HGO : Hid (It.over ca sa ⟨led, asset, amt⟩ = false → ∀ x ∈ l.take (j + 1), It.over ca sa x = false) := Lib.hid (fun ho => by
              rw [HXT.out]
              intro z hz
              rcases List.mem_append.1 hz with h | h
              · exact HJF.out z h
              · rw [List.mem_singleton.1 h]; exact ho)
            clear hw5 hm5 hb5 hg5 k0 k1 k2
            have hcases : (led = 0 ∧ ca ≤ asset) ∨ (led = 0 ∧ ¬ ca ≤ asset) ∨ (led = 1 ∧ sa ≤ asset) ∨ (led = 1 ∧ ¬ sa ≤ asset) ∨ (¬ led = 0 ∧ ¬ led = 1) := by omega
            rcases hcases with ⟨rfl, h2⟩ | ⟨rfl, h2⟩ | ⟨rfl, h2⟩ | ⟨rfl, h2⟩ | ⟨h1, h2⟩
            · have HX := Lib.hid (HE.out (by simp [It.over, h2]))
              go_wp2_with fail
              exact HX.out
            · have HX := Lib.hid (HGO.out (by simp [It.over, h2]))
              go_wp2_with fail
              exact ⟨⟨j + 1, by omega, by go_num, HX, HJ5⟩, by simp [intOf]; omega⟩
            · have HX := Lib.hid (HE.out (by simp [It.over, h2]))
              go_wp2_with fail
              exact HX.out
            · have HX := Lib.hid (HGO.out (by simp [It.over, h2]))
              go_wp2_with fail
              exact ⟨⟨j + 1, by omega, by go_num, HX, HJ5⟩, by simp [intOf]; omega⟩
            · have HX := Lib.hid (HGO.out (by simp [It.over, h1, h2]))
              have b1 : (led == 0) = false := by simp [h1]
              have b2 : (led == 1) = false := by simp [h2]
              go_wp2_with fail
              exact ⟨⟨j + 1, by omega, by go_num, HX, HJ5⟩, by simp [intOf]; omega⟩
          · obtain rfl : j = n := by omega
            have HLN : Hid (∀ l ∈ ls.take (i + 1), l.any (It.over ca sa) = false) := Lib.hid (by
              rw [HT.out]
              intro z hz
              rcases List.mem_append.1 hz with h | h
              · exact HLF.out z h
              · rw [List.mem_singleton.1 h, List.any_eq_false]
                intro y hy
                rw [HJF.out y (by rw [List.take_of_length_le (by rw [HN.out]; exact Nat.le_refl _)]; exact hy)]
                decide)
            have HMN := Lib.hid (HM.out.thenNil HJM.out)
            clear HJF HJM
            go_wp2_with fail
            exact ⟨⟨i + 1, by omega, by go_num, HLN, HMN⟩, by simp [intOf]; omega⟩
      · obtain rfl : i = nl := by omega
        have HE : Hid (Post (.returned (.int .i64 0)) wr) := Lib.hid (HPOST.out _ _ ⟨by
          rw [HCK2.out, if_neg]
          intro h
          obtain ⟨l, h1, h2⟩ := List.any_eq_true.1 h
          have := HLF.out l (by rw [List.take_of_length_le (by rw [HNL.out]; exact Nat.le_refl _)]; exact h1)
          rw [this] at h2
          exact Bool.noConfusion h2, HM4.out.thenNil HM.out⟩)
        clear HLF HM
        go_wp2_with fail
        exact HE.out
theorem refCopyInts (T : Nat → Prop) (p : Option Addr) (n cap : Nat) (l : List Int) (w : World) (h : IsRow T w (.slice p n cap) (l.map (.int .i64))) (hn : l.length = n) (hl : n ≤ 1000000) :
    Calls Tryz.prog 151 #[.slice p n cap] w fun e w' => ∃ p' c', e = .returned (.slice p' n c') ∧ IsVec (fun k => w.heap.size ≤ k) w' 3 1 (.slice p' n c') n (l.map (.int .i64)) ∧ Mod nil w w' := by
  obtain ⟨i0, hi, hz0, hz1, hz2⟩ := info_parts info_int
  have hv := vec_empty w 3 1
  have hx : IsCells T (w.alloc (.cells #[] 3)) (.slice p n cap) n (l.map (Value.int .i64)) := by
    have := h.cells.modNil ((Mod.refl nil w).alloc (.cells #[] 3))
    rw [List.length_map, hn] at this
    exact this
  obtain ⟨v', w', hrun, hvec, hmod⟩ := vec_append (P := Tryz.prog) 22 22 3 i0 _ 1 8 Tryz.underlying22 hi hz0 hz1 hz2 rfl (by omega) hv hx (by simp [hn]) (by intro u hu; obtain ⟨x, -, rfl⟩ := List.mem_map.1 hu; rfl) (by unfold maxLen; omega) (by omega)
  simp only [List.nil_append, Nat.zero_add] at hvec
  obtain ⟨p', c', rfl⟩ := hvec.form
  have HR := Lib.hid hrun
  have HV := Lib.hid hvec
  have HM := Lib.hid hmod
  clear hv hx h hrun hvec hmod hi hz0 hz1 hz2 hn
  go_enter Tryz.func151, Tryz.ntmps151
  go_wp2_with (at_builtin; refine wpList_append_run rfl _ _ _ _ rfl rfl rfl HR.out ?_)
  go_ret
  exact ⟨p', c', rfl, HV.out.mono (fun k _ hk => by rcases hk with hk | hk; exact hk; simp at hk; omega), ((Mod.refl nil w).alloc _).new HM.out (fun _ h => h)⟩
end Go.Proofs.YtdfpmlfdmhlhcaaGreat

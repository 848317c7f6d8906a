/- TradeSides: the walk where field & 3 is 2. -/
import Derived.Test.YtdpaklpaanojpaaSides
namespace Go.Proofs.Ytdpaklpaanojpaa
open Go.RowKit

set_option maxRecDepth 100000 in
set_option maxHeartbeats 8000000 in
theorem sides_2 (t1 t2 t3 t4 t5 t6 t7 fl : Int) (sw : Bool) (W : World) (hy : bits .and .i64 fl 3 = 2) :
    Calls Try.prog 5 #[.agg #[.int .i64 t1, .int .i64 t2, .int .i64 t3, .int .i64 t4, .int .i64 t5, .int .i64 t6, .int .i64 t7], .int .i64 fl, .bool sw] W fun e w' => e = .returned (.bool true) ∧ Below W.heap.size W w' := by
  have hma : Mod nil W (W.alloc (.cells #[.int .i64 t1, .int .i64 t2, .int .i64 t3, .int .i64 t4, .int .i64 t5, .int .i64 t6, .int .i64 t7] 31)) := (Mod.refl nil W).alloc _
  have ht : (W.alloc (.cells #[.int .i64 t1, .int .i64 t2, .int .i64 t3, .int .i64 t4, .int .i64 t5, .int .i64 t6, .int .i64 t7] 31)).heap[W.heap.size]? = some (.cells #[.int .i64 t1, .int .i64 t2, .int .i64 t3, .int .i64 t4, .int .i64 t5, .int .i64 t6, .int .i64 t7] 31 (0, 0)) := heap_alloc_new _ _
  have HMA := Lib.hid hma
  have HT := Lib.hid ht
  clear hma ht
  go_enter Try.func5, Try.ntmps5
  go_wp2_with fail
  generalize (W.alloc (.cells #[.int .i64 t1, .int .i64 t2, .int .i64 t3, .int .i64 t4, .int .i64 t5, .int .i64 t6, .int .i64 t7] 31)) = w1 at HMA HT ⊢
  have HG : Hid (W.heap.size ≤ W.heap.size) := Lib.hid (Nat.le_refl _)
  obtain ⟨g, hg⟩ : ∃ g, W.heap.size = g := ⟨_, rfl⟩
  rw [hg] at HT ⊢
  have HGE := Lib.hid hg
  clear hg HG
  refine (tradeFirst w1).mono ?_
  rintro e w2 ⟨rfl, hm2⟩
  have HM2 := Lib.hid (HMA.out.thenNil hm2)
  have HT2 := Lib.hid (hm2.keep HT.out)
  clear HMA HT hm2
  go_wp2_with fail
  refine (tradeNew 16 4 4 w2 (by unfold newOk; omega)).mono ?_
  rintro e w3 ⟨b, rfl, hd3, hb3, hm3⟩
  have ht3 := hm3.keep HT2.out
  have HB3 : Hid (W.heap.size ≤ b) := Lib.hid (Nat.le_trans HM2.out.size hb3)
  have HM3 := Lib.hid (HM2.out.thenNil hm3)
  have hgb : g ≠ b := by have := heap_lt HT2.out; omega
  have HGB := Lib.hid hgb
  have HT3 := Lib.hid ht3
  have q0 := cell_of ht3 0
  have q1 := cell_of ht3 1
  have q2 := cell_of ht3 2
  have q3 := cell_of ht3 3
  have q4 := cell_of ht3 4
  have q5 := cell_of ht3 5
  have q6 := cell_of ht3 6
  have HD3 := Lib.hid hd3
  clear HM2 HT2 ht3 hgb hb3 hm3 hd3
  go_wp2_with fail
  refine (lawMay ⟨t1, t2, t3, t4, t5, t6, t7⟩ 16 4 4 w3).mono ?_
  obtain ⟨r, hr⟩ : ∃ r, mayT ⟨t1, t2, t3, t4, t5, t6, t7⟩ 16 4 4 = r := ⟨_, rfl⟩
  rw [hr]
  have HR := Lib.hid hr
  clear hr
  rintro e w4 ⟨rfl, hm4⟩
  have HD4 := Lib.hid (HD3.out.modNil hm4)
  have HT4 := Lib.hid (hm4.keep HT3.out)
  have HM4 := Lib.hid (HM3.out.thenNil hm4)
  clear HD3 HT3 HM3 hm4 q0 q1 q2 q3 q4 q5 q6
  by_cases hr0 : r = 0
  · subst hr0
    have q0 := cell_of HT4.out 0
    have q1 := cell_of HT4.out 1
    have q2 := cell_of HT4.out 2
    have q3 := cell_of HT4.out 3
    have q4 := cell_of HT4.out 4
    have q5 := cell_of HT4.out 5
    have q6 := cell_of HT4.out 6
    go_upto_region 6 with (fail)
    obtain ⟨hb1, hb2, hb3, hb4, hb5, hb6, hb7, hbs⟩ := may_zero HR.out
    simp only at hb1 hb2 hb3 hb4 hb5 hb6 hb7 hbs
    go_quiet (fail)
    have hm5 : ∀ n, Mod nil w4 (w4.drewN n) := fun n => (Mod.refl nil w4).drewN n
    generalize hd : w4.drewN _ = w5
    replace hm5 : Mod nil w4 w5 := hd ▸ hm5 _
    have HT5 := Lib.hid (hm5.keep HT4.out)
    have HM5 := Lib.hid (HM4.out.thenNil hm5)
    have HD5 := Lib.hid (HD4.out.modNil hm5)
    clear hd hm5 HT4 HM4 HD4 q0 q1 q2 q3 q4 q5 q6
    have q0 := cell_of HT5.out 0
    have q1 := cell_of HT5.out 1
    have q2 := cell_of HT5.out 2
    have q3 := cell_of HT5.out 3
    have q4 := cell_of HT5.out 4
    have q5 := cell_of HT5.out 5
    have q6 := cell_of HT5.out 6
    obtain ⟨x4, hx4⟩ : ∃ y, bits .and .i64 (t4 + 1) 3 = y := ⟨_, rfl⟩
    have hx4b : 0 ≤ x4 ∧ x4 < 4 := by have := and3 (t4 + 1); omega
    obtain ⟨x5, hx5⟩ : ∃ y, t5.tmod 1000 = y := ⟨_, rfl⟩
    have hx5b : 0 ≤ x5 ∧ x5 < 1000 := by rw [Int.tmod_eq_emod_of_nonneg (by omega)] at hx5; omega
    obtain ⟨x7, hx7⟩ : ∃ y, t7.tmod 1000 = y := ⟨_, rfl⟩
    have hx7b : 0 ≤ x7 ∧ x7 < 1000 := by rw [Int.tmod_eq_emod_of_nonneg (by omega)] at hx7; omega
    have third : ∃ z, bits .and .i64 (t2 + 1) 15 = z ∧ (z ≠ t2) ∧ (z ≠ t3 ∨ (z = t3 ∧ ∃ z2, bits .and .i64 (t3 + 1) 15 = z2 ∧ z2 ≠ t2 ∧ z2 ≠ t3)) := by
      refine ⟨_, rfl, ?_, ?_⟩
      · rw [and15]; omega
      · by_cases h : bits .and .i64 (t2 + 1) 15 = t3
        · refine .inr ⟨h, _, rfl, ?_⟩
          rw [and15] at h ⊢
          omega
        · exact .inl h
    have HTHIRD := Lib.hid third
    clear third
    have hbg : w5.heap.size ≠ b ∧ w5.heap.size ≠ g := ⟨by have := heap_lt HD5.out.ex.choose_spec.1; omega, by have := heap_lt HT5.out; omega⟩
    have HG2 := Lib.hid hbg
    clear hbg
    go_upto_if 43 with (fail)
    go_cut [9, 10] from 17 (fun s9 s10 wc => (∃ x y : Int, s9 = .int .i64 x ∧ s10 = .int .i64 y ∧ (x = t2 ∧ y = t3 ∨ x = t3 ∧ y = t2)) ∧ w5 = wc)
    case first =>
      cases sw
      · go_wp2_with fail
        go_meet
        exact ⟨⟨_, _, rfl, rfl, .inl ⟨rfl, rfl⟩⟩, rfl⟩
      · go_wp2_with fail
        go_meet
        exact ⟨⟨_, _, rfl, rfl, .inr ⟨rfl, rfl⟩⟩, rfl⟩
    case rest =>
    obtain ⟨⟨a1, a2, rfl, rfl, hab⟩, hwc⟩ := hcut
    subst hwc
    have HAA : Hid (a1 = t2 ∨ a1 = t3) := Lib.hid (hab.elim (fun h => .inl h.1) (fun h => .inr h.1))
    have HB : Hid (a1 ≠ a2 ∧ (a2 = t2 ∨ a2 = t3)) := Lib.hid (by rcases hab with ⟨rfl, rfl⟩ | ⟨rfl, rfl⟩; exact ⟨hbs, .inr rfl⟩; exact ⟨Ne.symm hbs, .inl rfl⟩)
    clear hab
    go_upto_block 0 with (fail)
    go_cut [] from 17 (fun wx => ∃ u5, wx.heap[w5.heap.size]? = some (.cells #[.int .i64 t1, .int .i64 t2, .int .i64 t3, .int .i64 t4, .int .i64 u5, .int .i64 t6, .int .i64 t7] 31 (0, 0)) ∧ Mod nil w5 wx ∧ (1 ≤ u5 ∧ u5 ≤ 4611686018427387904 ∧ t5 ≠ u5))
    case first =>
      go_wp2_with fail
      go_meet
      exact ⟨_, heap_alloc_new _ _, (Mod.refl nil w5).alloc _, by omega, by omega, by rw [Int.tmod_eq_emod_of_nonneg (by omega)] at hx5; omega⟩
    case rest =>
    generalize wc = w6 at hcut ⊢
    generalize w5.heap.size = g2 at hcut HG2 ⊢
    obtain ⟨u5, hu, hm6, hv0, hv1, hv2⟩ := hcut
    have heqb : (t5 == u5) = false := by simpa using hv2
    have HU := Lib.hid hu
    have HT6 := Lib.hid (hm6.keep HT5.out)
    have HM6 := Lib.hid (HM5.out.thenNil hm6)
    have HMU := Lib.hid (show mayT ⟨t1, t2, t3, t4, u5, t6, t7⟩ 16 4 4 = 0 from may_ok (by simp only; omega))
    have HBL : Hid (b < w6.heap.size) := Lib.hid (Nat.lt_of_lt_of_le (heap_lt HD5.out.ex.choose_spec.1) hm6.size)
    clear hu hy hx4 hx4b x4 hx5 hx5b x5 hx7 hx7b x7 q0 q1 q2 q3 q4 q5 q6
    have q1 : w6.cell? ⟨g, 1, none⟩ = some (.int .i64 t2) := cell_of HT6.out 1
    have q2 : w6.cell? ⟨g, 2, none⟩ = some (.int .i64 t3) := cell_of HT6.out 2
    obtain ⟨z, hz, hz2, hz3⟩ := HTHIRD.out
    go_upto_if 77 with (fail)
    go_cut [12] from 17 (fun s12 wx => (∃ z : Int, s12 = .int .i64 z ∧ z ≠ t2 ∧ z ≠ t3) ∧ w6 = wx)
    case first =>
      rcases hz3 with hz3 | ⟨hz5, z2, hy2, hz3, hz4⟩
      · have hz3' : (z == t3) = false := by simpa using hz3
        go_wp2_with fail
        go_meet
        exact ⟨⟨_, rfl, hz2, hz3⟩, rfl⟩
      · rw [hz5] at hz
        have hz3' : (z == t3) = true := by simpa using hz5
        subst hz5
        clear hz2
        go_wp2_with fail
        go_meet
        exact ⟨⟨_, rfl, hz3, hz4⟩, rfl⟩
    case rest =>
    clear hz hz2 hz3 z
    obtain ⟨⟨z, rfl, hz2, hz3⟩, hwc⟩ := hcut
    subst hwc
    have hz2' : (z == t2) = false := by simpa using hz2
    have HTH : Hid (z ≠ t2 ∧ z ≠ t3) := Lib.hid ⟨hz2, hz3⟩
    clear hz2 hz3
    go_upto_region 22 with (fail)
    clear hz2' q1 q2
    have HA := At.start (HD5.out.modNil hm6)
    clear hm6 HD5 HM5 HT5
    have A6 := HA
    have q0 : w6.cell? ⟨g, 0, none⟩ = some (.int .i64 t1) := cell_of (HA.keep HT6.out HGB.out) 0
    have q1 : w6.cell? ⟨g, 1, none⟩ = some (.int .i64 t2) := cell_of (HA.keep HT6.out HGB.out) 1
    have q2 : w6.cell? ⟨g, 2, none⟩ = some (.int .i64 t3) := cell_of (HA.keep HT6.out HGB.out) 2
    have q3 : w6.cell? ⟨g, 3, none⟩ = some (.int .i64 t4) := cell_of (HA.keep HT6.out HGB.out) 3
    have q4 : w6.cell? ⟨g, 4, none⟩ = some (.int .i64 t5) := cell_of (HA.keep HT6.out HGB.out) 4
    have q5 : w6.cell? ⟨g, 5, none⟩ = some (.int .i64 t6) := cell_of (HA.keep HT6.out HGB.out) 5
    have q6 : w6.cell? ⟨g, 6, none⟩ = some (.int .i64 t7) := cell_of (HA.keep HT6.out HGB.out) 6
    have p0 : w6.cell? ⟨g2, 0, none⟩ = some (.int .i64 t1) := cell_of (HA.keep HU.out HG2.out.1) 0
    have p1 : w6.cell? ⟨g2, 1, none⟩ = some (.int .i64 t2) := cell_of (HA.keep HU.out HG2.out.1) 1
    have p2 : w6.cell? ⟨g2, 2, none⟩ = some (.int .i64 t3) := cell_of (HA.keep HU.out HG2.out.1) 2
    have p3 : w6.cell? ⟨g2, 3, none⟩ = some (.int .i64 t4) := cell_of (HA.keep HU.out HG2.out.1) 3
    have p4 : w6.cell? ⟨g2, 4, none⟩ = some (.int .i64 u5) := cell_of (HA.keep HU.out HG2.out.1) 4
    have p5 : w6.cell? ⟨g2, 5, none⟩ = some (.int .i64 t6) := cell_of (HA.keep HU.out HG2.out.1) 5
    have p6 : w6.cell? ⟨g2, 6, none⟩ = some (.int .i64 t7) := cell_of (HA.keep HU.out HG2.out.1) 6
    clear HA
    go_region_held3 (fun w' => w'.cell? ⟨g, 0, none⟩ = some (.int .i64 t1) ∧ w'.cell? ⟨g, 1, none⟩ = some (.int .i64 t2) ∧ w'.cell? ⟨g, 2, none⟩ = some (.int .i64 t3) ∧ w'.cell? ⟨g, 3, none⟩ = some (.int .i64 t4) ∧ w'.cell? ⟨g, 4, none⟩ = some (.int .i64 t5) ∧ w'.cell? ⟨g, 5, none⟩ = some (.int .i64 t6) ∧ w'.cell? ⟨g, 6, none⟩ = some (.int .i64 t7) ∧ w'.cell? ⟨g2, 0, none⟩ = some (.int .i64 t1) ∧ w'.cell? ⟨g2, 1, none⟩ = some (.int .i64 t2) ∧ w'.cell? ⟨g2, 2, none⟩ = some (.int .i64 t3) ∧ w'.cell? ⟨g2, 3, none⟩ = some (.int .i64 t4) ∧ w'.cell? ⟨g2, 4, none⟩ = some (.int .i64 u5) ∧ w'.cell? ⟨g2, 5, none⟩ = some (.int .i64 t6) ∧ w'.cell? ⟨g2, 6, none⟩ = some (.int .i64 t7)) (first | exact ⟨q0, q1, q2, q3, q4, q5, q6, p0, p1, p2, p3, p4, p5, p6⟩) (first
      | (go_at_call 9; refine (atPut A7 (by simp) a2 ⟨t1, t2, t3, t4, u5, t6, t7⟩ _ _ (sides2 ⟨t1, t2, t3, t4, t5, t6, t7⟩ ⟨t1, t2, t3, t4, u5, t6, t7⟩ a1 a2 HMU.out HB.out.2 HB.out.1)).mono ?_; rintro e w8 ⟨rfl, A8, -⟩; clear q0 q1 q2 q3 q4 q5 q6 p0 p1 p2 p3 p4 p5 p6; have q0 : w8.cell? ⟨g, 0, none⟩ = some (.int .i64 t1) := cell_of (A8.keep HT6.out HGB.out) 0; have q1 : w8.cell? ⟨g, 1, none⟩ = some (.int .i64 t2) := cell_of (A8.keep HT6.out HGB.out) 1; have q2 : w8.cell? ⟨g, 2, none⟩ = some (.int .i64 t3) := cell_of (A8.keep HT6.out HGB.out) 2; have q3 : w8.cell? ⟨g, 3, none⟩ = some (.int .i64 t4) := cell_of (A8.keep HT6.out HGB.out) 3; have q4 : w8.cell? ⟨g, 4, none⟩ = some (.int .i64 t5) := cell_of (A8.keep HT6.out HGB.out) 4; have q5 : w8.cell? ⟨g, 5, none⟩ = some (.int .i64 t6) := cell_of (A8.keep HT6.out HGB.out) 5; have q6 : w8.cell? ⟨g, 6, none⟩ = some (.int .i64 t7) := cell_of (A8.keep HT6.out HGB.out) 6; have p0 : w8.cell? ⟨g2, 0, none⟩ = some (.int .i64 t1) := cell_of (A8.keep HU.out HG2.out.1) 0; have p1 : w8.cell? ⟨g2, 1, none⟩ = some (.int .i64 t2) := cell_of (A8.keep HU.out HG2.out.1) 1; have p2 : w8.cell? ⟨g2, 2, none⟩ = some (.int .i64 t3) := cell_of (A8.keep HU.out HG2.out.1) 2; have p3 : w8.cell? ⟨g2, 3, none⟩ = some (.int .i64 t4) := cell_of (A8.keep HU.out HG2.out.1) 3; have p4 : w8.cell? ⟨g2, 4, none⟩ = some (.int .i64 u5) := cell_of (A8.keep HU.out HG2.out.1) 4; have p5 : w8.cell? ⟨g2, 5, none⟩ = some (.int .i64 t6) := cell_of (A8.keep HU.out HG2.out.1) 5; have p6 : w8.cell? ⟨g2, 6, none⟩ = some (.int .i64 t7) := cell_of (A8.keep HU.out HG2.out.1) 6)
      | (go_at_call 9; refine (atPut (A6.modNil (Mod.refl nil w6).drew) (by simp) a1 ⟨t1, t2, t3, t4, t5, t6, t7⟩ _ _ (sides1 ⟨t1, t2, t3, t4, t5, t6, t7⟩ a1 HR.out HAA.out)).mono ?_; rintro e w7 ⟨rfl, A7, -⟩; clear q0 q1 q2 q3 q4 q5 q6 p0 p1 p2 p3 p4 p5 p6; have q0 : w7.cell? ⟨g, 0, none⟩ = some (.int .i64 t1) := cell_of (A7.keep HT6.out HGB.out) 0; have q1 : w7.cell? ⟨g, 1, none⟩ = some (.int .i64 t2) := cell_of (A7.keep HT6.out HGB.out) 1; have q2 : w7.cell? ⟨g, 2, none⟩ = some (.int .i64 t3) := cell_of (A7.keep HT6.out HGB.out) 2; have q3 : w7.cell? ⟨g, 3, none⟩ = some (.int .i64 t4) := cell_of (A7.keep HT6.out HGB.out) 3; have q4 : w7.cell? ⟨g, 4, none⟩ = some (.int .i64 t5) := cell_of (A7.keep HT6.out HGB.out) 4; have q5 : w7.cell? ⟨g, 5, none⟩ = some (.int .i64 t6) := cell_of (A7.keep HT6.out HGB.out) 5; have q6 : w7.cell? ⟨g, 6, none⟩ = some (.int .i64 t7) := cell_of (A7.keep HT6.out HGB.out) 6; have p0 : w7.cell? ⟨g2, 0, none⟩ = some (.int .i64 t1) := cell_of (A7.keep HU.out HG2.out.1) 0; have p1 : w7.cell? ⟨g2, 1, none⟩ = some (.int .i64 t2) := cell_of (A7.keep HU.out HG2.out.1) 1; have p2 : w7.cell? ⟨g2, 2, none⟩ = some (.int .i64 t3) := cell_of (A7.keep HU.out HG2.out.1) 2; have p3 : w7.cell? ⟨g2, 3, none⟩ = some (.int .i64 t4) := cell_of (A7.keep HU.out HG2.out.1) 3; have p4 : w7.cell? ⟨g2, 4, none⟩ = some (.int .i64 u5) := cell_of (A7.keep HU.out HG2.out.1) 4; have p5 : w7.cell? ⟨g2, 5, none⟩ = some (.int .i64 t6) := cell_of (A7.keep HU.out HG2.out.1) 5; have p6 : w7.cell? ⟨g2, 6, none⟩ = some (.int .i64 t7) := cell_of (A7.keep HU.out HG2.out.1) 6))
    clear q0 q1 q2 q3 q4 q5 q6 p0 p1 p2 p3 p4 p5 p6
    clear A7 A6
    go_wp2_with fail
    have hm2 := matched2 ⟨t1, t2, t3, t4, t5, t6, t7⟩ ⟨t1, t2, t3, t4, u5, t6, t7⟩ a1 a2 HB.out.1 rfl
    have hne : ¬ (⟨t1, t2, t3, t4, t5, t6, t7⟩ : T7) = ⟨t1, t2, t3, t4, u5, t6, t7⟩ := by intro h; injections; omega
    rw [if_neg hne, if_neg hne] at hm2
    clear hne
    refine (atMatched A8 (by simp) _ hm2.1).mono ?_
    rintro e w9 ⟨v9, rfl, hc9, A9, hm9⟩
    obtain ⟨pm, cm, rfl⟩ := cells_slice hc9
    clear hc9
    go_wp2_with fail
    refine (atOpen A9 (by simp) _ hm2.2).mono ?_
    rintro e w10 ⟨v10, rfl, hc10, A10, hm10⟩
    clear hm2
    obtain ⟨po, co, rfl⟩ : ∃ p c, v10 = .slice p 1 c := row_slice hc10
    clear hc10 A9
    go_upto_region 24 with (fail)
    have q0 : w10.cell? ⟨g, 0, none⟩ = some (.int .i64 t1) := cell_of (A10.keep HT6.out HGB.out) 0
    have q1 : w10.cell? ⟨g, 1, none⟩ = some (.int .i64 t2) := cell_of (A10.keep HT6.out HGB.out) 1
    have q2 : w10.cell? ⟨g, 2, none⟩ = some (.int .i64 t3) := cell_of (A10.keep HT6.out HGB.out) 2
    have q3 : w10.cell? ⟨g, 3, none⟩ = some (.int .i64 t4) := cell_of (A10.keep HT6.out HGB.out) 3
    have q4 : w10.cell? ⟨g, 4, none⟩ = some (.int .i64 t5) := cell_of (A10.keep HT6.out HGB.out) 4
    have q5 : w10.cell? ⟨g, 5, none⟩ = some (.int .i64 t6) := cell_of (A10.keep HT6.out HGB.out) 5
    have q6 : w10.cell? ⟨g, 6, none⟩ = some (.int .i64 t7) := cell_of (A10.keep HT6.out HGB.out) 6
    have p0 : w10.cell? ⟨g2, 0, none⟩ = some (.int .i64 t1) := cell_of (A10.keep HU.out HG2.out.1) 0
    have p1 : w10.cell? ⟨g2, 1, none⟩ = some (.int .i64 t2) := cell_of (A10.keep HU.out HG2.out.1) 1
    have p2 : w10.cell? ⟨g2, 2, none⟩ = some (.int .i64 t3) := cell_of (A10.keep HU.out HG2.out.1) 2
    have p3 : w10.cell? ⟨g2, 3, none⟩ = some (.int .i64 t4) := cell_of (A10.keep HU.out HG2.out.1) 3
    have p4 : w10.cell? ⟨g2, 4, none⟩ = some (.int .i64 u5) := cell_of (A10.keep HU.out HG2.out.1) 4
    have p5 : w10.cell? ⟨g2, 5, none⟩ = some (.int .i64 t6) := cell_of (A10.keep HU.out HG2.out.1) 5
    have p6 : w10.cell? ⟨g2, 6, none⟩ = some (.int .i64 t7) := cell_of (A10.keep HU.out HG2.out.1) 6
    have HM10 := Lib.hid (hm9.thenNil hm10)
    clear hm9 hm10
    refine region_till (fun w' => w'.cell? ⟨g, 0, none⟩ = some (.int .i64 t1) ∧ w'.cell? ⟨g, 1, none⟩ = some (.int .i64 t2) ∧ w'.cell? ⟨g, 2, none⟩ = some (.int .i64 t3) ∧ w'.cell? ⟨g, 3, none⟩ = some (.int .i64 t4) ∧ w'.cell? ⟨g, 4, none⟩ = some (.int .i64 t5) ∧ w'.cell? ⟨g, 5, none⟩ = some (.int .i64 t6) ∧ w'.cell? ⟨g, 6, none⟩ = some (.int .i64 t7) ∧ w'.cell? ⟨g2, 0, none⟩ = some (.int .i64 t1) ∧ w'.cell? ⟨g2, 1, none⟩ = some (.int .i64 t2) ∧ w'.cell? ⟨g2, 2, none⟩ = some (.int .i64 t3) ∧ w'.cell? ⟨g2, 3, none⟩ = some (.int .i64 t4) ∧ w'.cell? ⟨g2, 4, none⟩ = some (.int .i64 u5) ∧ w'.cell? ⟨g2, 5, none⟩ = some (.int .i64 t6) ∧ w'.cell? ⟨g2, 6, none⟩ = some (.int .i64 t7)) 51 (by kernel_rfl) ?_
    refine till_ready (rs := [0]) (by kernel_rfl) (by simp) ?_
    refine till_cons (i := 0) rfl (fun K hK => ?_) till_nil
    (try dsimp (config := { proj := false }) only [List.getElem_toArray, List.getElem_cons_succ, List.getElem_cons_zero])
    go_simp
    refine (tradeFirst _).mono ?_
    rintro e w11 ⟨rfl, hm11⟩
    have A11 := (A10.modNil (Mod.refl nil w10).drew).modNil hm11
    have HM11 := Lib.hid ((HM10.out.thenNil (Mod.refl nil w10).drew).thenNil hm11)
    clear hm11 q0 q1 q2 q3 q4 q5 q6 p0 p1 p2 p3 p4 p5 p6
    have q0 : w11.cell? ⟨g, 0, none⟩ = some (.int .i64 t1) := cell_of (A11.keep HT6.out HGB.out) 0
    have q1 : w11.cell? ⟨g, 1, none⟩ = some (.int .i64 t2) := cell_of (A11.keep HT6.out HGB.out) 1
    have q2 : w11.cell? ⟨g, 2, none⟩ = some (.int .i64 t3) := cell_of (A11.keep HT6.out HGB.out) 2
    have q3 : w11.cell? ⟨g, 3, none⟩ = some (.int .i64 t4) := cell_of (A11.keep HT6.out HGB.out) 3
    have q4 : w11.cell? ⟨g, 4, none⟩ = some (.int .i64 t5) := cell_of (A11.keep HT6.out HGB.out) 4
    have q5 : w11.cell? ⟨g, 5, none⟩ = some (.int .i64 t6) := cell_of (A11.keep HT6.out HGB.out) 5
    have q6 : w11.cell? ⟨g, 6, none⟩ = some (.int .i64 t7) := cell_of (A11.keep HT6.out HGB.out) 6
    have p0 : w11.cell? ⟨g2, 0, none⟩ = some (.int .i64 t1) := cell_of (A11.keep HU.out HG2.out.1) 0
    have p1 : w11.cell? ⟨g2, 1, none⟩ = some (.int .i64 t2) := cell_of (A11.keep HU.out HG2.out.1) 1
    have p2 : w11.cell? ⟨g2, 2, none⟩ = some (.int .i64 t3) := cell_of (A11.keep HU.out HG2.out.1) 2
    have p3 : w11.cell? ⟨g2, 3, none⟩ = some (.int .i64 t4) := cell_of (A11.keep HU.out HG2.out.1) 3
    have p4 : w11.cell? ⟨g2, 4, none⟩ = some (.int .i64 u5) := cell_of (A11.keep HU.out HG2.out.1) 4
    have p5 : w11.cell? ⟨g2, 5, none⟩ = some (.int .i64 t6) := cell_of (A11.keep HU.out HG2.out.1) 5
    have p6 : w11.cell? ⟨g2, 6, none⟩ = some (.int .i64 t7) := cell_of (A11.keep HU.out HG2.out.1) 6
    refine hK.out _ _ (fun _ => ⟨q0, q1, q2, q3, q4, q5, q6, p0, p1, p2, p3, p4, p5, p6⟩) ?_
    clear hK K
    (try simp only [Act.put, List.setIfInBounds_toArray, List.set_cons_zero, List.set_cons_succ])
    refine till_take (i := 1) (v := ?_) rfl (by kernel_rfl) (by kernel_rfl) (by kernel_rfl) (by kernel_rfl) (by kernel_rfl) (by kernel_rfl) (fun _ _ _ h => h) (Or.inl ⟨by kernel_rfl, ?_⟩) (⟨q0, q1, q2, q3, q4, q5, q6, p0, p1, p2, p3, p4, p5, p6⟩) ?_
    rotate_left
    · intro w hSw; (try dsimp only at hSw); (first | (go_simp; done) | (go_simp; with_reducible rfl))
    (try simp only [Act.put]); (try simp only [List.setIfInBounds_toArray])
    (try simp only [List.set_cons_succ, List.set_cons_zero])
    refine till_take (i := 2) (v := ?_) rfl (by kernel_rfl) (by kernel_rfl) (by kernel_rfl) (by kernel_rfl) (by kernel_rfl) (by kernel_rfl) (fun _ _ _ h => h) (Or.inl ⟨by kernel_rfl, ?_⟩) (⟨q0, q1, q2, q3, q4, q5, q6, p0, p1, p2, p3, p4, p5, p6⟩) ?_
    rotate_left
    · intro w hSw; (try dsimp only at hSw); (first | (go_simp; done) | (go_simp; with_reducible rfl))
    (try simp only [Act.put]); (try simp only [List.setIfInBounds_toArray])
    (try simp only [List.set_cons_succ, List.set_cons_zero])
    refine till_take (i := 3) (v := ?_) rfl (by kernel_rfl) (by kernel_rfl) (by kernel_rfl) (by kernel_rfl) (by kernel_rfl) (by kernel_rfl) (fun _ _ _ h => h) (Or.inl ⟨by kernel_rfl, ?_⟩) (⟨q0, q1, q2, q3, q4, q5, q6, p0, p1, p2, p3, p4, p5, p6⟩) ?_
    rotate_left
    · intro w hSw; (try dsimp only at hSw); (first | (go_simp; done) | (go_simp; with_reducible rfl))
    (try simp only [Act.put]); (try simp only [List.setIfInBounds_toArray])
    (try simp only [List.set_cons_succ, List.set_cons_zero])
    refine till_take (i := 4) (v := ?_) rfl (by kernel_rfl) (by kernel_rfl) (by kernel_rfl) (by kernel_rfl) (by kernel_rfl) (by kernel_rfl) (fun _ _ _ h => h) (Or.inl ⟨by kernel_rfl, ?_⟩) (⟨q0, q1, q2, q3, q4, q5, q6, p0, p1, p2, p3, p4, p5, p6⟩) ?_
    rotate_left
    · intro w hSw; (try dsimp only at hSw); (first | (go_simp; done) | (go_simp; with_reducible rfl))
    (try simp only [Act.put]); (try simp only [List.setIfInBounds_toArray])
    (try simp only [List.set_cons_succ, List.set_cons_zero])
    refine till_take (i := 5) (v := ?_) rfl (by kernel_rfl) (by kernel_rfl) (by kernel_rfl) (by kernel_rfl) (by kernel_rfl) (by kernel_rfl) (fun _ _ _ h => h) (Or.inl ⟨by kernel_rfl, ?_⟩) (⟨q0, q1, q2, q3, q4, q5, q6, p0, p1, p2, p3, p4, p5, p6⟩) ?_
    rotate_left
    · intro w hSw; (try dsimp only at hSw); (first | (go_simp; done) | (go_simp; with_reducible rfl))
    (try simp only [Act.put]); (try simp only [List.setIfInBounds_toArray])
    (try simp only [List.set_cons_succ, List.set_cons_zero])
    refine till_take (i := 6) (v := ?_) rfl (by kernel_rfl) (by kernel_rfl) (by kernel_rfl) (by kernel_rfl) (by kernel_rfl) (by kernel_rfl) (fun _ _ _ h => h) (Or.inl ⟨by kernel_rfl, ?_⟩) (⟨q0, q1, q2, q3, q4, q5, q6, p0, p1, p2, p3, p4, p5, p6⟩) ?_
    rotate_left
    · intro w hSw; (try dsimp only at hSw); (first | (go_simp; done) | (go_simp; with_reducible rfl))
    (try simp only [Act.put]); (try simp only [List.setIfInBounds_toArray])
    (try simp only [List.set_cons_succ, List.set_cons_zero])
    refine till_take (i := 7) (v := ?_) rfl (by kernel_rfl) (by kernel_rfl) (by kernel_rfl) (by kernel_rfl) (by kernel_rfl) (by kernel_rfl) (fun _ _ _ h => h) (Or.inl ⟨by kernel_rfl, ?_⟩) (⟨q0, q1, q2, q3, q4, q5, q6, p0, p1, p2, p3, p4, p5, p6⟩) ?_
    rotate_left
    · intro w hSw; (try dsimp only at hSw); (first | (go_simp; done) | (go_simp; with_reducible rfl))
    (try simp only [Act.put]); (try simp only [List.setIfInBounds_toArray])
    (try simp only [List.set_cons_succ, List.set_cons_zero])
    refine till_take (i := 8) (v := ?_) rfl (by kernel_rfl) (by kernel_rfl) (by kernel_rfl) (by kernel_rfl) (by kernel_rfl) (by kernel_rfl) (fun _ _ _ h => h) (Or.inl ⟨by kernel_rfl, ?_⟩) (⟨q0, q1, q2, q3, q4, q5, q6, p0, p1, p2, p3, p4, p5, p6⟩) ?_
    rotate_left
    · intro w hSw; (try dsimp only at hSw); (first | (go_simp; done) | (go_simp; with_reducible rfl))
    (try simp only [Act.put]); (try simp only [List.setIfInBounds_toArray])
    (try simp only [List.set_cons_succ, List.set_cons_zero])
    refine till_take (i := 9) (v := ?_) rfl (by kernel_rfl) (by kernel_rfl) (by kernel_rfl) (by kernel_rfl) (by kernel_rfl) (by kernel_rfl) (fun _ _ _ h => h) (Or.inl ⟨by kernel_rfl, ?_⟩) (⟨q0, q1, q2, q3, q4, q5, q6, p0, p1, p2, p3, p4, p5, p6⟩) ?_
    rotate_left
    · intro w hSw; (try dsimp only at hSw); (first | (go_simp; done) | (go_simp; with_reducible rfl))
    (try simp only [Act.put]); (try simp only [List.setIfInBounds_toArray])
    (try simp only [List.set_cons_succ, List.set_cons_zero])
    refine till_take (i := 10) (v := ?_) rfl (by kernel_rfl) (by kernel_rfl) (by kernel_rfl) (by kernel_rfl) (by kernel_rfl) (by kernel_rfl) (fun _ _ _ h => h) (Or.inl ⟨by kernel_rfl, ?_⟩) (⟨q0, q1, q2, q3, q4, q5, q6, p0, p1, p2, p3, p4, p5, p6⟩) ?_
    rotate_left
    · intro w hSw; (try dsimp only at hSw); (first | (go_simp; done) | (go_simp; with_reducible rfl))
    (try simp only [Act.put]); (try simp only [List.setIfInBounds_toArray])
    (try simp only [List.set_cons_succ, List.set_cons_zero])
    refine till_take (i := 11) (v := ?_) rfl (by kernel_rfl) (by kernel_rfl) (by kernel_rfl) (by kernel_rfl) (by kernel_rfl) (by kernel_rfl) (fun _ _ _ h => h) (Or.inl ⟨by kernel_rfl, ?_⟩) (⟨q0, q1, q2, q3, q4, q5, q6, p0, p1, p2, p3, p4, p5, p6⟩) ?_
    rotate_left
    · intro w hSw; (try dsimp only at hSw); (first | (go_simp; done) | (go_simp; with_reducible rfl))
    (try simp only [Act.put]); (try simp only [List.setIfInBounds_toArray])
    (try simp only [List.set_cons_succ, List.set_cons_zero])
    refine till_take (i := 12) (v := ?_) rfl (by kernel_rfl) (by kernel_rfl) (by kernel_rfl) (by kernel_rfl) (by kernel_rfl) (by kernel_rfl) (fun _ _ _ h => h) (Or.inl ⟨by kernel_rfl, ?_⟩) (⟨q0, q1, q2, q3, q4, q5, q6, p0, p1, p2, p3, p4, p5, p6⟩) ?_
    rotate_left
    · intro w hSw; (try dsimp only at hSw); (first | (go_simp; done) | (go_simp; with_reducible rfl))
    (try simp only [Act.put]); (try simp only [List.setIfInBounds_toArray])
    (try simp only [List.set_cons_succ, List.set_cons_zero])
    refine till_ready (rs := [13]) (by kernel_rfl) (by simp) ?_
    refine till_cons (i := 13) rfl (fun K hK => ?_) till_nil
    (try dsimp (config := { proj := false }) only [List.getElem_toArray, List.getElem_cons_succ, List.getElem_cons_zero])
    go_simp
    refine (atPutFrom A8 HM11.out (by simp) z ⟨t1, t2, t3, t4, t5, t6, t7⟩ _ _ (sides3 ⟨t1, t2, t3, t4, t5, t6, t7⟩ _ z HR.out HTH.out)).mono ?_
    rintro e w12 ⟨rfl, A12, -⟩
    clear q0 q1 q2 q3 q4 q5 q6 p0 p1 p2 p3 p4 p5 p6
    have q0 : w12.cell? ⟨g, 0, none⟩ = some (.int .i64 t1) := cell_of (A12.keep HT6.out HGB.out) 0
    have q1 : w12.cell? ⟨g, 1, none⟩ = some (.int .i64 t2) := cell_of (A12.keep HT6.out HGB.out) 1
    have q2 : w12.cell? ⟨g, 2, none⟩ = some (.int .i64 t3) := cell_of (A12.keep HT6.out HGB.out) 2
    have q3 : w12.cell? ⟨g, 3, none⟩ = some (.int .i64 t4) := cell_of (A12.keep HT6.out HGB.out) 3
    have q4 : w12.cell? ⟨g, 4, none⟩ = some (.int .i64 t5) := cell_of (A12.keep HT6.out HGB.out) 4
    have q5 : w12.cell? ⟨g, 5, none⟩ = some (.int .i64 t6) := cell_of (A12.keep HT6.out HGB.out) 5
    have q6 : w12.cell? ⟨g, 6, none⟩ = some (.int .i64 t7) := cell_of (A12.keep HT6.out HGB.out) 6
    have p0 : w12.cell? ⟨g2, 0, none⟩ = some (.int .i64 t1) := cell_of (A12.keep HU.out HG2.out.1) 0
    have p1 : w12.cell? ⟨g2, 1, none⟩ = some (.int .i64 t2) := cell_of (A12.keep HU.out HG2.out.1) 1
    have p2 : w12.cell? ⟨g2, 2, none⟩ = some (.int .i64 t3) := cell_of (A12.keep HU.out HG2.out.1) 2
    have p3 : w12.cell? ⟨g2, 3, none⟩ = some (.int .i64 t4) := cell_of (A12.keep HU.out HG2.out.1) 3
    have p4 : w12.cell? ⟨g2, 4, none⟩ = some (.int .i64 u5) := cell_of (A12.keep HU.out HG2.out.1) 4
    have p5 : w12.cell? ⟨g2, 5, none⟩ = some (.int .i64 t6) := cell_of (A12.keep HU.out HG2.out.1) 5
    have p6 : w12.cell? ⟨g2, 6, none⟩ = some (.int .i64 t7) := cell_of (A12.keep HU.out HG2.out.1) 6
    refine hK.out _ _ (fun _ => ⟨q0, q1, q2, q3, q4, q5, q6, p0, p1, p2, p3, p4, p5, p6⟩) ?_
    clear hK K
    (try simp only [Act.put, List.setIfInBounds_toArray, List.set_cons_zero, List.set_cons_succ])
    refine till_take (i := 14) (v := ?_) rfl (by kernel_rfl) (by kernel_rfl) (by kernel_rfl) (by kernel_rfl) (by kernel_rfl) (by kernel_rfl) (fun _ _ _ h => h) (Or.inl ⟨by kernel_rfl, ?_⟩) (⟨q0, q1, q2, q3, q4, q5, q6, p0, p1, p2, p3, p4, p5, p6⟩) ?_
    rotate_left
    · intro w hSw; (try dsimp only at hSw); (first | (go_simp; done) | (go_simp; with_reducible rfl))
    (try simp only [Act.put]); (try simp only [List.setIfInBounds_toArray])
    (try simp only [List.set_cons_succ, List.set_cons_zero])
    refine till_take (i := 15) (v := ?_) rfl (by kernel_rfl) (by kernel_rfl) (by kernel_rfl) (by kernel_rfl) (by kernel_rfl) (by kernel_rfl) (fun _ _ _ h => h) (Or.inl ⟨by kernel_rfl, ?_⟩) (⟨q0, q1, q2, q3, q4, q5, q6, p0, p1, p2, p3, p4, p5, p6⟩) ?_
    rotate_left
    · intro w hSw; (try dsimp only at hSw); (first | (go_simp; done) | (go_simp; with_reducible rfl))
    (try simp only [Act.put]); (try simp only [List.setIfInBounds_toArray])
    (try simp only [List.set_cons_succ, List.set_cons_zero])
    refine till_take (i := 16) (v := ?_) rfl (by kernel_rfl) (by kernel_rfl) (by kernel_rfl) (by kernel_rfl) (by kernel_rfl) (by kernel_rfl) (fun _ _ _ h => h) (Or.inl ⟨by kernel_rfl, ?_⟩) (⟨q0, q1, q2, q3, q4, q5, q6, p0, p1, p2, p3, p4, p5, p6⟩) ?_
    rotate_left
    · intro w hSw; (try dsimp only at hSw); (first | (go_simp; done) | (go_simp; with_reducible rfl))
    (try simp only [Act.put]); (try simp only [List.setIfInBounds_toArray])
    (try simp only [List.set_cons_succ, List.set_cons_zero])
    refine till_take (i := 17) (v := ?_) rfl (by kernel_rfl) (by kernel_rfl) (by kernel_rfl) (by kernel_rfl) (by kernel_rfl) (by kernel_rfl) (fun _ _ _ h => h) (Or.inl ⟨by kernel_rfl, ?_⟩) (⟨q0, q1, q2, q3, q4, q5, q6, p0, p1, p2, p3, p4, p5, p6⟩) ?_
    rotate_left
    · intro w hSw; (try dsimp only at hSw); (first | (go_simp; done) | (go_simp; with_reducible rfl))
    (try simp only [Act.put]); (try simp only [List.setIfInBounds_toArray])
    (try simp only [List.set_cons_succ, List.set_cons_zero])
    refine till_take (i := 18) (v := ?_) rfl (by kernel_rfl) (by kernel_rfl) (by kernel_rfl) (by kernel_rfl) (by kernel_rfl) (by kernel_rfl) (fun _ _ _ h => h) (Or.inl ⟨by kernel_rfl, ?_⟩) (⟨q0, q1, q2, q3, q4, q5, q6, p0, p1, p2, p3, p4, p5, p6⟩) ?_
    rotate_left
    · intro w hSw; (try dsimp only at hSw); (first | (go_simp; done) | (go_simp; with_reducible rfl))
    (try simp only [Act.put]); (try simp only [List.setIfInBounds_toArray])
    (try simp only [List.set_cons_succ, List.set_cons_zero])
    refine till_take (i := 19) (v := ?_) rfl (by kernel_rfl) (by kernel_rfl) (by kernel_rfl) (by kernel_rfl) (by kernel_rfl) (by kernel_rfl) (fun _ _ _ h => h) (Or.inl ⟨by kernel_rfl, ?_⟩) (⟨q0, q1, q2, q3, q4, q5, q6, p0, p1, p2, p3, p4, p5, p6⟩) ?_
    rotate_left
    · intro w hSw; (try dsimp only at hSw); (first | (go_simp; done) | (go_simp; with_reducible rfl))
    (try simp only [Act.put]); (try simp only [List.setIfInBounds_toArray])
    (try simp only [List.set_cons_succ, List.set_cons_zero])
    refine till_take (i := 20) (v := ?_) rfl (by kernel_rfl) (by kernel_rfl) (by kernel_rfl) (by kernel_rfl) (by kernel_rfl) (by kernel_rfl) (fun _ _ _ h => h) (Or.inl ⟨by kernel_rfl, ?_⟩) (⟨q0, q1, q2, q3, q4, q5, q6, p0, p1, p2, p3, p4, p5, p6⟩) ?_
    rotate_left
    · intro w hSw; (try dsimp only at hSw); (first | (go_simp; done) | (go_simp; with_reducible rfl))
    (try simp only [Act.put]); (try simp only [List.setIfInBounds_toArray])
    (try simp only [List.set_cons_succ, List.set_cons_zero])
    refine till_take (i := 21) (v := ?_) rfl (by kernel_rfl) (by kernel_rfl) (by kernel_rfl) (by kernel_rfl) (by kernel_rfl) (by kernel_rfl) (fun _ _ _ h => h) (Or.inl ⟨by kernel_rfl, ?_⟩) (⟨q0, q1, q2, q3, q4, q5, q6, p0, p1, p2, p3, p4, p5, p6⟩) ?_
    rotate_left
    · intro w hSw; (try dsimp only at hSw); (first | (go_simp; done) | (go_simp; with_reducible rfl))
    (try simp only [Act.put]); (try simp only [List.setIfInBounds_toArray])
    (try simp only [List.set_cons_succ, List.set_cons_zero])
    refine till_take (i := 22) (v := ?_) rfl (by kernel_rfl) (by kernel_rfl) (by kernel_rfl) (by kernel_rfl) (by kernel_rfl) (by kernel_rfl) (fun _ _ _ h => h) (Or.inl ⟨by kernel_rfl, ?_⟩) (⟨q0, q1, q2, q3, q4, q5, q6, p0, p1, p2, p3, p4, p5, p6⟩) ?_
    rotate_left
    · intro w hSw; (try dsimp only at hSw); (first | (go_simp; done) | (go_simp; with_reducible rfl))
    (try simp only [Act.put]); (try simp only [List.setIfInBounds_toArray])
    (try simp only [List.set_cons_succ, List.set_cons_zero])
    refine till_take (i := 23) (v := ?_) rfl (by kernel_rfl) (by kernel_rfl) (by kernel_rfl) (by kernel_rfl) (by kernel_rfl) (by kernel_rfl) (fun _ _ _ h => h) (Or.inl ⟨by kernel_rfl, ?_⟩) (⟨q0, q1, q2, q3, q4, q5, q6, p0, p1, p2, p3, p4, p5, p6⟩) ?_
    rotate_left
    · intro w hSw; (try dsimp only at hSw); (first | (go_simp; done) | (go_simp; with_reducible rfl))
    (try simp only [Act.put]); (try simp only [List.setIfInBounds_toArray])
    (try simp only [List.set_cons_succ, List.set_cons_zero])
    refine till_take (i := 24) (v := ?_) rfl (by kernel_rfl) (by kernel_rfl) (by kernel_rfl) (by kernel_rfl) (by kernel_rfl) (by kernel_rfl) (fun _ _ _ h => h) (Or.inl ⟨by kernel_rfl, ?_⟩) (⟨q0, q1, q2, q3, q4, q5, q6, p0, p1, p2, p3, p4, p5, p6⟩) ?_
    rotate_left
    · intro w hSw; (try dsimp only at hSw); (first | (go_simp; done) | (go_simp; with_reducible rfl))
    (try simp only [Act.put]); (try simp only [List.setIfInBounds_toArray])
    (try simp only [List.set_cons_succ, List.set_cons_zero])
    refine till_take (i := 25) (v := ?_) rfl (by kernel_rfl) (by kernel_rfl) (by kernel_rfl) (by kernel_rfl) (by kernel_rfl) (by kernel_rfl) (fun _ _ _ h => h) (Or.inl ⟨by kernel_rfl, ?_⟩) (⟨q0, q1, q2, q3, q4, q5, q6, p0, p1, p2, p3, p4, p5, p6⟩) ?_
    rotate_left
    · intro w hSw; (try dsimp only at hSw); (first | (go_simp; done) | (go_simp; with_reducible rfl))
    (try simp only [Act.put]); (try simp only [List.setIfInBounds_toArray])
    (try simp only [List.set_cons_succ, List.set_cons_zero])
    refine till_take (i := 26) (v := ?_) rfl (by kernel_rfl) (by kernel_rfl) (by kernel_rfl) (by kernel_rfl) (by kernel_rfl) (by kernel_rfl) (fun _ _ _ h => h) (Or.inl ⟨by kernel_rfl, ?_⟩) (⟨q0, q1, q2, q3, q4, q5, q6, p0, p1, p2, p3, p4, p5, p6⟩) ?_
    rotate_left
    · intro w hSw; (try dsimp only at hSw); (first | (go_simp; done) | (go_simp; with_reducible rfl))
    (try simp only [Act.put]); (try simp only [List.setIfInBounds_toArray])
    (try simp only [List.set_cons_succ, List.set_cons_zero])
    refine till_take (i := 27) (v := ?_) rfl (by kernel_rfl) (by kernel_rfl) (by kernel_rfl) (by kernel_rfl) (by kernel_rfl) (by kernel_rfl) (fun _ _ _ h => h) (Or.inl ⟨by kernel_rfl, ?_⟩) (⟨q0, q1, q2, q3, q4, q5, q6, p0, p1, p2, p3, p4, p5, p6⟩) ?_
    rotate_left
    · intro w hSw; (try dsimp only at hSw); (first | (go_simp; done) | (go_simp; with_reducible rfl))
    (try simp only [Act.put]); (try simp only [List.setIfInBounds_toArray])
    (try simp only [List.set_cons_succ, List.set_cons_zero])
    refine till_take (i := 28) (v := ?_) rfl (by kernel_rfl) (by kernel_rfl) (by kernel_rfl) (by kernel_rfl) (by kernel_rfl) (by kernel_rfl) (fun _ _ _ h => h) (Or.inl ⟨by kernel_rfl, ?_⟩) (⟨q0, q1, q2, q3, q4, q5, q6, p0, p1, p2, p3, p4, p5, p6⟩) ?_
    rotate_left
    · intro w hSw; (try dsimp only at hSw); (first | (go_simp; done) | (go_simp; with_reducible rfl))
    (try simp only [Act.put]); (try simp only [List.setIfInBounds_toArray])
    (try simp only [List.set_cons_succ, List.set_cons_zero])
    refine till_take (i := 29) (v := ?_) rfl (by kernel_rfl) (by kernel_rfl) (by kernel_rfl) (by kernel_rfl) (by kernel_rfl) (by kernel_rfl) (fun _ _ _ h => h) (Or.inl ⟨by kernel_rfl, ?_⟩) (⟨q0, q1, q2, q3, q4, q5, q6, p0, p1, p2, p3, p4, p5, p6⟩) ?_
    rotate_left
    · intro w hSw; (try dsimp only at hSw); (first | (go_simp; done) | (go_simp; with_reducible rfl))
    (try simp only [Act.put]); (try simp only [List.setIfInBounds_toArray])
    (try simp only [List.set_cons_succ, List.set_cons_zero])
    refine till_take (i := 30) (v := ?_) rfl (by kernel_rfl) (by kernel_rfl) (by kernel_rfl) (by kernel_rfl) (by kernel_rfl) (by kernel_rfl) (fun _ _ _ h => h) (Or.inl ⟨by kernel_rfl, ?_⟩) (⟨q0, q1, q2, q3, q4, q5, q6, p0, p1, p2, p3, p4, p5, p6⟩) ?_
    rotate_left
    · intro w hSw; (try dsimp only at hSw); (first | (go_simp; done) | (go_simp; with_reducible rfl))
    (try simp only [Act.put]); (try simp only [List.setIfInBounds_toArray])
    (try simp only [List.set_cons_succ, List.set_cons_zero])
    refine till_take (i := 31) (v := ?_) rfl (by kernel_rfl) (by kernel_rfl) (by kernel_rfl) (by kernel_rfl) (by kernel_rfl) (by kernel_rfl) (fun _ _ _ h => h) (Or.inl ⟨by kernel_rfl, ?_⟩) (⟨q0, q1, q2, q3, q4, q5, q6, p0, p1, p2, p3, p4, p5, p6⟩) ?_
    rotate_left
    · intro w hSw; (try dsimp only at hSw); (first | (go_simp; done) | (go_simp; with_reducible rfl))
    (try simp only [Act.put]); (try simp only [List.setIfInBounds_toArray])
    (try simp only [List.set_cons_succ, List.set_cons_zero])
    refine till_take (i := 32) (v := ?_) rfl (by kernel_rfl) (by kernel_rfl) (by kernel_rfl) (by kernel_rfl) (by kernel_rfl) (by kernel_rfl) (fun _ _ _ h => h) (Or.inl ⟨by kernel_rfl, ?_⟩) (⟨q0, q1, q2, q3, q4, q5, q6, p0, p1, p2, p3, p4, p5, p6⟩) ?_
    rotate_left
    · intro w hSw; (try dsimp only at hSw); (first | (go_simp; done) | (go_simp; with_reducible rfl))
    (try simp only [Act.put]); (try simp only [List.setIfInBounds_toArray])
    (try simp only [List.set_cons_succ, List.set_cons_zero])
    refine till_take (i := 33) (v := ?_) rfl (by kernel_rfl) (by kernel_rfl) (by kernel_rfl) (by kernel_rfl) (by kernel_rfl) (by kernel_rfl) (fun _ _ _ h => h) (Or.inl ⟨by kernel_rfl, ?_⟩) (⟨q0, q1, q2, q3, q4, q5, q6, p0, p1, p2, p3, p4, p5, p6⟩) ?_
    rotate_left
    · intro w hSw; (try dsimp only at hSw); (first | (go_simp; done) | (go_simp; with_reducible rfl))
    (try simp only [Act.put]); (try simp only [List.setIfInBounds_toArray])
    (try simp only [List.set_cons_succ, List.set_cons_zero])
    refine till_take (i := 34) (v := ?_) rfl (by kernel_rfl) (by kernel_rfl) (by kernel_rfl) (by kernel_rfl) (by kernel_rfl) (by kernel_rfl) (fun _ _ _ h => h) (Or.inl ⟨by kernel_rfl, ?_⟩) (⟨q0, q1, q2, q3, q4, q5, q6, p0, p1, p2, p3, p4, p5, p6⟩) ?_
    rotate_left
    · intro w hSw; (try dsimp only at hSw); (first | (go_simp; done) | (go_simp; with_reducible rfl))
    (try simp only [Act.put]); (try simp only [List.setIfInBounds_toArray])
    (try simp only [List.set_cons_succ, List.set_cons_zero])
    refine till_take (i := 35) (v := ?_) rfl (by kernel_rfl) (by kernel_rfl) (by kernel_rfl) (by kernel_rfl) (by kernel_rfl) (by kernel_rfl) (fun _ _ _ h => h) (Or.inl ⟨by kernel_rfl, ?_⟩) (⟨q0, q1, q2, q3, q4, q5, q6, p0, p1, p2, p3, p4, p5, p6⟩) ?_
    rotate_left
    · intro w hSw; (try dsimp only at hSw); (first | (go_simp; done) | (go_simp; with_reducible rfl))
    (try simp only [Act.put]); (try simp only [List.setIfInBounds_toArray])
    (try simp only [List.set_cons_succ, List.set_cons_zero])
    refine till_take (i := 36) (v := ?_) rfl (by kernel_rfl) (by kernel_rfl) (by kernel_rfl) (by kernel_rfl) (by kernel_rfl) (by kernel_rfl) (fun _ _ _ h => h) (Or.inl ⟨by kernel_rfl, ?_⟩) (⟨q0, q1, q2, q3, q4, q5, q6, p0, p1, p2, p3, p4, p5, p6⟩) ?_
    rotate_left
    · intro w hSw; (try dsimp only at hSw); (first | (go_simp; done) | (go_simp; with_reducible rfl))
    (try simp only [Act.put]); (try simp only [List.setIfInBounds_toArray])
    (try simp only [List.set_cons_succ, List.set_cons_zero])
    refine till_take (i := 37) (v := ?_) rfl (by kernel_rfl) (by kernel_rfl) (by kernel_rfl) (by kernel_rfl) (by kernel_rfl) (by kernel_rfl) (fun _ _ _ h => h) (Or.inl ⟨by kernel_rfl, ?_⟩) (⟨q0, q1, q2, q3, q4, q5, q6, p0, p1, p2, p3, p4, p5, p6⟩) ?_
    rotate_left
    · intro w hSw; (try dsimp only at hSw); (first | (go_simp; done) | (go_simp; with_reducible rfl))
    (try simp only [Act.put]); (try simp only [List.setIfInBounds_toArray])
    (try simp only [List.set_cons_succ, List.set_cons_zero])
    refine till_take (i := 38) (v := ?_) rfl (by kernel_rfl) (by kernel_rfl) (by kernel_rfl) (by kernel_rfl) (by kernel_rfl) (by kernel_rfl) (fun _ _ _ h => h) (Or.inl ⟨by kernel_rfl, ?_⟩) (⟨q0, q1, q2, q3, q4, q5, q6, p0, p1, p2, p3, p4, p5, p6⟩) ?_
    rotate_left
    · intro w hSw; (try dsimp only at hSw); (first | (go_simp; done) | (go_simp; with_reducible rfl))
    (try simp only [Act.put]); (try simp only [List.setIfInBounds_toArray])
    (try simp only [List.set_cons_succ, List.set_cons_zero])
    refine till_take (i := 39) (v := undef) rfl (by kernel_rfl) (by kernel_rfl) (by kernel_rfl) (by kernel_rfl) (by kernel_rfl) (by kernel_rfl) (fun _ _ _ h => h) (Or.inr ⟨by kernel_rfl, rfl⟩) (⟨q0, q1, q2, q3, q4, q5, q6, p0, p1, p2, p3, p4, p5, p6⟩) ?_
    (try simp only [Act.put]); (try simp only [List.setIfInBounds_toArray])
    (try simp only [List.set_cons_succ, List.set_cons_zero])
    refine till_take (i := 40) (v := undef) rfl (by kernel_rfl) (by kernel_rfl) (by kernel_rfl) (by kernel_rfl) (by kernel_rfl) (by kernel_rfl) (fun _ _ _ h => h) (Or.inr ⟨by kernel_rfl, rfl⟩) (⟨q0, q1, q2, q3, q4, q5, q6, p0, p1, p2, p3, p4, p5, p6⟩) ?_
    (try simp only [Act.put]); (try simp only [List.setIfInBounds_toArray])
    (try simp only [List.set_cons_succ, List.set_cons_zero])
    refine till_take (i := 41) (v := undef) rfl (by kernel_rfl) (by kernel_rfl) (by kernel_rfl) (by kernel_rfl) (by kernel_rfl) (by kernel_rfl) (fun _ _ _ h => h) (Or.inr ⟨by kernel_rfl, rfl⟩) (⟨q0, q1, q2, q3, q4, q5, q6, p0, p1, p2, p3, p4, p5, p6⟩) ?_
    (try simp only [Act.put]); (try simp only [List.setIfInBounds_toArray])
    (try simp only [List.set_cons_succ, List.set_cons_zero])
    refine till_take (i := 42) (v := undef) rfl (by kernel_rfl) (by kernel_rfl) (by kernel_rfl) (by kernel_rfl) (by kernel_rfl) (by kernel_rfl) (fun _ _ _ h => h) (Or.inr ⟨by kernel_rfl, rfl⟩) (⟨q0, q1, q2, q3, q4, q5, q6, p0, p1, p2, p3, p4, p5, p6⟩) ?_
    (try simp only [Act.put]); (try simp only [List.setIfInBounds_toArray])
    (try simp only [List.set_cons_succ, List.set_cons_zero])
    refine till_take (i := 43) (v := undef) rfl (by kernel_rfl) (by kernel_rfl) (by kernel_rfl) (by kernel_rfl) (by kernel_rfl) (by kernel_rfl) (fun _ _ _ h => h) (Or.inr ⟨by kernel_rfl, rfl⟩) (⟨q0, q1, q2, q3, q4, q5, q6, p0, p1, p2, p3, p4, p5, p6⟩) ?_
    (try simp only [Act.put]); (try simp only [List.setIfInBounds_toArray])
    (try simp only [List.set_cons_succ, List.set_cons_zero])
    refine till_take (i := 44) (v := ?_) rfl (by kernel_rfl) (by kernel_rfl) (by kernel_rfl) (by kernel_rfl) (by kernel_rfl) (by kernel_rfl) (fun _ _ _ h => h) (Or.inl ⟨by kernel_rfl, ?_⟩) (⟨q0, q1, q2, q3, q4, q5, q6, p0, p1, p2, p3, p4, p5, p6⟩) ?_
    rotate_left
    · intro w hSw; (try dsimp only at hSw); (first | (go_simp; done) | (go_simp; with_reducible rfl))
    (try simp only [Act.put]); (try simp only [List.setIfInBounds_toArray])
    (try simp only [List.set_cons_succ, List.set_cons_zero])
    refine till_take (i := 45) (v := ?_) rfl (by kernel_rfl) (by kernel_rfl) (by kernel_rfl) (by kernel_rfl) (by kernel_rfl) (by kernel_rfl) (fun _ _ _ h => h) (Or.inl ⟨by kernel_rfl, ?_⟩) (⟨q0, q1, q2, q3, q4, q5, q6, p0, p1, p2, p3, p4, p5, p6⟩) ?_
    rotate_left
    · intro w hSw; (try dsimp only at hSw); (first | (go_simp; done) | (go_simp; with_reducible rfl))
    (try simp only [Act.put]); (try simp only [List.setIfInBounds_toArray])
    (try simp only [List.set_cons_succ, List.set_cons_zero])
    refine till_take (i := 46) (v := ?_) rfl (by kernel_rfl) (by kernel_rfl) (by kernel_rfl) (by kernel_rfl) (by kernel_rfl) (by kernel_rfl) (fun _ _ _ h => h) (Or.inl ⟨by kernel_rfl, ?_⟩) (⟨q0, q1, q2, q3, q4, q5, q6, p0, p1, p2, p3, p4, p5, p6⟩) ?_
    rotate_left
    · intro w hSw; (try dsimp only at hSw); (first | (go_simp; done) | (go_simp; with_reducible rfl))
    (try simp only [Act.put]); (try simp only [List.setIfInBounds_toArray])
    (try simp only [List.set_cons_succ, List.set_cons_zero])
    refine till_take (i := 47) (v := ?_) rfl (by kernel_rfl) (by kernel_rfl) (by kernel_rfl) (by kernel_rfl) (by kernel_rfl) (by kernel_rfl) (fun _ _ _ h => h) (Or.inl ⟨by kernel_rfl, ?_⟩) (⟨q0, q1, q2, q3, q4, q5, q6, p0, p1, p2, p3, p4, p5, p6⟩) ?_
    rotate_left
    · intro w hSw; (try dsimp only at hSw); (first | (go_simp; done) | (go_simp; with_reducible rfl))
    (try simp only [Act.put]); (try simp only [List.setIfInBounds_toArray])
    (try simp only [List.set_cons_succ, List.set_cons_zero])
    refine till_ready (rs := [48]) (by kernel_rfl) (by simp) ?_
    refine till_cons (i := 48) rfl (fun K hK => ?_) till_nil
    (try dsimp (config := { proj := false }) only [List.getElem_toArray, List.getElem_cons_succ, List.getElem_cons_zero])
    go_simp
    refine (atLen A12 2 rfl).mono ?_
    rintro e w13 ⟨rfl, rfl⟩
    refine hK.out _ _ (fun _ => ⟨q0, q1, q2, q3, q4, q5, q6, p0, p1, p2, p3, p4, p5, p6⟩) ?_
    clear hK K
    (try simp only [Act.put, List.setIfInBounds_toArray, List.set_cons_zero, List.set_cons_succ])
    refine till_take (i := 49) (v := ?_) rfl (by kernel_rfl) (by kernel_rfl) (by kernel_rfl) (by kernel_rfl) (by kernel_rfl) (by kernel_rfl) (fun _ _ _ h => h) (Or.inl ⟨by kernel_rfl, ?_⟩) (⟨q0, q1, q2, q3, q4, q5, q6, p0, p1, p2, p3, p4, p5, p6⟩) ?_
    rotate_left
    · intro w hSw; (try dsimp only at hSw); (first | (go_simp; done) | (go_simp; with_reducible rfl))
    (try simp only [Act.put]); (try simp only [List.setIfInBounds_toArray])
    (try simp only [List.set_cons_succ, List.set_cons_zero])
    refine till_take (i := 50) (v := ?_) rfl (by kernel_rfl) (by kernel_rfl) (by kernel_rfl) (by kernel_rfl) (by kernel_rfl) (by kernel_rfl) (fun _ _ _ h => h) (Or.inl ⟨by kernel_rfl, ?_⟩) (⟨q0, q1, q2, q3, q4, q5, q6, p0, p1, p2, p3, p4, p5, p6⟩) ?_
    rotate_left
    · intro w hSw; (try dsimp only at hSw); (first | (go_simp; done) | (go_simp; with_reducible rfl))
    (try simp only [Act.put]); (try simp only [List.setIfInBounds_toArray])
    (try simp only [List.set_cons_succ, List.set_cons_zero])
    refine till_ready (rs := [51]) (by kernel_rfl) (by simp) ?_
    refine till_cons (i := 51) rfl (fun K hK => ?_) till_nil
    (try dsimp (config := { proj := false }) only [List.getElem_toArray, List.getElem_cons_succ, List.getElem_cons_zero])
    go_simp
    refine hK.out _ _ (fun h => (by simp at h)) ?_
    clear hK K
    (try simp only [Act.put, List.setIfInBounds_toArray, List.set_cons_zero, List.set_cons_succ])
    refine till_done (by kernel_rfl) ?_ _
    all_goals
      go_wp2_with fail
      go_ret
      exact ⟨rfl, (HM6.out.new A12.mod (fun i hi => hi ▸ HB3.out)).below⟩
  · have hr1 : (r == 0) = false := by simpa using hr0
    have hr2 : (r != 0) = true := by simpa using hr0
    go_wp2_with fail
    refine (tradeFirst w4).mono ?_
    rintro e w5 ⟨rfl, hm5⟩
    go_wp2_with fail
    go_ret
    exact ⟨rfl, (HM4.out.thenNil hm5).below⟩
end Go.Proofs.Ytdpaklpaanojpaa

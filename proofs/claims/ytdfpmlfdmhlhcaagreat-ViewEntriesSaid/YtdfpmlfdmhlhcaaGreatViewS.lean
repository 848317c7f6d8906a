/- view: statuses that are alike. (Printed by wip/tools/gen_views.py.) -/
import Derived.Test.YtdfpmlfdmhlhcaaGreatViewG
import Derived.Test.YtdfpmlfdmhlhcaaGreatPlanF
import Derived.Test.YtdfpmlfdmhlhcaaGreatItems
import Derived.Test.YtdfpmlfdmhlhcaaGreatSame
namespace Go.Proofs.YtdfpmlfdmhlhcaaGreat
open Go.RowKit
structure St where
  deal : Int
  place : Int
  l0 : List Int
  l1 : List Int
  l2 : List Int
  l3 : List Int
  verdict : Int
def St.few (s : St) : Prop := s.l0.length ≤ 100 ∧ s.l1.length ≤ 100 ∧ s.l2.length ≤ 100 ∧ s.l3.length ≤ 100
def IsSt (S : Nat → Prop) (w : World) (v : Value) (s : St) : Prop :=
  ∃ p0 c0 p1 c1 p2 c2 p3 c3, v = .agg #[.int .i64 s.deal, .int .i64 s.place, .slice p0 s.l0.length c0, .slice p1 s.l1.length c1, .slice p2 s.l2.length c2, .slice p3 s.l3.length c3, .int .i64 s.verdict] ∧
    IsRow S w (.slice p0 s.l0.length c0) (s.l0.map (.int .i64)) ∧ IsRow S w (.slice p1 s.l1.length c1) (s.l1.map (.int .i64)) ∧ IsRow S w (.slice p2 s.l2.length c2) (s.l2.map (.int .i64)) ∧ IsRow S w (.slice p3 s.l3.length c3) (s.l3.map (.int .i64))
theorem IsSt.mod {S T : Nat → Prop} {w w' : World} {v : Value} {s : St} (h : IsSt S w v s) (m : Mod T w w') (hs : ∀ k, k < w.heap.size → S k → ¬ T k) : IsSt S w' v s := by
  obtain ⟨p0, c0, p1, c1, p2, c2, p3, c3, hv, h0, h1, h2, h3⟩ := h
  exact ⟨p0, c0, p1, c1, p2, c2, p3, c3, hv, h0.mod m hs, h1.mod m hs, h2.mod m hs, h3.mod m hs⟩
theorem IsSt.modNil {S : Nat → Prop} {w w' : World} {v : Value} {s : St} (h : IsSt S w v s) (m : Mod nil w w') : IsSt S w' v s := h.mod m (fun _ _ _ f => f)
instance (a b : St) : Decidable (a = b) := by
  obtain ⟨a1, a2, a3, a4, a5, a6, a7⟩ := a
  obtain ⟨b1, b2, b3, b4, b5, b6, b7⟩ := b
  exact decidable_of_iff (a1 = b1 ∧ a2 = b2 ∧ a3 = b3 ∧ a4 = b4 ∧ a5 = b5 ∧ a6 = b6 ∧ a7 = b7) (by simp)
set_option maxRecDepth 100000 in
set_option maxHeartbeats 4000000 in
theorem viewSame (S T : Nat → Prop) (va vb : Value) (a b : St) (w : World) (ha : IsSt S w va a) (hb : IsSt T w vb b) (hf : a.few) :
    Calls Tryz.prog 17 #[va, vb] w fun e w' => e = .returned (.bool (decide (a = b))) ∧ Mod nil w w' := by
  refine (?_ : ∀ Post : Ending → World → Prop, Hid (∀ e w', (e = .returned (.bool (decide (a = b))) ∧ Mod nil w w') → Post e w') → Calls Tryz.prog 17 #[va, vb] w Post) _ (Lib.hid (fun _ _ h => h))
  intro Post HPOST
  obtain ⟨f0, f1, f2, f3⟩ := hf
  obtain ⟨p0, c0, p1, c1, p2, c2, p3, c3, rfl, a0, a1, a2, a3⟩ := ha
  obtain ⟨q0, d0, q1, d1, q2, d2, q3, d3, rfl, b0, b1, b2, b3⟩ := hb
  obtain ⟨xd, xp, l0, l1, l2, l3, xv⟩ := a
  obtain ⟨yd, yp, k0, k1, k2, k3, yv⟩ := b
  simp only at *
  obtain ⟨n0, hn0⟩ : ∃ n, l0.length = n := ⟨_, rfl⟩
  obtain ⟨m0, hm0⟩ : ∃ n, k0.length = n := ⟨_, rfl⟩
  rw [hn0] at a0 f0 ⊢
  rw [hm0] at b0 ⊢
  have A0 := Lib.hid a0
  have B0 := Lib.hid b0
  have N0 := Lib.hid hn0
  clear a0 b0 hn0 hm0
  obtain ⟨n1, hn1⟩ : ∃ n, l1.length = n := ⟨_, rfl⟩
  obtain ⟨m1, hm1⟩ : ∃ n, k1.length = n := ⟨_, rfl⟩
  rw [hn1] at a1 f1 ⊢
  rw [hm1] at b1 ⊢
  have A1 := Lib.hid a1
  have B1 := Lib.hid b1
  have N1 := Lib.hid hn1
  clear a1 b1 hn1 hm1
  obtain ⟨n2, hn2⟩ : ∃ n, l2.length = n := ⟨_, rfl⟩
  obtain ⟨m2, hm2⟩ : ∃ n, k2.length = n := ⟨_, rfl⟩
  rw [hn2] at a2 f2 ⊢
  rw [hm2] at b2 ⊢
  have A2 := Lib.hid a2
  have B2 := Lib.hid b2
  have N2 := Lib.hid hn2
  clear a2 b2 hn2 hm2
  obtain ⟨n3, hn3⟩ : ∃ n, l3.length = n := ⟨_, rfl⟩
  obtain ⟨m3, hm3⟩ : ∃ n, k3.length = n := ⟨_, rfl⟩
  rw [hn3] at a3 f3 ⊢
  rw [hm3] at b3 ⊢
  have A3 := Lib.hid a3
  have B3 := Lib.hid b3
  have N3 := Lib.hid hn3
  clear a3 b3 hn3 hm3
  obtain ⟨g, hg⟩ : ∃ g, w.heap.size = g := ⟨_, rfl⟩
  obtain ⟨w1, hw1⟩ : ∃ W, (w.alloc (.cells #[.int .i64 xd, .int .i64 xp, .slice p0 n0 c0, .slice p1 n1 c1, .slice p2 n2 c2, .slice p3 n3 c3, .int .i64 xv] 28)).alloc (.cells #[.int .i64 yd, .int .i64 yp, .slice q0 m0 d0, .slice q1 m1 d1, .slice q2 m2 d2, .slice q3 m3 d3, .int .i64 yv] 28) = W := ⟨_, rfl⟩
  have hm1 : Mod nil w w1 := by rw [← hw1]; exact ((Mod.refl _ _).alloc _).alloc _
  have hb1 : w1.heap[g]? = some (.cells #[.int .i64 xd, .int .i64 xp, .slice p0 n0 c0, .slice p1 n1 c1, .slice p2 n2 c2, .slice p3 n3 c3, .int .i64 xv] 28 (0, 0)) := by rw [← hw1, ← hg]; exact heap_alloc_old (heap_alloc_new _ _)
  have hb2 : w1.heap[g + 1]? = some (.cells #[.int .i64 yd, .int .i64 yp, .slice q0 m0 d0, .slice q1 m1 d1, .slice q2 m2 d2, .slice q3 m3 d3, .int .i64 yv] 28 (0, 0)) := by
    rw [← hw1, ← hg]
    have := heap_alloc_new (w.alloc (.cells #[.int .i64 xd, .int .i64 xp, .slice p0 n0 c0, .slice p1 n1 c1, .slice p2 n2 c2, .slice p3 n3 c3, .int .i64 xv] 28)) (.cells #[.int .i64 yd, .int .i64 yp, .slice q0 m0 d0, .slice q1 m1 d1, .slice q2 m2 d2, .slice q3 m3 d3, .int .i64 yv] 28)
    rw [World.size_alloc] at this
    exact this
  have HKEEP : Hid (∀ W, Mod nil w1 W → W.cell? ⟨g, 0, none⟩ = some (.int .i64 xd) ∧ W.cell? ⟨g, 1, none⟩ = some (.int .i64 xp) ∧ W.cell? ⟨g, 2, none⟩ = some (.slice p0 n0 c0) ∧ W.cell? ⟨g, 3, none⟩ = some (.slice p1 n1 c1) ∧ W.cell? ⟨g, 4, none⟩ = some (.slice p2 n2 c2) ∧ W.cell? ⟨g, 5, none⟩ = some (.slice p3 n3 c3) ∧ W.cell? ⟨g, 6, none⟩ = some (.int .i64 xv) ∧ W.cell? ⟨g + 1, 0, none⟩ = some (.int .i64 yd) ∧ W.cell? ⟨g + 1, 1, none⟩ = some (.int .i64 yp) ∧ W.cell? ⟨g + 1, 2, none⟩ = some (.slice q0 m0 d0) ∧ W.cell? ⟨g + 1, 3, none⟩ = some (.slice q1 m1 d1) ∧ W.cell? ⟨g + 1, 4, none⟩ = some (.slice q2 m2 d2) ∧ W.cell? ⟨g + 1, 5, none⟩ = some (.slice q3 m3 d3) ∧ W.cell? ⟨g + 1, 6, none⟩ = some (.int .i64 yv)) := Lib.hid (fun W m => by
    have e1 := m.keep hb1
    have e2 := m.keep hb2
    exact ⟨cell_of e1 0, cell_of e1 1, cell_of e1 2, cell_of e1 3, cell_of e1 4, cell_of e1 5, cell_of e1 6, cell_of e2 0, cell_of e2 1, cell_of e2 2, cell_of e2 3, cell_of e2 4, cell_of e2 5, cell_of e2 6⟩)
  obtain ⟨x0, x1, x2, x3, x4, x5, x6, y0, y1, y2, y3, y4, y5, y6⟩ := HKEEP.out w1 (Mod.refl _ _)
  have HM1 := Lib.hid hm1
  have HEND : Hid (∀ W r, Mod nil w W → decide ((⟨xd, xp, l0, l1, l2, l3, xv⟩ : St) = ⟨yd, yp, k0, k1, k2, k3, yv⟩) = r → Post (.returned (.bool r)) W) := Lib.hid (fun W r m e => HPOST.out _ _ ⟨by rw [e], m⟩)
  clear hm1 hb1 hb2
  by_cases h : xd = yd
  rotate_left
  · have HF := Lib.hid (show decide ((⟨xd, xp, l0, l1, l2, l3, xv⟩ : St) = ⟨yd, yp, k0, k1, k2, k3, yv⟩) = false from decide_eq_false (fun e => h (by simp only [St.mk.injEq] at e; simp_all)))
    have hne : (xd == yd) = false := by simpa using h
    clear h
    go_enter Tryz.func17, Tryz.ntmps17
    go_upto_region 1 with (fail)
    (try rw [hg])
    (try rw [hw1])
    clear hw1 hg
    go_wp2_with fail
    exact HEND.out _ _ HM1.out HF.out
  subst h
  by_cases h : xp = yp
  rotate_left
  · have HF := Lib.hid (show decide ((⟨xd, xp, l0, l1, l2, l3, xv⟩ : St) = ⟨xd, yp, k0, k1, k2, k3, yv⟩) = false from decide_eq_false (fun e => h (by simp only [St.mk.injEq] at e; simp_all)))
    have hne : (xp == yp) = false := by simpa using h
    clear h
    go_enter Tryz.func17, Tryz.ntmps17
    go_upto_region 1 with (fail)
    (try rw [hg])
    (try rw [hw1])
    clear hw1 hg
    go_wp2_with fail
    exact HEND.out _ _ HM1.out HF.out
  subst h
  by_cases h : xv = yv
  rotate_left
  · have HF := Lib.hid (show decide ((⟨xd, xp, l0, l1, l2, l3, xv⟩ : St) = ⟨xd, xp, k0, k1, k2, k3, yv⟩) = false from decide_eq_false (fun e => h (by simp only [St.mk.injEq] at e; simp_all)))
    have hne : (xv == yv) = false := by simpa using h
    clear h
    go_enter Tryz.func17, Tryz.ntmps17
    go_upto_region 1 with (fail)
    (try rw [hg])
    (try rw [hw1])
    clear hw1 hg
    go_wp2_with fail
    exact HEND.out _ _ HM1.out HF.out
  subst h
  by_cases h : l0 = k0
  rotate_left
  · have HF := Lib.hid (show decide ((⟨xd, xp, l0, l1, l2, l3, xv⟩ : St) = ⟨xd, xp, k0, k1, k2, k3, xv⟩) = false from decide_eq_false (fun e => h (by simp only [St.mk.injEq] at e; simp_all)))
    go_enter Tryz.func17, Tryz.ntmps17
    go_upto_region 1 with (fail)
    (try rw [hg])
    (try rw [hw1])
    clear hw1 hg
    go_wp2_with fail
    refine (equalInts _ _ _ _ _ _ _ _ _ _ w1 (A0.out.modNil HM1.out) (B0.out.modNil HM1.out) (by omega)).mono ?_
    rw [decide_eq_false h]
    rintro e w2 ⟨rfl, hmk⟩
    have HK2 : Hid (Mod nil w1 w2) := Lib.hid (hmk)
    have HM2 : Hid (Mod nil w w2) := Lib.hid (HM1.out.thenNil hmk)
    clear x0 x1 x2 x3 x4 x5 x6 y0 y1 y2 y3 y4 y5 y6 hmk
    obtain ⟨x0, x1, x2, x3, x4, x5, x6, y0, y1, y2, y3, y4, y5, y6⟩ := HKEEP.out w2 HK2.out
    go_wp2_with fail
    exact HEND.out _ _ HM2.out HF.out
  subst h
  by_cases h : l1 = k1
  rotate_left
  · have HF := Lib.hid (show decide ((⟨xd, xp, l0, l1, l2, l3, xv⟩ : St) = ⟨xd, xp, l0, k1, k2, k3, xv⟩) = false from decide_eq_false (fun e => h (by simp only [St.mk.injEq] at e; simp_all)))
    go_enter Tryz.func17, Tryz.ntmps17
    go_upto_region 1 with (fail)
    (try rw [hg])
    (try rw [hw1])
    clear hw1 hg
    go_wp2_with fail
    refine (equalInts _ _ _ _ _ _ _ _ _ _ w1 (A0.out.modNil HM1.out) (B0.out.modNil HM1.out) (by omega)).mono ?_
    rw [decide_eq_true rfl]
    rintro e w2 ⟨rfl, hmk⟩
    have HK2 : Hid (Mod nil w1 w2) := Lib.hid (hmk)
    have HM2 : Hid (Mod nil w w2) := Lib.hid (HM1.out.thenNil hmk)
    clear x0 x1 x2 x3 x4 x5 x6 y0 y1 y2 y3 y4 y5 y6 hmk
    obtain ⟨x0, x1, x2, x3, x4, x5, x6, y0, y1, y2, y3, y4, y5, y6⟩ := HKEEP.out w2 HK2.out
    go_wp2_with fail
    refine (equalInts _ _ _ _ _ _ _ _ _ _ w2 (A1.out.modNil HM2.out) (B1.out.modNil HM2.out) (by omega)).mono ?_
    rw [decide_eq_false h]
    rintro e w3 ⟨rfl, hmk⟩
    have HK3 : Hid (Mod nil w1 w3) := Lib.hid (HK2.out.thenNil hmk)
    have HM3 : Hid (Mod nil w w3) := Lib.hid (HM2.out.thenNil hmk)
    clear x0 x1 x2 x3 x4 x5 x6 y0 y1 y2 y3 y4 y5 y6 hmk
    obtain ⟨x0, x1, x2, x3, x4, x5, x6, y0, y1, y2, y3, y4, y5, y6⟩ := HKEEP.out w3 HK3.out
    go_wp2_with fail
    exact HEND.out _ _ HM3.out HF.out
  subst h
  by_cases h : l2 = k2
  rotate_left
  · have HF := Lib.hid (show decide ((⟨xd, xp, l0, l1, l2, l3, xv⟩ : St) = ⟨xd, xp, l0, l1, k2, k3, xv⟩) = false from decide_eq_false (fun e => h (by simp only [St.mk.injEq] at e; simp_all)))
    go_enter Tryz.func17, Tryz.ntmps17
    go_upto_region 1 with (fail)
    (try rw [hg])
    (try rw [hw1])
    clear hw1 hg
    go_wp2_with fail
    refine (equalInts _ _ _ _ _ _ _ _ _ _ w1 (A0.out.modNil HM1.out) (B0.out.modNil HM1.out) (by omega)).mono ?_
    rw [decide_eq_true rfl]
    rintro e w2 ⟨rfl, hmk⟩
    have HK2 : Hid (Mod nil w1 w2) := Lib.hid (hmk)
    have HM2 : Hid (Mod nil w w2) := Lib.hid (HM1.out.thenNil hmk)
    clear x0 x1 x2 x3 x4 x5 x6 y0 y1 y2 y3 y4 y5 y6 hmk
    obtain ⟨x0, x1, x2, x3, x4, x5, x6, y0, y1, y2, y3, y4, y5, y6⟩ := HKEEP.out w2 HK2.out
    go_wp2_with fail
    refine (equalInts _ _ _ _ _ _ _ _ _ _ w2 (A1.out.modNil HM2.out) (B1.out.modNil HM2.out) (by omega)).mono ?_
    rw [decide_eq_true rfl]
    rintro e w3 ⟨rfl, hmk⟩
    have HK3 : Hid (Mod nil w1 w3) := Lib.hid (HK2.out.thenNil hmk)
    have HM3 : Hid (Mod nil w w3) := Lib.hid (HM2.out.thenNil hmk)
    clear x0 x1 x2 x3 x4 x5 x6 y0 y1 y2 y3 y4 y5 y6 hmk
    obtain ⟨x0, x1, x2, x3, x4, x5, x6, y0, y1, y2, y3, y4, y5, y6⟩ := HKEEP.out w3 HK3.out
    go_wp2_with fail
    refine (equalInts _ _ _ _ _ _ _ _ _ _ w3 (A2.out.modNil HM3.out) (B2.out.modNil HM3.out) (by omega)).mono ?_
    rw [decide_eq_false h]
    rintro e w4 ⟨rfl, hmk⟩
    have HK4 : Hid (Mod nil w1 w4) := Lib.hid (HK3.out.thenNil hmk)
    have HM4 : Hid (Mod nil w w4) := Lib.hid (HM3.out.thenNil hmk)
    clear x0 x1 x2 x3 x4 x5 x6 y0 y1 y2 y3 y4 y5 y6 hmk
    obtain ⟨x0, x1, x2, x3, x4, x5, x6, y0, y1, y2, y3, y4, y5, y6⟩ := HKEEP.out w4 HK4.out
    go_wp2_with fail
    exact HEND.out _ _ HM4.out HF.out
  subst h
  by_cases h : l3 = k3
  rotate_left
  · have HF := Lib.hid (show decide ((⟨xd, xp, l0, l1, l2, l3, xv⟩ : St) = ⟨xd, xp, l0, l1, l2, k3, xv⟩) = false from decide_eq_false (fun e => h (by simp only [St.mk.injEq] at e; simp_all)))
    go_enter Tryz.func17, Tryz.ntmps17
    go_upto_region 1 with (fail)
    (try rw [hg])
    (try rw [hw1])
    clear hw1 hg
    go_wp2_with fail
    refine (equalInts _ _ _ _ _ _ _ _ _ _ w1 (A0.out.modNil HM1.out) (B0.out.modNil HM1.out) (by omega)).mono ?_
    rw [decide_eq_true rfl]
    rintro e w2 ⟨rfl, hmk⟩
    have HK2 : Hid (Mod nil w1 w2) := Lib.hid (hmk)
    have HM2 : Hid (Mod nil w w2) := Lib.hid (HM1.out.thenNil hmk)
    clear x0 x1 x2 x3 x4 x5 x6 y0 y1 y2 y3 y4 y5 y6 hmk
    obtain ⟨x0, x1, x2, x3, x4, x5, x6, y0, y1, y2, y3, y4, y5, y6⟩ := HKEEP.out w2 HK2.out
    go_wp2_with fail
    refine (equalInts _ _ _ _ _ _ _ _ _ _ w2 (A1.out.modNil HM2.out) (B1.out.modNil HM2.out) (by omega)).mono ?_
    rw [decide_eq_true rfl]
    rintro e w3 ⟨rfl, hmk⟩
    have HK3 : Hid (Mod nil w1 w3) := Lib.hid (HK2.out.thenNil hmk)
    have HM3 : Hid (Mod nil w w3) := Lib.hid (HM2.out.thenNil hmk)
    clear x0 x1 x2 x3 x4 x5 x6 y0 y1 y2 y3 y4 y5 y6 hmk
    obtain ⟨x0, x1, x2, x3, x4, x5, x6, y0, y1, y2, y3, y4, y5, y6⟩ := HKEEP.out w3 HK3.out
    go_wp2_with fail
    refine (equalInts _ _ _ _ _ _ _ _ _ _ w3 (A2.out.modNil HM3.out) (B2.out.modNil HM3.out) (by omega)).mono ?_
    rw [decide_eq_true rfl]
    rintro e w4 ⟨rfl, hmk⟩
    have HK4 : Hid (Mod nil w1 w4) := Lib.hid (HK3.out.thenNil hmk)
    have HM4 : Hid (Mod nil w w4) := Lib.hid (HM3.out.thenNil hmk)
    clear x0 x1 x2 x3 x4 x5 x6 y0 y1 y2 y3 y4 y5 y6 hmk
    obtain ⟨x0, x1, x2, x3, x4, x5, x6, y0, y1, y2, y3, y4, y5, y6⟩ := HKEEP.out w4 HK4.out
    go_wp2_with fail
    refine (equalInts _ _ _ _ _ _ _ _ _ _ w4 (A3.out.modNil HM4.out) (B3.out.modNil HM4.out) (by omega)).mono ?_
    rw [decide_eq_false h]
    rintro e w5 ⟨rfl, hmk⟩
    have HK5 : Hid (Mod nil w1 w5) := Lib.hid (HK4.out.thenNil hmk)
    have HM5 : Hid (Mod nil w w5) := Lib.hid (HM4.out.thenNil hmk)
    clear x0 x1 x2 x3 x4 x5 x6 y0 y1 y2 y3 y4 y5 y6 hmk
    obtain ⟨x0, x1, x2, x3, x4, x5, x6, y0, y1, y2, y3, y4, y5, y6⟩ := HKEEP.out w5 HK5.out
    go_wp2_with fail
    exact HEND.out _ _ HM5.out HF.out
  subst h
  have HF := Lib.hid (show decide ((⟨xd, xp, l0, l1, l2, l3, xv⟩ : St) = ⟨xd, xp, l0, l1, l2, l3, xv⟩) = true from decide_eq_true rfl)
  go_enter Tryz.func17, Tryz.ntmps17
  go_upto_region 1 with (fail)
  (try rw [hg])
  (try rw [hw1])
  clear hw1 hg
  go_wp2_with fail
  refine (equalInts _ _ _ _ _ _ _ _ _ _ w1 (A0.out.modNil HM1.out) (B0.out.modNil HM1.out) (by omega)).mono ?_
  rw [decide_eq_true rfl]
  rintro e w2 ⟨rfl, hmk⟩
  have HK2 : Hid (Mod nil w1 w2) := Lib.hid (hmk)
  have HM2 : Hid (Mod nil w w2) := Lib.hid (HM1.out.thenNil hmk)
  clear x0 x1 x2 x3 x4 x5 x6 y0 y1 y2 y3 y4 y5 y6 hmk
  obtain ⟨x0, x1, x2, x3, x4, x5, x6, y0, y1, y2, y3, y4, y5, y6⟩ := HKEEP.out w2 HK2.out
  go_wp2_with fail
  refine (equalInts _ _ _ _ _ _ _ _ _ _ w2 (A1.out.modNil HM2.out) (B1.out.modNil HM2.out) (by omega)).mono ?_
  rw [decide_eq_true rfl]
  rintro e w3 ⟨rfl, hmk⟩
  have HK3 : Hid (Mod nil w1 w3) := Lib.hid (HK2.out.thenNil hmk)
  have HM3 : Hid (Mod nil w w3) := Lib.hid (HM2.out.thenNil hmk)
  clear x0 x1 x2 x3 x4 x5 x6 y0 y1 y2 y3 y4 y5 y6 hmk
  obtain ⟨x0, x1, x2, x3, x4, x5, x6, y0, y1, y2, y3, y4, y5, y6⟩ := HKEEP.out w3 HK3.out
  go_wp2_with fail
  refine (equalInts _ _ _ _ _ _ _ _ _ _ w3 (A2.out.modNil HM3.out) (B2.out.modNil HM3.out) (by omega)).mono ?_
  rw [decide_eq_true rfl]
  rintro e w4 ⟨rfl, hmk⟩
  have HK4 : Hid (Mod nil w1 w4) := Lib.hid (HK3.out.thenNil hmk)
  have HM4 : Hid (Mod nil w w4) := Lib.hid (HM3.out.thenNil hmk)
  clear x0 x1 x2 x3 x4 x5 x6 y0 y1 y2 y3 y4 y5 y6 hmk
  obtain ⟨x0, x1, x2, x3, x4, x5, x6, y0, y1, y2, y3, y4, y5, y6⟩ := HKEEP.out w4 HK4.out
  go_wp2_with fail
  refine (equalInts _ _ _ _ _ _ _ _ _ _ w4 (A3.out.modNil HM4.out) (B3.out.modNil HM4.out) (by omega)).mono ?_
  rw [decide_eq_true rfl]
  rintro e w5 ⟨rfl, hmk⟩
  have HK5 : Hid (Mod nil w1 w5) := Lib.hid (HK4.out.thenNil hmk)
  have HM5 : Hid (Mod nil w w5) := Lib.hid (HM4.out.thenNil hmk)
  clear x0 x1 x2 x3 x4 x5 x6 y0 y1 y2 y3 y4 y5 y6 hmk
  obtain ⟨x0, x1, x2, x3, x4, x5, x6, y0, y1, y2, y3, y4, y5, y6⟩ := HKEEP.out w5 HK5.out
  go_wp2_with fail
  exact HEND.out _ _ HM5.out HF.out
set_option maxRecDepth 100000 in
set_option maxHeartbeats 4000000 in
theorem refSameStatus (S T : Nat → Prop) (va vb : Value) (a b : St) (w : World) (ha : IsSt S w va a) (hb : IsSt T w vb b) (hf : a.few) :
    Calls Tryz.prog 18 #[va, vb] w fun e w' => e = .returned (.bool (decide (a = b))) ∧ Mod nil w w' := by
  refine (?_ : ∀ Post : Ending → World → Prop, Hid (∀ e w', (e = .returned (.bool (decide (a = b))) ∧ Mod nil w w') → Post e w') → Calls Tryz.prog 18 #[va, vb] w Post) _ (Lib.hid (fun _ _ h => h))
  intro Post HPOST
  obtain ⟨f0, f1, f2, f3⟩ := hf
  obtain ⟨p0, c0, p1, c1, p2, c2, p3, c3, rfl, a0, a1, a2, a3⟩ := ha
  obtain ⟨q0, d0, q1, d1, q2, d2, q3, d3, rfl, b0, b1, b2, b3⟩ := hb
  obtain ⟨xd, xp, l0, l1, l2, l3, xv⟩ := a
  obtain ⟨yd, yp, k0, k1, k2, k3, yv⟩ := b
  simp only at *
  obtain ⟨n0, hn0⟩ : ∃ n, l0.length = n := ⟨_, rfl⟩
  obtain ⟨m0, hm0⟩ : ∃ n, k0.length = n := ⟨_, rfl⟩
  rw [hn0] at a0 f0 ⊢
  rw [hm0] at b0 ⊢
  have A0 := Lib.hid a0
  have B0 := Lib.hid b0
  have N0 := Lib.hid hn0
  clear a0 b0 hn0 hm0
  obtain ⟨n1, hn1⟩ : ∃ n, l1.length = n := ⟨_, rfl⟩
  obtain ⟨m1, hm1⟩ : ∃ n, k1.length = n := ⟨_, rfl⟩
  rw [hn1] at a1 f1 ⊢
  rw [hm1] at b1 ⊢
  have A1 := Lib.hid a1
  have B1 := Lib.hid b1
  have N1 := Lib.hid hn1
  clear a1 b1 hn1 hm1
  obtain ⟨n2, hn2⟩ : ∃ n, l2.length = n := ⟨_, rfl⟩
  obtain ⟨m2, hm2⟩ : ∃ n, k2.length = n := ⟨_, rfl⟩
  rw [hn2] at a2 f2 ⊢
  rw [hm2] at b2 ⊢
  have A2 := Lib.hid a2
  have B2 := Lib.hid b2
  have N2 := Lib.hid hn2
  clear a2 b2 hn2 hm2
  obtain ⟨n3, hn3⟩ : ∃ n, l3.length = n := ⟨_, rfl⟩
  obtain ⟨m3, hm3⟩ : ∃ n, k3.length = n := ⟨_, rfl⟩
  rw [hn3] at a3 f3 ⊢
  rw [hm3] at b3 ⊢
  have A3 := Lib.hid a3
  have B3 := Lib.hid b3
  have N3 := Lib.hid hn3
  clear a3 b3 hn3 hm3
  obtain ⟨g, hg⟩ : ∃ g, w.heap.size = g := ⟨_, rfl⟩
  obtain ⟨w1, hw1⟩ : ∃ W, (w.alloc (.cells #[.int .i64 xd, .int .i64 xp, .slice p0 n0 c0, .slice p1 n1 c1, .slice p2 n2 c2, .slice p3 n3 c3, .int .i64 xv] 28)).alloc (.cells #[.int .i64 yd, .int .i64 yp, .slice q0 m0 d0, .slice q1 m1 d1, .slice q2 m2 d2, .slice q3 m3 d3, .int .i64 yv] 28) = W := ⟨_, rfl⟩
  have hm1 : Mod nil w w1 := by rw [← hw1]; exact ((Mod.refl _ _).alloc _).alloc _
  have hb1 : w1.heap[g]? = some (.cells #[.int .i64 xd, .int .i64 xp, .slice p0 n0 c0, .slice p1 n1 c1, .slice p2 n2 c2, .slice p3 n3 c3, .int .i64 xv] 28 (0, 0)) := by rw [← hw1, ← hg]; exact heap_alloc_old (heap_alloc_new _ _)
  have hb2 : w1.heap[g + 1]? = some (.cells #[.int .i64 yd, .int .i64 yp, .slice q0 m0 d0, .slice q1 m1 d1, .slice q2 m2 d2, .slice q3 m3 d3, .int .i64 yv] 28 (0, 0)) := by
    rw [← hw1, ← hg]
    have := heap_alloc_new (w.alloc (.cells #[.int .i64 xd, .int .i64 xp, .slice p0 n0 c0, .slice p1 n1 c1, .slice p2 n2 c2, .slice p3 n3 c3, .int .i64 xv] 28)) (.cells #[.int .i64 yd, .int .i64 yp, .slice q0 m0 d0, .slice q1 m1 d1, .slice q2 m2 d2, .slice q3 m3 d3, .int .i64 yv] 28)
    rw [World.size_alloc] at this
    exact this
  have HKEEP : Hid (∀ W, Mod nil w1 W → W.cell? ⟨g, 0, none⟩ = some (.int .i64 xd) ∧ W.cell? ⟨g, 1, none⟩ = some (.int .i64 xp) ∧ W.cell? ⟨g, 2, none⟩ = some (.slice p0 n0 c0) ∧ W.cell? ⟨g, 3, none⟩ = some (.slice p1 n1 c1) ∧ W.cell? ⟨g, 4, none⟩ = some (.slice p2 n2 c2) ∧ W.cell? ⟨g, 5, none⟩ = some (.slice p3 n3 c3) ∧ W.cell? ⟨g, 6, none⟩ = some (.int .i64 xv) ∧ W.cell? ⟨g + 1, 0, none⟩ = some (.int .i64 yd) ∧ W.cell? ⟨g + 1, 1, none⟩ = some (.int .i64 yp) ∧ W.cell? ⟨g + 1, 2, none⟩ = some (.slice q0 m0 d0) ∧ W.cell? ⟨g + 1, 3, none⟩ = some (.slice q1 m1 d1) ∧ W.cell? ⟨g + 1, 4, none⟩ = some (.slice q2 m2 d2) ∧ W.cell? ⟨g + 1, 5, none⟩ = some (.slice q3 m3 d3) ∧ W.cell? ⟨g + 1, 6, none⟩ = some (.int .i64 yv)) := Lib.hid (fun W m => by
    have e1 := m.keep hb1
    have e2 := m.keep hb2
    exact ⟨cell_of e1 0, cell_of e1 1, cell_of e1 2, cell_of e1 3, cell_of e1 4, cell_of e1 5, cell_of e1 6, cell_of e2 0, cell_of e2 1, cell_of e2 2, cell_of e2 3, cell_of e2 4, cell_of e2 5, cell_of e2 6⟩)
  obtain ⟨x0, x1, x2, x3, x4, x5, x6, y0, y1, y2, y3, y4, y5, y6⟩ := HKEEP.out w1 (Mod.refl _ _)
  have HM1 := Lib.hid hm1
  have HEND : Hid (∀ W r, Mod nil w W → decide ((⟨xd, xp, l0, l1, l2, l3, xv⟩ : St) = ⟨yd, yp, k0, k1, k2, k3, yv⟩) = r → Post (.returned (.bool r)) W) := Lib.hid (fun W r m e => HPOST.out _ _ ⟨by rw [e], m⟩)
  clear hm1 hb1 hb2
  by_cases h : xd = yd
  rotate_left
  · have HF := Lib.hid (show decide ((⟨xd, xp, l0, l1, l2, l3, xv⟩ : St) = ⟨yd, yp, k0, k1, k2, k3, yv⟩) = false from decide_eq_false (fun e => h (by simp only [St.mk.injEq] at e; simp_all)))
    have hne : (xd == yd) = false := by simpa using h
    clear h
    go_enter Tryz.func18, Tryz.ntmps18
    go_upto_region 1 with (fail)
    (try rw [hg])
    (try rw [hw1])
    clear hw1 hg
    go_wp2_with fail
    exact HEND.out _ _ HM1.out HF.out
  subst h
  by_cases h : xp = yp
  rotate_left
  · have HF := Lib.hid (show decide ((⟨xd, xp, l0, l1, l2, l3, xv⟩ : St) = ⟨xd, yp, k0, k1, k2, k3, yv⟩) = false from decide_eq_false (fun e => h (by simp only [St.mk.injEq] at e; simp_all)))
    have hne : (xp == yp) = false := by simpa using h
    clear h
    go_enter Tryz.func18, Tryz.ntmps18
    go_upto_region 1 with (fail)
    (try rw [hg])
    (try rw [hw1])
    clear hw1 hg
    go_wp2_with fail
    exact HEND.out _ _ HM1.out HF.out
  subst h
  by_cases h : l0 = k0
  rotate_left
  · have HF := Lib.hid (show decide ((⟨xd, xp, l0, l1, l2, l3, xv⟩ : St) = ⟨xd, xp, k0, k1, k2, k3, yv⟩) = false from decide_eq_false (fun e => h (by simp only [St.mk.injEq] at e; simp_all)))
    go_enter Tryz.func18, Tryz.ntmps18
    go_upto_region 1 with (fail)
    (try rw [hg])
    (try rw [hw1])
    clear hw1 hg
    go_wp2_with fail
    refine (refInts _ _ _ _ _ _ w1 (A0.out.modNil HM1.out) (B0.out.modNil HM1.out) (by rw [N0.out]; omega)).mono ?_
    rw [decide_eq_false h]
    rintro e w2 ⟨rfl, nn, hwk⟩
    have hmk : Mod nil w1 w2 := by rw [hwk]; exact (Mod.refl _ _).drewN _
    clear hwk
    have HK2 : Hid (Mod nil w1 w2) := Lib.hid (hmk)
    have HM2 : Hid (Mod nil w w2) := Lib.hid (HM1.out.thenNil hmk)
    clear x0 x1 x2 x3 x4 x5 x6 y0 y1 y2 y3 y4 y5 y6 hmk
    obtain ⟨x0, x1, x2, x3, x4, x5, x6, y0, y1, y2, y3, y4, y5, y6⟩ := HKEEP.out w2 HK2.out
    go_wp2_with fail
    exact HEND.out _ _ HM2.out HF.out
  subst h
  by_cases h : l1 = k1
  rotate_left
  · have HF := Lib.hid (show decide ((⟨xd, xp, l0, l1, l2, l3, xv⟩ : St) = ⟨xd, xp, l0, k1, k2, k3, yv⟩) = false from decide_eq_false (fun e => h (by simp only [St.mk.injEq] at e; simp_all)))
    go_enter Tryz.func18, Tryz.ntmps18
    go_upto_region 1 with (fail)
    (try rw [hg])
    (try rw [hw1])
    clear hw1 hg
    go_wp2_with fail
    refine (refInts _ _ _ _ _ _ w1 (A0.out.modNil HM1.out) (B0.out.modNil HM1.out) (by rw [N0.out]; omega)).mono ?_
    rw [decide_eq_true rfl]
    rintro e w2 ⟨rfl, nn, hwk⟩
    have hmk : Mod nil w1 w2 := by rw [hwk]; exact (Mod.refl _ _).drewN _
    clear hwk
    have HK2 : Hid (Mod nil w1 w2) := Lib.hid (hmk)
    have HM2 : Hid (Mod nil w w2) := Lib.hid (HM1.out.thenNil hmk)
    clear x0 x1 x2 x3 x4 x5 x6 y0 y1 y2 y3 y4 y5 y6 hmk
    obtain ⟨x0, x1, x2, x3, x4, x5, x6, y0, y1, y2, y3, y4, y5, y6⟩ := HKEEP.out w2 HK2.out
    go_wp2_with fail
    refine (refInts _ _ _ _ _ _ w2 (A1.out.modNil HM2.out) (B1.out.modNil HM2.out) (by rw [N1.out]; omega)).mono ?_
    rw [decide_eq_false h]
    rintro e w3 ⟨rfl, nn, hwk⟩
    have hmk : Mod nil w2 w3 := by rw [hwk]; exact (Mod.refl _ _).drewN _
    clear hwk
    have HK3 : Hid (Mod nil w1 w3) := Lib.hid (HK2.out.thenNil hmk)
    have HM3 : Hid (Mod nil w w3) := Lib.hid (HM2.out.thenNil hmk)
    clear x0 x1 x2 x3 x4 x5 x6 y0 y1 y2 y3 y4 y5 y6 hmk
    obtain ⟨x0, x1, x2, x3, x4, x5, x6, y0, y1, y2, y3, y4, y5, y6⟩ := HKEEP.out w3 HK3.out
    go_wp2_with fail
    exact HEND.out _ _ HM3.out HF.out
  subst h
  by_cases h : l2 = k2
  rotate_left
  · have HF := Lib.hid (show decide ((⟨xd, xp, l0, l1, l2, l3, xv⟩ : St) = ⟨xd, xp, l0, l1, k2, k3, yv⟩) = false from decide_eq_false (fun e => h (by simp only [St.mk.injEq] at e; simp_all)))
    go_enter Tryz.func18, Tryz.ntmps18
    go_upto_region 1 with (fail)
    (try rw [hg])
    (try rw [hw1])
    clear hw1 hg
    go_wp2_with fail
    refine (refInts _ _ _ _ _ _ w1 (A0.out.modNil HM1.out) (B0.out.modNil HM1.out) (by rw [N0.out]; omega)).mono ?_
    rw [decide_eq_true rfl]
    rintro e w2 ⟨rfl, nn, hwk⟩
    have hmk : Mod nil w1 w2 := by rw [hwk]; exact (Mod.refl _ _).drewN _
    clear hwk
    have HK2 : Hid (Mod nil w1 w2) := Lib.hid (hmk)
    have HM2 : Hid (Mod nil w w2) := Lib.hid (HM1.out.thenNil hmk)
    clear x0 x1 x2 x3 x4 x5 x6 y0 y1 y2 y3 y4 y5 y6 hmk
    obtain ⟨x0, x1, x2, x3, x4, x5, x6, y0, y1, y2, y3, y4, y5, y6⟩ := HKEEP.out w2 HK2.out
    go_wp2_with fail
    refine (refInts _ _ _ _ _ _ w2 (A1.out.modNil HM2.out) (B1.out.modNil HM2.out) (by rw [N1.out]; omega)).mono ?_
    rw [decide_eq_true rfl]
    rintro e w3 ⟨rfl, nn, hwk⟩
    have hmk : Mod nil w2 w3 := by rw [hwk]; exact (Mod.refl _ _).drewN _
    clear hwk
    have HK3 : Hid (Mod nil w1 w3) := Lib.hid (HK2.out.thenNil hmk)
    have HM3 : Hid (Mod nil w w3) := Lib.hid (HM2.out.thenNil hmk)
    clear x0 x1 x2 x3 x4 x5 x6 y0 y1 y2 y3 y4 y5 y6 hmk
    obtain ⟨x0, x1, x2, x3, x4, x5, x6, y0, y1, y2, y3, y4, y5, y6⟩ := HKEEP.out w3 HK3.out
    go_wp2_with fail
    refine (refInts _ _ _ _ _ _ w3 (A2.out.modNil HM3.out) (B2.out.modNil HM3.out) (by rw [N2.out]; omega)).mono ?_
    rw [decide_eq_false h]
    rintro e w4 ⟨rfl, nn, hwk⟩
    have hmk : Mod nil w3 w4 := by rw [hwk]; exact (Mod.refl _ _).drewN _
    clear hwk
    have HK4 : Hid (Mod nil w1 w4) := Lib.hid (HK3.out.thenNil hmk)
    have HM4 : Hid (Mod nil w w4) := Lib.hid (HM3.out.thenNil hmk)
    clear x0 x1 x2 x3 x4 x5 x6 y0 y1 y2 y3 y4 y5 y6 hmk
    obtain ⟨x0, x1, x2, x3, x4, x5, x6, y0, y1, y2, y3, y4, y5, y6⟩ := HKEEP.out w4 HK4.out
    go_wp2_with fail
    exact HEND.out _ _ HM4.out HF.out
  subst h
  by_cases h : l3 = k3
  rotate_left
  · have HF := Lib.hid (show decide ((⟨xd, xp, l0, l1, l2, l3, xv⟩ : St) = ⟨xd, xp, l0, l1, l2, k3, yv⟩) = false from decide_eq_false (fun e => h (by simp only [St.mk.injEq] at e; simp_all)))
    go_enter Tryz.func18, Tryz.ntmps18
    go_upto_region 1 with (fail)
    (try rw [hg])
    (try rw [hw1])
    clear hw1 hg
    go_wp2_with fail
    refine (refInts _ _ _ _ _ _ w1 (A0.out.modNil HM1.out) (B0.out.modNil HM1.out) (by rw [N0.out]; omega)).mono ?_
    rw [decide_eq_true rfl]
    rintro e w2 ⟨rfl, nn, hwk⟩
    have hmk : Mod nil w1 w2 := by rw [hwk]; exact (Mod.refl _ _).drewN _
    clear hwk
    have HK2 : Hid (Mod nil w1 w2) := Lib.hid (hmk)
    have HM2 : Hid (Mod nil w w2) := Lib.hid (HM1.out.thenNil hmk)
    clear x0 x1 x2 x3 x4 x5 x6 y0 y1 y2 y3 y4 y5 y6 hmk
    obtain ⟨x0, x1, x2, x3, x4, x5, x6, y0, y1, y2, y3, y4, y5, y6⟩ := HKEEP.out w2 HK2.out
    go_wp2_with fail
    refine (refInts _ _ _ _ _ _ w2 (A1.out.modNil HM2.out) (B1.out.modNil HM2.out) (by rw [N1.out]; omega)).mono ?_
    rw [decide_eq_true rfl]
    rintro e w3 ⟨rfl, nn, hwk⟩
    have hmk : Mod nil w2 w3 := by rw [hwk]; exact (Mod.refl _ _).drewN _
    clear hwk
    have HK3 : Hid (Mod nil w1 w3) := Lib.hid (HK2.out.thenNil hmk)
    have HM3 : Hid (Mod nil w w3) := Lib.hid (HM2.out.thenNil hmk)
    clear x0 x1 x2 x3 x4 x5 x6 y0 y1 y2 y3 y4 y5 y6 hmk
    obtain ⟨x0, x1, x2, x3, x4, x5, x6, y0, y1, y2, y3, y4, y5, y6⟩ := HKEEP.out w3 HK3.out
    go_wp2_with fail
    refine (refInts _ _ _ _ _ _ w3 (A2.out.modNil HM3.out) (B2.out.modNil HM3.out) (by rw [N2.out]; omega)).mono ?_
    rw [decide_eq_true rfl]
    rintro e w4 ⟨rfl, nn, hwk⟩
    have hmk : Mod nil w3 w4 := by rw [hwk]; exact (Mod.refl _ _).drewN _
    clear hwk
    have HK4 : Hid (Mod nil w1 w4) := Lib.hid (HK3.out.thenNil hmk)
    have HM4 : Hid (Mod nil w w4) := Lib.hid (HM3.out.thenNil hmk)
    clear x0 x1 x2 x3 x4 x5 x6 y0 y1 y2 y3 y4 y5 y6 hmk
    obtain ⟨x0, x1, x2, x3, x4, x5, x6, y0, y1, y2, y3, y4, y5, y6⟩ := HKEEP.out w4 HK4.out
    go_wp2_with fail
    refine (refInts _ _ _ _ _ _ w4 (A3.out.modNil HM4.out) (B3.out.modNil HM4.out) (by rw [N3.out]; omega)).mono ?_
    rw [decide_eq_false h]
    rintro e w5 ⟨rfl, nn, hwk⟩
    have hmk : Mod nil w4 w5 := by rw [hwk]; exact (Mod.refl _ _).drewN _
    clear hwk
    have HK5 : Hid (Mod nil w1 w5) := Lib.hid (HK4.out.thenNil hmk)
    have HM5 : Hid (Mod nil w w5) := Lib.hid (HM4.out.thenNil hmk)
    clear x0 x1 x2 x3 x4 x5 x6 y0 y1 y2 y3 y4 y5 y6 hmk
    obtain ⟨x0, x1, x2, x3, x4, x5, x6, y0, y1, y2, y3, y4, y5, y6⟩ := HKEEP.out w5 HK5.out
    go_wp2_with fail
    exact HEND.out _ _ HM5.out HF.out
  subst h
  by_cases h : xv = yv
  rotate_left
  · have HF := Lib.hid (show decide ((⟨xd, xp, l0, l1, l2, l3, xv⟩ : St) = ⟨xd, xp, l0, l1, l2, l3, yv⟩) = false from decide_eq_false (fun e => h (by simp only [St.mk.injEq] at e; simp_all)))
    have hne : (xv == yv) = false := by simpa using h
    clear h
    go_enter Tryz.func18, Tryz.ntmps18
    go_upto_region 1 with (fail)
    (try rw [hg])
    (try rw [hw1])
    clear hw1 hg
    go_wp2_with fail
    refine (refInts _ _ _ _ _ _ w1 (A0.out.modNil HM1.out) (B0.out.modNil HM1.out) (by rw [N0.out]; omega)).mono ?_
    rw [decide_eq_true rfl]
    rintro e w2 ⟨rfl, nn, hwk⟩
    have hmk : Mod nil w1 w2 := by rw [hwk]; exact (Mod.refl _ _).drewN _
    clear hwk
    have HK2 : Hid (Mod nil w1 w2) := Lib.hid (hmk)
    have HM2 : Hid (Mod nil w w2) := Lib.hid (HM1.out.thenNil hmk)
    clear x0 x1 x2 x3 x4 x5 x6 y0 y1 y2 y3 y4 y5 y6 hmk
    obtain ⟨x0, x1, x2, x3, x4, x5, x6, y0, y1, y2, y3, y4, y5, y6⟩ := HKEEP.out w2 HK2.out
    go_wp2_with fail
    refine (refInts _ _ _ _ _ _ w2 (A1.out.modNil HM2.out) (B1.out.modNil HM2.out) (by rw [N1.out]; omega)).mono ?_
    rw [decide_eq_true rfl]
    rintro e w3 ⟨rfl, nn, hwk⟩
    have hmk : Mod nil w2 w3 := by rw [hwk]; exact (Mod.refl _ _).drewN _
    clear hwk
    have HK3 : Hid (Mod nil w1 w3) := Lib.hid (HK2.out.thenNil hmk)
    have HM3 : Hid (Mod nil w w3) := Lib.hid (HM2.out.thenNil hmk)
    clear x0 x1 x2 x3 x4 x5 x6 y0 y1 y2 y3 y4 y5 y6 hmk
    obtain ⟨x0, x1, x2, x3, x4, x5, x6, y0, y1, y2, y3, y4, y5, y6⟩ := HKEEP.out w3 HK3.out
    go_wp2_with fail
    refine (refInts _ _ _ _ _ _ w3 (A2.out.modNil HM3.out) (B2.out.modNil HM3.out) (by rw [N2.out]; omega)).mono ?_
    rw [decide_eq_true rfl]
    rintro e w4 ⟨rfl, nn, hwk⟩
    have hmk : Mod nil w3 w4 := by rw [hwk]; exact (Mod.refl _ _).drewN _
    clear hwk
    have HK4 : Hid (Mod nil w1 w4) := Lib.hid (HK3.out.thenNil hmk)
    have HM4 : Hid (Mod nil w w4) := Lib.hid (HM3.out.thenNil hmk)
    clear x0 x1 x2 x3 x4 x5 x6 y0 y1 y2 y3 y4 y5 y6 hmk
    obtain ⟨x0, x1, x2, x3, x4, x5, x6, y0, y1, y2, y3, y4, y5, y6⟩ := HKEEP.out w4 HK4.out
    go_wp2_with fail
    refine (refInts _ _ _ _ _ _ w4 (A3.out.modNil HM4.out) (B3.out.modNil HM4.out) (by rw [N3.out]; omega)).mono ?_
    rw [decide_eq_true rfl]
    rintro e w5 ⟨rfl, nn, hwk⟩
    have hmk : Mod nil w4 w5 := by rw [hwk]; exact (Mod.refl _ _).drewN _
    clear hwk
    have HK5 : Hid (Mod nil w1 w5) := Lib.hid (HK4.out.thenNil hmk)
    have HM5 : Hid (Mod nil w w5) := Lib.hid (HM4.out.thenNil hmk)
    clear x0 x1 x2 x3 x4 x5 x6 y0 y1 y2 y3 y4 y5 y6 hmk
    obtain ⟨x0, x1, x2, x3, x4, x5, x6, y0, y1, y2, y3, y4, y5, y6⟩ := HKEEP.out w5 HK5.out
    go_wp2_with fail
    exact HEND.out _ _ HM5.out HF.out
  subst h
  have HF := Lib.hid (show decide ((⟨xd, xp, l0, l1, l2, l3, xv⟩ : St) = ⟨xd, xp, l0, l1, l2, l3, xv⟩) = true from decide_eq_true rfl)
  go_enter Tryz.func18, Tryz.ntmps18
  go_upto_region 1 with (fail)
  (try rw [hg])
  (try rw [hw1])
  clear hw1 hg
  go_wp2_with fail
  refine (refInts _ _ _ _ _ _ w1 (A0.out.modNil HM1.out) (B0.out.modNil HM1.out) (by rw [N0.out]; omega)).mono ?_
  rw [decide_eq_true rfl]
  rintro e w2 ⟨rfl, nn, hwk⟩
  have hmk : Mod nil w1 w2 := by rw [hwk]; exact (Mod.refl _ _).drewN _
  clear hwk
  have HK2 : Hid (Mod nil w1 w2) := Lib.hid (hmk)
  have HM2 : Hid (Mod nil w w2) := Lib.hid (HM1.out.thenNil hmk)
  clear x0 x1 x2 x3 x4 x5 x6 y0 y1 y2 y3 y4 y5 y6 hmk
  obtain ⟨x0, x1, x2, x3, x4, x5, x6, y0, y1, y2, y3, y4, y5, y6⟩ := HKEEP.out w2 HK2.out
  go_wp2_with fail
  refine (refInts _ _ _ _ _ _ w2 (A1.out.modNil HM2.out) (B1.out.modNil HM2.out) (by rw [N1.out]; omega)).mono ?_
  rw [decide_eq_true rfl]
  rintro e w3 ⟨rfl, nn, hwk⟩
  have hmk : Mod nil w2 w3 := by rw [hwk]; exact (Mod.refl _ _).drewN _
  clear hwk
  have HK3 : Hid (Mod nil w1 w3) := Lib.hid (HK2.out.thenNil hmk)
  have HM3 : Hid (Mod nil w w3) := Lib.hid (HM2.out.thenNil hmk)
  clear x0 x1 x2 x3 x4 x5 x6 y0 y1 y2 y3 y4 y5 y6 hmk
  obtain ⟨x0, x1, x2, x3, x4, x5, x6, y0, y1, y2, y3, y4, y5, y6⟩ := HKEEP.out w3 HK3.out
  go_wp2_with fail
  refine (refInts _ _ _ _ _ _ w3 (A2.out.modNil HM3.out) (B2.out.modNil HM3.out) (by rw [N2.out]; omega)).mono ?_
  rw [decide_eq_true rfl]
  rintro e w4 ⟨rfl, nn, hwk⟩
  have hmk : Mod nil w3 w4 := by rw [hwk]; exact (Mod.refl _ _).drewN _
  clear hwk
  have HK4 : Hid (Mod nil w1 w4) := Lib.hid (HK3.out.thenNil hmk)
  have HM4 : Hid (Mod nil w w4) := Lib.hid (HM3.out.thenNil hmk)
  clear x0 x1 x2 x3 x4 x5 x6 y0 y1 y2 y3 y4 y5 y6 hmk
  obtain ⟨x0, x1, x2, x3, x4, x5, x6, y0, y1, y2, y3, y4, y5, y6⟩ := HKEEP.out w4 HK4.out
  go_wp2_with fail
  refine (refInts _ _ _ _ _ _ w4 (A3.out.modNil HM4.out) (B3.out.modNil HM4.out) (by rw [N3.out]; omega)).mono ?_
  rw [decide_eq_true rfl]
  rintro e w5 ⟨rfl, nn, hwk⟩
  have hmk : Mod nil w4 w5 := by rw [hwk]; exact (Mod.refl _ _).drewN _
  clear hwk
  have HK5 : Hid (Mod nil w1 w5) := Lib.hid (HK4.out.thenNil hmk)
  have HM5 : Hid (Mod nil w w5) := Lib.hid (HM4.out.thenNil hmk)
  clear x0 x1 x2 x3 x4 x5 x6 y0 y1 y2 y3 y4 y5 y6 hmk
  obtain ⟨x0, x1, x2, x3, x4, x5, x6, y0, y1, y2, y3, y4, y5, y6⟩ := HKEEP.out w5 HK5.out
  go_wp2_with fail
  exact HEND.out _ _ HM5.out HF.out
end Go.Proofs.YtdfpmlfdmhlhcaaGreat

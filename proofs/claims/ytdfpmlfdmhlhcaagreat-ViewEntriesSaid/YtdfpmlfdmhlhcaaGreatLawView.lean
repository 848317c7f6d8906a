/- cfllaw24.ViewEntries: any plan, any numbers, any texts: the entries, or that they are none; whether two statuses are alike. (Printed by wip/tools/gen_lawview.py.) -/
import Derived.Test.YtdfpmlfdmhlhcaaGreatViewN
import Derived.Test.YtdfpmlfdmhlhcaaGreatRowB
namespace Go.Proofs.YtdfpmlfdmhlhcaaGreat
open Go.ChangeShapes Go.WideShapes Go.ChangeAt Go.RowKit
set_option maxRecDepth 100000 in
theorem Rd.status {w : World} {v : Value} (h : Rd w 28 v) : ∃ s : St, IsSt (· < w.heap.size) w v s ∧ s.l0.length ≤ maxLen ∧ s.l1.length ≤ maxLen ∧ s.l2.length ≤ maxLen ∧ s.l3.length ≤ maxLen := by
  obtain ⟨cs, rfl, hl, hf⟩ := h.struct Tryz.underlying28
  have hc : Tryz.prog.cellsOf 28 = 7 := by kernel_rfl
  have h1 : Tryz.prog.cellsOf 22 = 1 := by kernel_rfl
  have h3 : Tryz.prog.cellsOf 3 = 1 := by kernel_rfl
  rw [hc] at hl
  match cs, hl with
  | [c0, c1, c2, c3, c4, c5, c6], _ =>
    have f0 : Rc w 3 [c0] := by simpa [h3] using hf 0 _ rfl
    have f1 : Rc w 3 [c1] := by simpa [h3] using hf 1 _ rfl
    have f2 : Rc w 22 [c2] := by simpa [h1] using hf 2 _ rfl
    have f3 : Rc w 22 [c3] := by simpa [h1] using hf 3 _ rfl
    have f4 : Rc w 22 [c4] := by simpa [h1] using hf 4 _ rfl
    have f5 : Rc w 22 [c5] := by simpa [h1] using hf 5 _ rfl
    have f6 : Rc w 3 [c6] := by simpa [h3] using hf 6 _ rfl
    obtain ⟨n0, e0, -⟩ := f0.int Tryz.underlying3
    obtain ⟨n1, e1, -⟩ := f1.int Tryz.underlying3
    obtain ⟨p2, m2, k2, l2, e2, a2, b2, d2, r2, -⟩ := f2.ints
    obtain ⟨p3, m3, k3, l3, e3, a3, b3, d3, r3, -⟩ := f3.ints
    obtain ⟨p4, m4, k4, l4, e4, a4, b4, d4, r4, -⟩ := f4.ints
    obtain ⟨p5, m5, k5, l5, e5, a5, b5, d5, r5, -⟩ := f5.ints
    obtain ⟨n6, e6, -⟩ := f6.int Tryz.underlying3
    simp only [List.cons.injEq, and_true] at e0 e1 e2 e3 e4 e5 e6
    subst e0 e1 e2 e3 e4 e5 e6
    subst d2 d3 d4 d5
    exact ⟨⟨n0, n1, l2, l3, l4, l5, n6⟩, ⟨p2, k2, p3, k3, p4, k4, p5, k5, by simp, r2, r3, r4, r5⟩, by simp only; omega, by simp only; omega, by simp only; omega, by simp only; omega⟩
def entBad (P : Pl) (Z : List UInt8) (nb : Nat) (s t : St) : Prop := ¬ fewP P ∨ 1000 < Z.length ∨ 70000 < nb ∨ 100 < s.l0.length ∨ 100 < s.l1.length ∨ 100 < t.l0.length ∨ 100 < t.l1.length ∨ 100 < s.l2.length ∨ 100 < t.l2.length ∨ 100 < s.l3.length ∨ 100 < t.l3.length
set_option maxRecDepth 100000 in
set_option maxHeartbeats 8000000 in
theorem lawViewEntries (vp vs vt : Value) (P : Pl) (Z : List UInt8) (which seq : Int) (pb : Option Addr) (nb cb : Nat) (B : List UInt8) (s t : St) (w : World)
    (hp : IsPl (· < w.heap.size) w vp P) (hc : PlCap vp P) (i1 : P.ps.length ≤ maxLen) (i2 : P.ls.length ≤ maxLen) (i3 : P.dl.length ≤ maxLen) (i4 : P.hash.length ≤ maxLen) (hrow : IsRow (· < w.heap.size) w (.slice pb nb cb) (bys B)) (hs : IsSt (· < w.heap.size) w vs s) (ht : IsSt (· < w.heap.size) w vt t) :
    Calls Tryz.prog 3 #[vp, .string ⟨Z.toArray⟩, .int .i64 which, .int .i64 seq, .slice pb nb cb, vs, vt] w fun e w' => e = .returned (.bool true) ∧ Mod nil w w' := by
  refine (?_ : ∀ Post : Ending → World → Prop, Hid (∀ e w', (e = .returned (.bool true) ∧ Mod nil w w') → Post e w') → Calls Tryz.prog 3 #[vp, .string ⟨Z.toArray⟩, .int .i64 which, .int .i64 seq, .slice pb nb cb, vs, vt] w Post) _ (Lib.hid (fun _ _ h => h))
  intro Post HPOST
  have hcs : entBad P Z nb s t ∨ (fewP P ∧ Z.length ≤ 1000 ∧ nb ≤ 70000 ∧ s.few ∧ t.few) := by
    by_cases hf : fewP P
    · unfold entBad St.few
      by_cases h : 1000 < Z.length ∨ 70000 < nb ∨ 100 < s.l0.length ∨ 100 < s.l1.length ∨ 100 < t.l0.length ∨ 100 < t.l1.length ∨ 100 < s.l2.length ∨ 100 < t.l2.length ∨ 100 < s.l3.length ∨ 100 < t.l3.length
      · exact .inl (.inr h)
      · exact .inr ⟨hf, by omega, by omega, ⟨by omega, by omega, by omega, by omega⟩, ⟨by omega, by omega, by omega, by omega⟩⟩
    · exact .inl (.inl hf)
  have HFEW := Lib.hid (fun W (m : Mod nil w W) => planFewPlan _ vp P W (hp.modNil m) i1 i2 i3 i4)
  have HACC := Lib.hid (fun (hf : fewP P) (hz : Z.length ≤ 1000) W (m : Mod nil w W) => viewAccepts _ vp P Z W (hp.modNil m) hf.few (by have := hf.2.2; omega) hz)
  have HREF := Lib.hid (fun (hf : fewP P) (hz : Z.length ≤ 1000) W (m : Mod nil w W) => refAccepts _ vp P Z W (hp.modNil m) hc hf.few (by have := hf.2.2; omega) hz)
  have HSAME := Lib.hid (fun (hf : s.few) W (m : Mod nil w W) => viewSame _ _ vs vt s t W (hs.modNil m) (ht.modNil m) hf)
  have HRSAME := Lib.hid (fun (hf : s.few) W (m : Mod nil w W) => refSameStatus _ _ vs vt s t W (hs.modNil m) (ht.modNil m) hf)
  have HROW := Lib.hid hrow
  obtain ⟨p1, cp1, p2, cp2, p7, cp7, rfl, -, -, -⟩ := id hp
  obtain ⟨s0, k0, s1, k1, s2, k2, s3, k3, rfl, -, -, -, -⟩ := id hs
  obtain ⟨t0, l0, t1, l1, t2, l2, t3, l3, rfl, -, -, -, -⟩ := id ht
  clear hp hc hrow hs ht i1 i2 i3 i4
  obtain ⟨AC, hAC⟩ : ∃ x, acceptF P Z = x := ⟨_, rfl⟩
  obtain ⟨FP, hFP⟩ : ∃ x : Prop, fewP P = x := ⟨_, rfl⟩
  obtain ⟨FB, hFB⟩ : ∃ x : Bool, decide (fewP P) = x := ⟨_, rfl⟩
  have HFB : Hid ((FB = true ↔ FP)) := Lib.hid (by rw [← hFB, ← hFP]; exact decide_eq_true_iff)
  rw [hAC] at HACC HREF
  rw [hFB] at HFEW
  obtain ⟨SE, hSE⟩ : ∃ x : Bool, decide (s = t) = x := ⟨_, rfl⟩
  rw [hSE] at HSAME HRSAME
  unfold entBad at hcs
  rw [hFP] at hcs HACC HREF
  clear hAC hFP hFB hSE
  obtain ⟨deal, ps, ls, H, start, eps, wait, dl⟩ := P
  obtain ⟨sd, sp, sl0, sl1, sl2, sl3, sv⟩ := s
  obtain ⟨td, tp, tl0, tl1, tl2, tl3, tv⟩ := t
  unfold St.few at *
  simp only at *
  obtain ⟨np, hnp⟩ : ∃ n, ps.length = n := ⟨_, rfl⟩
  obtain ⟨nl, hnl⟩ : ∃ n, ls.length = n := ⟨_, rfl⟩
  obtain ⟨nd, hnd⟩ : ∃ n, dl.length = n := ⟨_, rfl⟩
  obtain ⟨n0, hn0⟩ : ∃ n, sl0.length = n := ⟨_, rfl⟩
  obtain ⟨n1, hn1⟩ : ∃ n, sl1.length = n := ⟨_, rfl⟩
  obtain ⟨n2, hn2⟩ : ∃ n, sl2.length = n := ⟨_, rfl⟩
  obtain ⟨n3, hn3⟩ : ∃ n, sl3.length = n := ⟨_, rfl⟩
  obtain ⟨m0, hm0⟩ : ∃ n, tl0.length = n := ⟨_, rfl⟩
  obtain ⟨m1, hm1⟩ : ∃ n, tl1.length = n := ⟨_, rfl⟩
  obtain ⟨m2, hm2⟩ : ∃ n, tl2.length = n := ⟨_, rfl⟩
  obtain ⟨m3, hm3⟩ : ∃ n, tl3.length = n := ⟨_, rfl⟩
  obtain ⟨nz, hnz⟩ : ∃ n, Z.length = n := ⟨_, rfl⟩
  rw [hnp, hnl, hnd] at HFEW HACC HREF ⊢
  rw [hn0, hn1, hn2, hn3, hm0, hm1, hm2, hm3] at hcs HSAME HRSAME ⊢
  rw [hnz] at hcs HACC HREF
  have HNZ := Lib.hid hnz
  clear hnp hnl hnd hn0 hn1 hn2 hn3 hm0 hm1 hm2 hm3 hnz
  obtain ⟨g, hg⟩ : ∃ g, w.heap.size = g := ⟨_, rfl⟩
  obtain ⟨w1, hw1⟩ : ∃ W, ((w.alloc (.cells #[.int .i64 deal, .slice p1 np cp1, .slice p2 nl cp2, .string ⟨H.toArray⟩, .int .i64 start, .int .i64 eps, .int .i64 wait, .slice p7 nd cp7] 25)).alloc (.cells #[.int .i64 sd, .int .i64 sp, .slice s0 n0 k0, .slice s1 n1 k1, .slice s2 n2 k2, .slice s3 n3 k3, .int .i64 sv] 28)).alloc (.cells #[.int .i64 td, .int .i64 tp, .slice t0 m0 l0, .slice t1 m1 l1, .slice t2 m2 l2, .slice t3 m3 l3, .int .i64 tv] 28) = W := ⟨_, rfl⟩
  have hm1 : Mod nil w w1 := by rw [← hw1]; exact (((Mod.refl _ _).alloc _).alloc _).alloc _
  have hb0 : w1.heap[g]? = some (.cells #[.int .i64 deal, .slice p1 np cp1, .slice p2 nl cp2, .string ⟨H.toArray⟩, .int .i64 start, .int .i64 eps, .int .i64 wait, .slice p7 nd cp7] 25 (0, 0)) := by rw [← hw1, ← hg]; exact heap_alloc_old (heap_alloc_old (heap_alloc_new _ _))
  have hb1 : w1.heap[g + 1]? = some (.cells #[.int .i64 sd, .int .i64 sp, .slice s0 n0 k0, .slice s1 n1 k1, .slice s2 n2 k2, .slice s3 n3 k3, .int .i64 sv] 28 (0, 0)) := by
    rw [← hw1, ← hg]
    have := heap_alloc_new (w.alloc (.cells #[.int .i64 deal, .slice p1 np cp1, .slice p2 nl cp2, .string ⟨H.toArray⟩, .int .i64 start, .int .i64 eps, .int .i64 wait, .slice p7 nd cp7] 25)) (.cells #[.int .i64 sd, .int .i64 sp, .slice s0 n0 k0, .slice s1 n1 k1, .slice s2 n2 k2, .slice s3 n3 k3, .int .i64 sv] 28)
    rw [World.size_alloc] at this
    exact heap_alloc_old this
  have hb2 : w1.heap[g + 1 + 1]? = some (.cells #[.int .i64 td, .int .i64 tp, .slice t0 m0 l0, .slice t1 m1 l1, .slice t2 m2 l2, .slice t3 m3 l3, .int .i64 tv] 28 (0, 0)) := by
    rw [← hw1, ← hg]
    have := heap_alloc_new ((w.alloc (.cells #[.int .i64 deal, .slice p1 np cp1, .slice p2 nl cp2, .string ⟨H.toArray⟩, .int .i64 start, .int .i64 eps, .int .i64 wait, .slice p7 nd cp7] 25)).alloc (.cells #[.int .i64 sd, .int .i64 sp, .slice s0 n0 k0, .slice s1 n1 k1, .slice s2 n2 k2, .slice s3 n3 k3, .int .i64 sv] 28)) (.cells #[.int .i64 td, .int .i64 tp, .slice t0 m0 l0, .slice t1 m1 l1, .slice t2 m2 l2, .slice t3 m3 l3, .int .i64 tv] 28)
    rw [World.size_alloc, World.size_alloc] at this
    exact this
  have HKEEP : Hid (∀ W, Mod nil w1 W → W.cell? ⟨g, 0, none⟩ = some (.int .i64 deal) ∧ W.cell? ⟨g, 1, none⟩ = some (.slice p1 np cp1) ∧ W.cell? ⟨g, 2, none⟩ = some (.slice p2 nl cp2) ∧ W.cell? ⟨g, 3, none⟩ = some (.string ⟨H.toArray⟩) ∧ W.cell? ⟨g, 4, none⟩ = some (.int .i64 start) ∧ W.cell? ⟨g, 5, none⟩ = some (.int .i64 eps) ∧ W.cell? ⟨g, 6, none⟩ = some (.int .i64 wait) ∧ W.cell? ⟨g, 7, none⟩ = some (.slice p7 nd cp7) ∧ W.cell? ⟨g + 1, 0, none⟩ = some (.int .i64 sd) ∧ W.cell? ⟨g + 1, 1, none⟩ = some (.int .i64 sp) ∧ W.cell? ⟨g + 1, 2, none⟩ = some (.slice s0 n0 k0) ∧ W.cell? ⟨g + 1, 3, none⟩ = some (.slice s1 n1 k1) ∧ W.cell? ⟨g + 1, 4, none⟩ = some (.slice s2 n2 k2) ∧ W.cell? ⟨g + 1, 5, none⟩ = some (.slice s3 n3 k3) ∧ W.cell? ⟨g + 1, 6, none⟩ = some (.int .i64 sv) ∧ W.cell? ⟨g + 1 + 1, 0, none⟩ = some (.int .i64 td) ∧ W.cell? ⟨g + 1 + 1, 1, none⟩ = some (.int .i64 tp) ∧ W.cell? ⟨g + 1 + 1, 2, none⟩ = some (.slice t0 m0 l0) ∧ W.cell? ⟨g + 1 + 1, 3, none⟩ = some (.slice t1 m1 l1) ∧ W.cell? ⟨g + 1 + 1, 4, none⟩ = some (.slice t2 m2 l2) ∧ W.cell? ⟨g + 1 + 1, 5, none⟩ = some (.slice t3 m3 l3) ∧ W.cell? ⟨g + 1 + 1, 6, none⟩ = some (.int .i64 tv)) := Lib.hid (fun W m => by
    have e0 := m.keep hb0
    have e1 := m.keep hb1
    have e2 := m.keep hb2
    exact ⟨cell_of e0 0, cell_of e0 1, cell_of e0 2, cell_of e0 3, cell_of e0 4, cell_of e0 5, cell_of e0 6, cell_of e0 7, cell_of e1 0, cell_of e1 1, cell_of e1 2, cell_of e1 3, cell_of e1 4, cell_of e1 5, cell_of e1 6, cell_of e2 0, cell_of e2 1, cell_of e2 2, cell_of e2 3, cell_of e2 4, cell_of e2 5, cell_of e2 6⟩)
  have HM1 := Lib.hid hm1
  clear hm1 hb0 hb1 hb2
  rcases hcs with hbad | ⟨hf, hz, hnb, ⟨f0, f1, f2, f3⟩, ⟨e0, e1, e2, e3⟩⟩
  · by_cases hf : FP
    · have hft : FB = true := HFB.out.2 hf
      subst hft
      by_cases q0 : (nz : Int) ≤ 1000
      rotate_left
      · have p0 : 1000 < (nz : Int) := by omega
        clear q0 hbad
        have hz2 : 1000 < (Z.length : Int) := by rw [HNZ.out]; omega
        go_enter Tryz.func3, Tryz.ntmps3
        go_upto_region 1 with (fail)
        (try rw [hg])
        (try rw [hw1])
        clear hw1 hg
        go_wp2_with fail
        refine (vFirst w1).mono ?_
        rintro e w2 ⟨rfl, hm2⟩
        have HM2 := Lib.hid (HM1.out.thenNil hm2)
        have HK2 := Lib.hid hm2
        clear hm2
        obtain ⟨a0, a1, a2, a3, a4, a5, a6, a7, x0, x1, x2, x3, x4, x5, x6, y0, y1, y2, y3, y4, y5, y6⟩ := HKEEP.out w2 HK2.out
        go_wp2_with fail
        refine (HFEW.out w2 HM2.out).mono ?_
        rintro e w3 ⟨rfl, hm3⟩
        have HM3 := Lib.hid (HM2.out.thenNil hm3)
        have HK3 := Lib.hid (HK2.out.thenNil hm3)
        clear hm3 a0 a1 a2 a3 a4 a5 a6 a7 x0 x1 x2 x3 x4 x5 x6 y0 y1 y2 y3 y4 y5 y6
        obtain ⟨a0, a1, a2, a3, a4, a5, a6, a7, x0, x1, x2, x3, x4, x5, x6, y0, y1, y2, y3, y4, y5, y6⟩ := HKEEP.out w3 HK3.out
        go_wp2_with fail
        refine (vFirst w3).mono ?_
        rintro e w4 ⟨rfl, hm4⟩
        have HE := Lib.hid (HPOST.out _ w4 ⟨rfl, HM3.out.thenNil hm4⟩)
        clear hm4
        go_wp2_with fail
        exact HE.out
      by_cases q1 : (nb : Int) ≤ 70000
      rotate_left
      · have p1 : 70000 < (nb : Int) := by omega
        clear q1 hbad
        have hz1 : (Z.length : Int) ≤ 1000 := by rw [HNZ.out]; omega
        go_enter Tryz.func3, Tryz.ntmps3
        go_upto_region 1 with (fail)
        (try rw [hg])
        (try rw [hw1])
        clear hw1 hg
        go_wp2_with fail
        refine (vFirst w1).mono ?_
        rintro e w2 ⟨rfl, hm2⟩
        have HM2 := Lib.hid (HM1.out.thenNil hm2)
        have HK2 := Lib.hid hm2
        clear hm2
        obtain ⟨a0, a1, a2, a3, a4, a5, a6, a7, x0, x1, x2, x3, x4, x5, x6, y0, y1, y2, y3, y4, y5, y6⟩ := HKEEP.out w2 HK2.out
        go_wp2_with fail
        refine (HFEW.out w2 HM2.out).mono ?_
        rintro e w3 ⟨rfl, hm3⟩
        have HM3 := Lib.hid (HM2.out.thenNil hm3)
        have HK3 := Lib.hid (HK2.out.thenNil hm3)
        clear hm3 a0 a1 a2 a3 a4 a5 a6 a7 x0 x1 x2 x3 x4 x5 x6 y0 y1 y2 y3 y4 y5 y6
        obtain ⟨a0, a1, a2, a3, a4, a5, a6, a7, x0, x1, x2, x3, x4, x5, x6, y0, y1, y2, y3, y4, y5, y6⟩ := HKEEP.out w3 HK3.out
        go_wp2_with fail
        refine (vFirst w3).mono ?_
        rintro e w4 ⟨rfl, hm4⟩
        have HE := Lib.hid (HPOST.out _ w4 ⟨rfl, HM3.out.thenNil hm4⟩)
        clear hm4
        go_wp2_with fail
        exact HE.out
      by_cases q2 : (n0 : Int) ≤ 100
      rotate_left
      · have p2 : 100 < (n0 : Int) := by omega
        clear q2 hbad
        have hz1 : (Z.length : Int) ≤ 1000 := by rw [HNZ.out]; omega
        go_enter Tryz.func3, Tryz.ntmps3
        go_upto_region 1 with (fail)
        (try rw [hg])
        (try rw [hw1])
        clear hw1 hg
        go_wp2_with fail
        refine (vFirst w1).mono ?_
        rintro e w2 ⟨rfl, hm2⟩
        have HM2 := Lib.hid (HM1.out.thenNil hm2)
        have HK2 := Lib.hid hm2
        clear hm2
        obtain ⟨a0, a1, a2, a3, a4, a5, a6, a7, x0, x1, x2, x3, x4, x5, x6, y0, y1, y2, y3, y4, y5, y6⟩ := HKEEP.out w2 HK2.out
        go_wp2_with fail
        refine (HFEW.out w2 HM2.out).mono ?_
        rintro e w3 ⟨rfl, hm3⟩
        have HM3 := Lib.hid (HM2.out.thenNil hm3)
        have HK3 := Lib.hid (HK2.out.thenNil hm3)
        clear hm3 a0 a1 a2 a3 a4 a5 a6 a7 x0 x1 x2 x3 x4 x5 x6 y0 y1 y2 y3 y4 y5 y6
        obtain ⟨a0, a1, a2, a3, a4, a5, a6, a7, x0, x1, x2, x3, x4, x5, x6, y0, y1, y2, y3, y4, y5, y6⟩ := HKEEP.out w3 HK3.out
        go_wp2_with fail
        refine (vFirst w3).mono ?_
        rintro e w4 ⟨rfl, hm4⟩
        have HE := Lib.hid (HPOST.out _ w4 ⟨rfl, HM3.out.thenNil hm4⟩)
        clear hm4
        go_wp2_with fail
        exact HE.out
      by_cases q3 : (n1 : Int) ≤ 100
      rotate_left
      · have p3 : 100 < (n1 : Int) := by omega
        clear q3 hbad
        have hz1 : (Z.length : Int) ≤ 1000 := by rw [HNZ.out]; omega
        go_enter Tryz.func3, Tryz.ntmps3
        go_upto_region 1 with (fail)
        (try rw [hg])
        (try rw [hw1])
        clear hw1 hg
        go_wp2_with fail
        refine (vFirst w1).mono ?_
        rintro e w2 ⟨rfl, hm2⟩
        have HM2 := Lib.hid (HM1.out.thenNil hm2)
        have HK2 := Lib.hid hm2
        clear hm2
        obtain ⟨a0, a1, a2, a3, a4, a5, a6, a7, x0, x1, x2, x3, x4, x5, x6, y0, y1, y2, y3, y4, y5, y6⟩ := HKEEP.out w2 HK2.out
        go_wp2_with fail
        refine (HFEW.out w2 HM2.out).mono ?_
        rintro e w3 ⟨rfl, hm3⟩
        have HM3 := Lib.hid (HM2.out.thenNil hm3)
        have HK3 := Lib.hid (HK2.out.thenNil hm3)
        clear hm3 a0 a1 a2 a3 a4 a5 a6 a7 x0 x1 x2 x3 x4 x5 x6 y0 y1 y2 y3 y4 y5 y6
        obtain ⟨a0, a1, a2, a3, a4, a5, a6, a7, x0, x1, x2, x3, x4, x5, x6, y0, y1, y2, y3, y4, y5, y6⟩ := HKEEP.out w3 HK3.out
        go_wp2_with fail
        refine (vFirst w3).mono ?_
        rintro e w4 ⟨rfl, hm4⟩
        have HE := Lib.hid (HPOST.out _ w4 ⟨rfl, HM3.out.thenNil hm4⟩)
        clear hm4
        go_wp2_with fail
        exact HE.out
      by_cases q4 : (m0 : Int) ≤ 100
      rotate_left
      · have p4 : 100 < (m0 : Int) := by omega
        clear q4 hbad
        have hz1 : (Z.length : Int) ≤ 1000 := by rw [HNZ.out]; omega
        go_enter Tryz.func3, Tryz.ntmps3
        go_upto_region 1 with (fail)
        (try rw [hg])
        (try rw [hw1])
        clear hw1 hg
        go_wp2_with fail
        refine (vFirst w1).mono ?_
        rintro e w2 ⟨rfl, hm2⟩
        have HM2 := Lib.hid (HM1.out.thenNil hm2)
        have HK2 := Lib.hid hm2
        clear hm2
        obtain ⟨a0, a1, a2, a3, a4, a5, a6, a7, x0, x1, x2, x3, x4, x5, x6, y0, y1, y2, y3, y4, y5, y6⟩ := HKEEP.out w2 HK2.out
        go_wp2_with fail
        refine (HFEW.out w2 HM2.out).mono ?_
        rintro e w3 ⟨rfl, hm3⟩
        have HM3 := Lib.hid (HM2.out.thenNil hm3)
        have HK3 := Lib.hid (HK2.out.thenNil hm3)
        clear hm3 a0 a1 a2 a3 a4 a5 a6 a7 x0 x1 x2 x3 x4 x5 x6 y0 y1 y2 y3 y4 y5 y6
        obtain ⟨a0, a1, a2, a3, a4, a5, a6, a7, x0, x1, x2, x3, x4, x5, x6, y0, y1, y2, y3, y4, y5, y6⟩ := HKEEP.out w3 HK3.out
        go_wp2_with fail
        refine (vFirst w3).mono ?_
        rintro e w4 ⟨rfl, hm4⟩
        have HE := Lib.hid (HPOST.out _ w4 ⟨rfl, HM3.out.thenNil hm4⟩)
        clear hm4
        go_wp2_with fail
        exact HE.out
      by_cases q5 : (m1 : Int) ≤ 100
      rotate_left
      · have p5 : 100 < (m1 : Int) := by omega
        clear q5 hbad
        have hz1 : (Z.length : Int) ≤ 1000 := by rw [HNZ.out]; omega
        go_enter Tryz.func3, Tryz.ntmps3
        go_upto_region 1 with (fail)
        (try rw [hg])
        (try rw [hw1])
        clear hw1 hg
        go_wp2_with fail
        refine (vFirst w1).mono ?_
        rintro e w2 ⟨rfl, hm2⟩
        have HM2 := Lib.hid (HM1.out.thenNil hm2)
        have HK2 := Lib.hid hm2
        clear hm2
        obtain ⟨a0, a1, a2, a3, a4, a5, a6, a7, x0, x1, x2, x3, x4, x5, x6, y0, y1, y2, y3, y4, y5, y6⟩ := HKEEP.out w2 HK2.out
        go_wp2_with fail
        refine (HFEW.out w2 HM2.out).mono ?_
        rintro e w3 ⟨rfl, hm3⟩
        have HM3 := Lib.hid (HM2.out.thenNil hm3)
        have HK3 := Lib.hid (HK2.out.thenNil hm3)
        clear hm3 a0 a1 a2 a3 a4 a5 a6 a7 x0 x1 x2 x3 x4 x5 x6 y0 y1 y2 y3 y4 y5 y6
        obtain ⟨a0, a1, a2, a3, a4, a5, a6, a7, x0, x1, x2, x3, x4, x5, x6, y0, y1, y2, y3, y4, y5, y6⟩ := HKEEP.out w3 HK3.out
        go_wp2_with fail
        refine (vFirst w3).mono ?_
        rintro e w4 ⟨rfl, hm4⟩
        have HE := Lib.hid (HPOST.out _ w4 ⟨rfl, HM3.out.thenNil hm4⟩)
        clear hm4
        go_wp2_with fail
        exact HE.out
      by_cases q6 : (n2 : Int) ≤ 100
      rotate_left
      · have p6 : 100 < (n2 : Int) := by omega
        clear q6 hbad
        have hz1 : (Z.length : Int) ≤ 1000 := by rw [HNZ.out]; omega
        go_enter Tryz.func3, Tryz.ntmps3
        go_upto_region 1 with (fail)
        (try rw [hg])
        (try rw [hw1])
        clear hw1 hg
        go_wp2_with fail
        refine (vFirst w1).mono ?_
        rintro e w2 ⟨rfl, hm2⟩
        have HM2 := Lib.hid (HM1.out.thenNil hm2)
        have HK2 := Lib.hid hm2
        clear hm2
        obtain ⟨a0, a1, a2, a3, a4, a5, a6, a7, x0, x1, x2, x3, x4, x5, x6, y0, y1, y2, y3, y4, y5, y6⟩ := HKEEP.out w2 HK2.out
        go_wp2_with fail
        refine (HFEW.out w2 HM2.out).mono ?_
        rintro e w3 ⟨rfl, hm3⟩
        have HM3 := Lib.hid (HM2.out.thenNil hm3)
        have HK3 := Lib.hid (HK2.out.thenNil hm3)
        clear hm3 a0 a1 a2 a3 a4 a5 a6 a7 x0 x1 x2 x3 x4 x5 x6 y0 y1 y2 y3 y4 y5 y6
        obtain ⟨a0, a1, a2, a3, a4, a5, a6, a7, x0, x1, x2, x3, x4, x5, x6, y0, y1, y2, y3, y4, y5, y6⟩ := HKEEP.out w3 HK3.out
        go_wp2_with fail
        refine (vFirst w3).mono ?_
        rintro e w4 ⟨rfl, hm4⟩
        have HE := Lib.hid (HPOST.out _ w4 ⟨rfl, HM3.out.thenNil hm4⟩)
        clear hm4
        go_wp2_with fail
        exact HE.out
      by_cases q7 : (m2 : Int) ≤ 100
      rotate_left
      · have p7 : 100 < (m2 : Int) := by omega
        clear q7 hbad
        have hz1 : (Z.length : Int) ≤ 1000 := by rw [HNZ.out]; omega
        go_enter Tryz.func3, Tryz.ntmps3
        go_upto_region 1 with (fail)
        (try rw [hg])
        (try rw [hw1])
        clear hw1 hg
        go_wp2_with fail
        refine (vFirst w1).mono ?_
        rintro e w2 ⟨rfl, hm2⟩
        have HM2 := Lib.hid (HM1.out.thenNil hm2)
        have HK2 := Lib.hid hm2
        clear hm2
        obtain ⟨a0, a1, a2, a3, a4, a5, a6, a7, x0, x1, x2, x3, x4, x5, x6, y0, y1, y2, y3, y4, y5, y6⟩ := HKEEP.out w2 HK2.out
        go_wp2_with fail
        refine (HFEW.out w2 HM2.out).mono ?_
        rintro e w3 ⟨rfl, hm3⟩
        have HM3 := Lib.hid (HM2.out.thenNil hm3)
        have HK3 := Lib.hid (HK2.out.thenNil hm3)
        clear hm3 a0 a1 a2 a3 a4 a5 a6 a7 x0 x1 x2 x3 x4 x5 x6 y0 y1 y2 y3 y4 y5 y6
        obtain ⟨a0, a1, a2, a3, a4, a5, a6, a7, x0, x1, x2, x3, x4, x5, x6, y0, y1, y2, y3, y4, y5, y6⟩ := HKEEP.out w3 HK3.out
        go_wp2_with fail
        refine (vFirst w3).mono ?_
        rintro e w4 ⟨rfl, hm4⟩
        have HE := Lib.hid (HPOST.out _ w4 ⟨rfl, HM3.out.thenNil hm4⟩)
        clear hm4
        go_wp2_with fail
        exact HE.out
      by_cases q8 : (n3 : Int) ≤ 100
      rotate_left
      · have p8 : 100 < (n3 : Int) := by omega
        clear q8 hbad
        have hz1 : (Z.length : Int) ≤ 1000 := by rw [HNZ.out]; omega
        go_enter Tryz.func3, Tryz.ntmps3
        go_upto_region 1 with (fail)
        (try rw [hg])
        (try rw [hw1])
        clear hw1 hg
        go_wp2_with fail
        refine (vFirst w1).mono ?_
        rintro e w2 ⟨rfl, hm2⟩
        have HM2 := Lib.hid (HM1.out.thenNil hm2)
        have HK2 := Lib.hid hm2
        clear hm2
        obtain ⟨a0, a1, a2, a3, a4, a5, a6, a7, x0, x1, x2, x3, x4, x5, x6, y0, y1, y2, y3, y4, y5, y6⟩ := HKEEP.out w2 HK2.out
        go_wp2_with fail
        refine (HFEW.out w2 HM2.out).mono ?_
        rintro e w3 ⟨rfl, hm3⟩
        have HM3 := Lib.hid (HM2.out.thenNil hm3)
        have HK3 := Lib.hid (HK2.out.thenNil hm3)
        clear hm3 a0 a1 a2 a3 a4 a5 a6 a7 x0 x1 x2 x3 x4 x5 x6 y0 y1 y2 y3 y4 y5 y6
        obtain ⟨a0, a1, a2, a3, a4, a5, a6, a7, x0, x1, x2, x3, x4, x5, x6, y0, y1, y2, y3, y4, y5, y6⟩ := HKEEP.out w3 HK3.out
        go_wp2_with fail
        refine (vFirst w3).mono ?_
        rintro e w4 ⟨rfl, hm4⟩
        have HE := Lib.hid (HPOST.out _ w4 ⟨rfl, HM3.out.thenNil hm4⟩)
        clear hm4
        go_wp2_with fail
        exact HE.out
      by_cases q9 : (m3 : Int) ≤ 100
      rotate_left
      · have p9 : 100 < (m3 : Int) := by omega
        clear q9 hbad
        have hz1 : (Z.length : Int) ≤ 1000 := by rw [HNZ.out]; omega
        go_enter Tryz.func3, Tryz.ntmps3
        go_upto_region 1 with (fail)
        (try rw [hg])
        (try rw [hw1])
        clear hw1 hg
        go_wp2_with fail
        refine (vFirst w1).mono ?_
        rintro e w2 ⟨rfl, hm2⟩
        have HM2 := Lib.hid (HM1.out.thenNil hm2)
        have HK2 := Lib.hid hm2
        clear hm2
        obtain ⟨a0, a1, a2, a3, a4, a5, a6, a7, x0, x1, x2, x3, x4, x5, x6, y0, y1, y2, y3, y4, y5, y6⟩ := HKEEP.out w2 HK2.out
        go_wp2_with fail
        refine (HFEW.out w2 HM2.out).mono ?_
        rintro e w3 ⟨rfl, hm3⟩
        have HM3 := Lib.hid (HM2.out.thenNil hm3)
        have HK3 := Lib.hid (HK2.out.thenNil hm3)
        clear hm3 a0 a1 a2 a3 a4 a5 a6 a7 x0 x1 x2 x3 x4 x5 x6 y0 y1 y2 y3 y4 y5 y6
        obtain ⟨a0, a1, a2, a3, a4, a5, a6, a7, x0, x1, x2, x3, x4, x5, x6, y0, y1, y2, y3, y4, y5, y6⟩ := HKEEP.out w3 HK3.out
        go_wp2_with fail
        refine (vFirst w3).mono ?_
        rintro e w4 ⟨rfl, hm4⟩
        have HE := Lib.hid (HPOST.out _ w4 ⟨rfl, HM3.out.thenNil hm4⟩)
        clear hm4
        go_wp2_with fail
        exact HE.out
      exfalso
      rcases hbad with h | h
      · exact h hf
      · omega
    · have hff : FB = false := by
        cases h : FB with
        | false => rfl
        | true => exact absurd (HFB.out.1 h) hf
      subst hff
      clear hbad
      go_enter Tryz.func3, Tryz.ntmps3
      go_upto_region 1 with (fail)
      (try rw [hg])
      (try rw [hw1])
      clear hw1 hg
      go_wp2_with fail
      refine (vFirst w1).mono ?_
      rintro e w2 ⟨rfl, hm2⟩
      have HM2 := Lib.hid (HM1.out.thenNil hm2)
      have HK2 := Lib.hid hm2
      clear hm2
      obtain ⟨a0, a1, a2, a3, a4, a5, a6, a7, x0, x1, x2, x3, x4, x5, x6, y0, y1, y2, y3, y4, y5, y6⟩ := HKEEP.out w2 HK2.out
      go_wp2_with fail
      refine (HFEW.out w2 HM2.out).mono ?_
      rintro e w3 ⟨rfl, hm3⟩
      have HM3 := Lib.hid (HM2.out.thenNil hm3)
      have HK3 := Lib.hid (HK2.out.thenNil hm3)
      clear hm3 a0 a1 a2 a3 a4 a5 a6 a7 x0 x1 x2 x3 x4 x5 x6 y0 y1 y2 y3 y4 y5 y6
      obtain ⟨a0, a1, a2, a3, a4, a5, a6, a7, x0, x1, x2, x3, x4, x5, x6, y0, y1, y2, y3, y4, y5, y6⟩ := HKEEP.out w3 HK3.out
      go_wp2_with fail
      refine (vFirst w3).mono ?_
      rintro e w4 ⟨rfl, hm4⟩
      have HE := Lib.hid (HPOST.out _ w4 ⟨rfl, HM3.out.thenNil hm4⟩)
      clear hm4
      go_wp2_with fail
      exact HE.out
  · have hft : FB = true := HFB.out.2 hf
    subst hft
    have hz1 : (Z.length : Int) ≤ 1000 := by rw [HNZ.out]; omega
    go_enter Tryz.func3, Tryz.ntmps3
    go_upto_region 1 with (fail)
    (try rw [hg])
    (try rw [hw1])
    clear hw1 hg
    go_wp2_with fail
    refine (vFirst w1).mono ?_
    rintro e w2 ⟨rfl, hm2⟩
    have HM2 := Lib.hid (HM1.out.thenNil hm2)
    have HK2 := Lib.hid hm2
    clear hm2
    obtain ⟨a0, a1, a2, a3, a4, a5, a6, a7, x0, x1, x2, x3, x4, x5, x6, y0, y1, y2, y3, y4, y5, y6⟩ := HKEEP.out w2 HK2.out
    go_wp2_with fail
    refine (HFEW.out w2 HM2.out).mono ?_
    rintro e w3 ⟨rfl, hm3⟩
    have HM3 := Lib.hid (HM2.out.thenNil hm3)
    have HK3 := Lib.hid (HK2.out.thenNil hm3)
    clear hm3 a0 a1 a2 a3 a4 a5 a6 a7 x0 x1 x2 x3 x4 x5 x6 y0 y1 y2 y3 y4 y5 y6
    obtain ⟨a0, a1, a2, a3, a4, a5, a6, a7, x0, x1, x2, x3, x4, x5, x6, y0, y1, y2, y3, y4, y5, y6⟩ := HKEEP.out w3 HK3.out
    have z0 : (nb : Int) ≤ 70000 := by omega
    obtain ⟨⟨⟨XAk, XAb⟩, XAe⟩, hXA⟩ : ∃ y, AC = y := ⟨_, rfl⟩
    have HXA := Lib.hid hXA
    clear hXA
    go_wp2_with fail
    have hcall := HACC.out hf hz w3 HM3.out
    have hx := HXA.out
    rw [hx] at hcall
    clear hx
    refine hcall.mono ?_
    clear hcall
    rintro e w4 ⟨q0, j0, u0, rfl, hr0, hmj⟩
    simp only at hr0
    have h1 := HK3.out.thenNil hmj
    clear a0 a1 a2 a3 a4 a5 a6 a7 x0 x1 x2 x3 x4 x5 x6 y0 y1 y2 y3 y4 y5 y6
    obtain ⟨a0, a1, a2, a3, a4, a5, a6, a7, x0, x1, x2, x3, x4, x5, x6, y0, y1, y2, y3, y4, y5, y6⟩ := HKEEP.out w4 h1
    clear h1
    go_upto_region 6 with (fail)
    obtain ⟨b0, hb0⟩ : ∃ g, w4.heap.size = g := ⟨_, rfl⟩
    (try rw [hb0])
    generalize hw5 : World.alloc w4 _ = w5
    have hma : Mod nil w4 w5 := by rw [← hw5]; exact (Mod.refl _ _).alloc _
    have hmk := hmj.thenNil hma
    have HB0 : Hid (w5.heap[b0]? = some (.cells #[.int .i64 XAk, .slice q0 j0 u0] 32 (0, 0))) := Lib.hid (by rw [← hw5, ← hb0]; exact heap_alloc_new _ _)
    have HR0 := Lib.hid (hr0.modNil hma)
    have HM5 := Lib.hid (HM3.out.thenNil hmk)
    have HK5 := Lib.hid (HK3.out.thenNil hmk)
    clear hw5 hma hmk hmj hb0 hr0 a0 a1 a2 a3 a4 a5 a6 a7 x0 x1 x2 x3 x4 x5 x6 y0 y1 y2 y3 y4 y5 y6
    obtain ⟨a0, a1, a2, a3, a4, a5, a6, a7, x0, x1, x2, x3, x4, x5, x6, y0, y1, y2, y3, y4, y5, y6⟩ := HKEEP.out w5 HK5.out
    go_wp2_with fail
    have hcall := HREF.out hf hz w5 HM5.out
    have hx := HXA.out
    rw [hx] at hcall
    clear hx
    refine hcall.mono ?_
    clear hcall
    rintro e w6 ⟨q1, j1, u1, rfl, hr1, hmj⟩
    simp only at hr1
    have h1 := HK5.out.thenNil hmj
    clear a0 a1 a2 a3 a4 a5 a6 a7 x0 x1 x2 x3 x4 x5 x6 y0 y1 y2 y3 y4 y5 y6
    obtain ⟨a0, a1, a2, a3, a4, a5, a6, a7, x0, x1, x2, x3, x4, x5, x6, y0, y1, y2, y3, y4, y5, y6⟩ := HKEEP.out w6 h1
    clear h1
    go_upto_region 7 with (fail)
    obtain ⟨b1, hb1⟩ : ∃ g, w6.heap.size = g := ⟨_, rfl⟩
    (try rw [hb1])
    generalize hw7 : World.alloc w6 _ = w7
    have hma : Mod nil w6 w7 := by rw [← hw7]; exact (Mod.refl _ _).alloc _
    have hmk := hmj.thenNil hma
    have HB1 : Hid (w7.heap[b1]? = some (.cells #[.int .i64 XAk, .slice q1 j1 u1] 32 (0, 0))) := Lib.hid (by rw [← hw7, ← hb1]; exact heap_alloc_new _ _)
    have HR1 := Lib.hid (hr1.modNil hma)
    have HB0' := Lib.hid (hmk.keep HB0.out)
    clear HB0
    have HB0 := HB0'
    clear HB0'
    have HR0' := Lib.hid (HR0.out.modNil hmk)
    clear HR0
    have HR0 := HR0'
    clear HR0'
    have HM7 := Lib.hid (HM5.out.thenNil hmk)
    have HK7 := Lib.hid (HK5.out.thenNil hmk)
    clear hw7 hma hmk hmj hb1 hr1 a0 a1 a2 a3 a4 a5 a6 a7 x0 x1 x2 x3 x4 x5 x6 y0 y1 y2 y3 y4 y5 y6
    obtain ⟨a0, a1, a2, a3, a4, a5, a6, a7, x0, x1, x2, x3, x4, x5, x6, y0, y1, y2, y3, y4, y5, y6⟩ := HKEEP.out w7 HK7.out
    obtain ⟨⟨⟨XBk, XBb⟩, XBe⟩, hXB⟩ : ∃ y, boundF 2 which seq B = y := ⟨_, rfl⟩
    have HXB := Lib.hid hXB
    clear hXB
    go_wp2_with fail
    have hcall := viewSends _ which seq nb cb pb B w7 (HROW.out.modNil HM7.out) (fun k hk => Nat.lt_of_lt_of_le hk HM7.out.size) (by omega)
    have hx := HXB.out
    rw [hx] at hcall
    clear hx
    refine hcall.mono ?_
    clear hcall
    rintro e w8 ⟨q2, j2, u2, rfl, hr2, hmj⟩
    simp only at hr2
    have h1 := HK7.out.thenNil hmj
    clear a0 a1 a2 a3 a4 a5 a6 a7 x0 x1 x2 x3 x4 x5 x6 y0 y1 y2 y3 y4 y5 y6
    obtain ⟨a0, a1, a2, a3, a4, a5, a6, a7, x0, x1, x2, x3, x4, x5, x6, y0, y1, y2, y3, y4, y5, y6⟩ := HKEEP.out w8 h1
    clear h1
    go_upto_region 8 with (fail)
    obtain ⟨b2, hb2⟩ : ∃ g, w8.heap.size = g := ⟨_, rfl⟩
    (try rw [hb2])
    generalize hw9 : World.alloc w8 _ = w9
    have hma : Mod nil w8 w9 := by rw [← hw9]; exact (Mod.refl _ _).alloc _
    have hmk := hmj.thenNil hma
    have HB2 : Hid (w9.heap[b2]? = some (.cells #[.int .i64 XBk, .slice q2 j2 u2] 32 (0, 0))) := Lib.hid (by rw [← hw9, ← hb2]; exact heap_alloc_new _ _)
    have HR2 := Lib.hid (hr2.modNil hma)
    have HB0' := Lib.hid (hmk.keep HB0.out)
    clear HB0
    have HB0 := HB0'
    clear HB0'
    have HR0' := Lib.hid (HR0.out.modNil hmk)
    clear HR0
    have HR0 := HR0'
    clear HR0'
    have HB1' := Lib.hid (hmk.keep HB1.out)
    clear HB1
    have HB1 := HB1'
    clear HB1'
    have HR1' := Lib.hid (HR1.out.modNil hmk)
    clear HR1
    have HR1 := HR1'
    clear HR1'
    have HM9 := Lib.hid (HM7.out.thenNil hmk)
    have HK9 := Lib.hid (HK7.out.thenNil hmk)
    clear hw9 hma hmk hmj hb2 hr2 a0 a1 a2 a3 a4 a5 a6 a7 x0 x1 x2 x3 x4 x5 x6 y0 y1 y2 y3 y4 y5 y6
    obtain ⟨a0, a1, a2, a3, a4, a5, a6, a7, x0, x1, x2, x3, x4, x5, x6, y0, y1, y2, y3, y4, y5, y6⟩ := HKEEP.out w9 HK9.out
    go_wp2_with fail
    have hcall := refSends _ which seq nb cb pb B w9 (HROW.out.modNil HM9.out) (fun k hk => Nat.lt_of_lt_of_le hk HM9.out.size) (by omega)
    have hx := HXB.out
    rw [hx] at hcall
    clear hx
    refine hcall.mono ?_
    clear hcall
    rintro e w10 ⟨q3, j3, u3, rfl, hr3, hmj⟩
    simp only at hr3
    have h1 := HK9.out.thenNil hmj
    clear a0 a1 a2 a3 a4 a5 a6 a7 x0 x1 x2 x3 x4 x5 x6 y0 y1 y2 y3 y4 y5 y6
    obtain ⟨a0, a1, a2, a3, a4, a5, a6, a7, x0, x1, x2, x3, x4, x5, x6, y0, y1, y2, y3, y4, y5, y6⟩ := HKEEP.out w10 h1
    clear h1
    go_upto_region 9 with (fail)
    obtain ⟨b3, hb3⟩ : ∃ g, w10.heap.size = g := ⟨_, rfl⟩
    (try rw [hb3])
    generalize hw11 : World.alloc w10 _ = w11
    have hma : Mod nil w10 w11 := by rw [← hw11]; exact (Mod.refl _ _).alloc _
    have hmk := hmj.thenNil hma
    have HB3 : Hid (w11.heap[b3]? = some (.cells #[.int .i64 XBk, .slice q3 j3 u3] 32 (0, 0))) := Lib.hid (by rw [← hw11, ← hb3]; exact heap_alloc_new _ _)
    have HR3 := Lib.hid (hr3.modNil hma)
    have HB0' := Lib.hid (hmk.keep HB0.out)
    clear HB0
    have HB0 := HB0'
    clear HB0'
    have HR0' := Lib.hid (HR0.out.modNil hmk)
    clear HR0
    have HR0 := HR0'
    clear HR0'
    have HB1' := Lib.hid (hmk.keep HB1.out)
    clear HB1
    have HB1 := HB1'
    clear HB1'
    have HR1' := Lib.hid (HR1.out.modNil hmk)
    clear HR1
    have HR1 := HR1'
    clear HR1'
    have HB2' := Lib.hid (hmk.keep HB2.out)
    clear HB2
    have HB2 := HB2'
    clear HB2'
    have HR2' := Lib.hid (HR2.out.modNil hmk)
    clear HR2
    have HR2 := HR2'
    clear HR2'
    have HM11 := Lib.hid (HM9.out.thenNil hmk)
    have HK11 := Lib.hid (HK9.out.thenNil hmk)
    clear hw11 hma hmk hmj hb3 hr3 a0 a1 a2 a3 a4 a5 a6 a7 x0 x1 x2 x3 x4 x5 x6 y0 y1 y2 y3 y4 y5 y6
    obtain ⟨a0, a1, a2, a3, a4, a5, a6, a7, x0, x1, x2, x3, x4, x5, x6, y0, y1, y2, y3, y4, y5, y6⟩ := HKEEP.out w11 HK11.out
    obtain ⟨⟨⟨XCk, XCb⟩, XCe⟩, hXC⟩ : ∃ y, boundF 3 which seq B = y := ⟨_, rfl⟩
    have HXC := Lib.hid hXC
    clear hXC
    go_wp2_with fail
    have hcall := viewReceipts _ which seq nb cb pb B w11 (HROW.out.modNil HM11.out) (fun k hk => Nat.lt_of_lt_of_le hk HM11.out.size) (by omega)
    have hx := HXC.out
    rw [hx] at hcall
    clear hx
    refine hcall.mono ?_
    clear hcall
    rintro e w12 ⟨q4, j4, u4, rfl, hr4, hmj⟩
    simp only at hr4
    have h1 := HK11.out.thenNil hmj
    clear a0 a1 a2 a3 a4 a5 a6 a7 x0 x1 x2 x3 x4 x5 x6 y0 y1 y2 y3 y4 y5 y6
    obtain ⟨a0, a1, a2, a3, a4, a5, a6, a7, x0, x1, x2, x3, x4, x5, x6, y0, y1, y2, y3, y4, y5, y6⟩ := HKEEP.out w12 h1
    clear h1
    go_upto_region 10 with (fail)
    obtain ⟨b4, hb4⟩ : ∃ g, w12.heap.size = g := ⟨_, rfl⟩
    (try rw [hb4])
    generalize hw13 : World.alloc w12 _ = w13
    have hma : Mod nil w12 w13 := by rw [← hw13]; exact (Mod.refl _ _).alloc _
    have hmk := hmj.thenNil hma
    have HB4 : Hid (w13.heap[b4]? = some (.cells #[.int .i64 XCk, .slice q4 j4 u4] 32 (0, 0))) := Lib.hid (by rw [← hw13, ← hb4]; exact heap_alloc_new _ _)
    have HR4 := Lib.hid (hr4.modNil hma)
    have HB0' := Lib.hid (hmk.keep HB0.out)
    clear HB0
    have HB0 := HB0'
    clear HB0'
    have HR0' := Lib.hid (HR0.out.modNil hmk)
    clear HR0
    have HR0 := HR0'
    clear HR0'
    have HB1' := Lib.hid (hmk.keep HB1.out)
    clear HB1
    have HB1 := HB1'
    clear HB1'
    have HR1' := Lib.hid (HR1.out.modNil hmk)
    clear HR1
    have HR1 := HR1'
    clear HR1'
    have HB2' := Lib.hid (hmk.keep HB2.out)
    clear HB2
    have HB2 := HB2'
    clear HB2'
    have HR2' := Lib.hid (HR2.out.modNil hmk)
    clear HR2
    have HR2 := HR2'
    clear HR2'
    have HB3' := Lib.hid (hmk.keep HB3.out)
    clear HB3
    have HB3 := HB3'
    clear HB3'
    have HR3' := Lib.hid (HR3.out.modNil hmk)
    clear HR3
    have HR3 := HR3'
    clear HR3'
    have HM13 := Lib.hid (HM11.out.thenNil hmk)
    have HK13 := Lib.hid (HK11.out.thenNil hmk)
    clear hw13 hma hmk hmj hb4 hr4 a0 a1 a2 a3 a4 a5 a6 a7 x0 x1 x2 x3 x4 x5 x6 y0 y1 y2 y3 y4 y5 y6
    obtain ⟨a0, a1, a2, a3, a4, a5, a6, a7, x0, x1, x2, x3, x4, x5, x6, y0, y1, y2, y3, y4, y5, y6⟩ := HKEEP.out w13 HK13.out
    go_wp2_with fail
    have hcall := refReceipts _ which seq nb cb pb B w13 (HROW.out.modNil HM13.out) (fun k hk => Nat.lt_of_lt_of_le hk HM13.out.size) (by omega)
    have hx := HXC.out
    rw [hx] at hcall
    clear hx
    refine hcall.mono ?_
    clear hcall
    rintro e w14 ⟨q5, j5, u5, rfl, hr5, hmj⟩
    simp only at hr5
    have h1 := HK13.out.thenNil hmj
    clear a0 a1 a2 a3 a4 a5 a6 a7 x0 x1 x2 x3 x4 x5 x6 y0 y1 y2 y3 y4 y5 y6
    obtain ⟨a0, a1, a2, a3, a4, a5, a6, a7, x0, x1, x2, x3, x4, x5, x6, y0, y1, y2, y3, y4, y5, y6⟩ := HKEEP.out w14 h1
    clear h1
    go_upto_region 11 with (fail)
    obtain ⟨b5, hb5⟩ : ∃ g, w14.heap.size = g := ⟨_, rfl⟩
    (try rw [hb5])
    generalize hw15 : World.alloc w14 _ = w15
    have hma : Mod nil w14 w15 := by rw [← hw15]; exact (Mod.refl _ _).alloc _
    have hmk := hmj.thenNil hma
    have HB5 : Hid (w15.heap[b5]? = some (.cells #[.int .i64 XCk, .slice q5 j5 u5] 32 (0, 0))) := Lib.hid (by rw [← hw15, ← hb5]; exact heap_alloc_new _ _)
    have HR5 := Lib.hid (hr5.modNil hma)
    have HB0' := Lib.hid (hmk.keep HB0.out)
    clear HB0
    have HB0 := HB0'
    clear HB0'
    have HR0' := Lib.hid (HR0.out.modNil hmk)
    clear HR0
    have HR0 := HR0'
    clear HR0'
    have HB1' := Lib.hid (hmk.keep HB1.out)
    clear HB1
    have HB1 := HB1'
    clear HB1'
    have HR1' := Lib.hid (HR1.out.modNil hmk)
    clear HR1
    have HR1 := HR1'
    clear HR1'
    have HB2' := Lib.hid (hmk.keep HB2.out)
    clear HB2
    have HB2 := HB2'
    clear HB2'
    have HR2' := Lib.hid (HR2.out.modNil hmk)
    clear HR2
    have HR2 := HR2'
    clear HR2'
    have HB3' := Lib.hid (hmk.keep HB3.out)
    clear HB3
    have HB3 := HB3'
    clear HB3'
    have HR3' := Lib.hid (HR3.out.modNil hmk)
    clear HR3
    have HR3 := HR3'
    clear HR3'
    have HB4' := Lib.hid (hmk.keep HB4.out)
    clear HB4
    have HB4 := HB4'
    clear HB4'
    have HR4' := Lib.hid (HR4.out.modNil hmk)
    clear HR4
    have HR4 := HR4'
    clear HR4'
    have HM15 := Lib.hid (HM13.out.thenNil hmk)
    have HK15 := Lib.hid (HK13.out.thenNil hmk)
    clear hw15 hma hmk hmj hb5 hr5 a0 a1 a2 a3 a4 a5 a6 a7 x0 x1 x2 x3 x4 x5 x6 y0 y1 y2 y3 y4 y5 y6
    obtain ⟨a0, a1, a2, a3, a4, a5, a6, a7, x0, x1, x2, x3, x4, x5, x6, y0, y1, y2, y3, y4, y5, y6⟩ := HKEEP.out w15 HK15.out
    obtain ⟨⟨⟨XDk, XDb⟩, XDe⟩, hXD⟩ : ∃ y, entF 4 (encN [] 0 seq 2) [] = y := ⟨_, rfl⟩
    have HXD := Lib.hid hXD
    clear hXD
    go_wp2_with fail
    have hcall := viewReveals seq w15
    have hx := HXD.out
    rw [hx] at hcall
    clear hx
    refine hcall.mono ?_
    clear hcall
    rintro e w16 ⟨q6, j6, u6, rfl, hr6, hmj⟩
    simp only at hr6
    have h1 := HK15.out.thenNil hmj
    clear a0 a1 a2 a3 a4 a5 a6 a7 x0 x1 x2 x3 x4 x5 x6 y0 y1 y2 y3 y4 y5 y6
    obtain ⟨a0, a1, a2, a3, a4, a5, a6, a7, x0, x1, x2, x3, x4, x5, x6, y0, y1, y2, y3, y4, y5, y6⟩ := HKEEP.out w16 h1
    clear h1
    go_upto_region 12 with (fail)
    obtain ⟨b6, hb6⟩ : ∃ g, w16.heap.size = g := ⟨_, rfl⟩
    (try rw [hb6])
    generalize hw17 : World.alloc w16 _ = w17
    have hma : Mod nil w16 w17 := by rw [← hw17]; exact (Mod.refl _ _).alloc _
    have hmk := hmj.thenNil hma
    have HB6 : Hid (w17.heap[b6]? = some (.cells #[.int .i64 XDk, .slice q6 j6 u6] 32 (0, 0))) := Lib.hid (by rw [← hw17, ← hb6]; exact heap_alloc_new _ _)
    have HR6 := Lib.hid (hr6.modNil hma)
    have HB0' := Lib.hid (hmk.keep HB0.out)
    clear HB0
    have HB0 := HB0'
    clear HB0'
    have HR0' := Lib.hid (HR0.out.modNil hmk)
    clear HR0
    have HR0 := HR0'
    clear HR0'
    have HB1' := Lib.hid (hmk.keep HB1.out)
    clear HB1
    have HB1 := HB1'
    clear HB1'
    have HR1' := Lib.hid (HR1.out.modNil hmk)
    clear HR1
    have HR1 := HR1'
    clear HR1'
    have HB2' := Lib.hid (hmk.keep HB2.out)
    clear HB2
    have HB2 := HB2'
    clear HB2'
    have HR2' := Lib.hid (HR2.out.modNil hmk)
    clear HR2
    have HR2 := HR2'
    clear HR2'
    have HB3' := Lib.hid (hmk.keep HB3.out)
    clear HB3
    have HB3 := HB3'
    clear HB3'
    have HR3' := Lib.hid (HR3.out.modNil hmk)
    clear HR3
    have HR3 := HR3'
    clear HR3'
    have HB4' := Lib.hid (hmk.keep HB4.out)
    clear HB4
    have HB4 := HB4'
    clear HB4'
    have HR4' := Lib.hid (HR4.out.modNil hmk)
    clear HR4
    have HR4 := HR4'
    clear HR4'
    have HB5' := Lib.hid (hmk.keep HB5.out)
    clear HB5
    have HB5 := HB5'
    clear HB5'
    have HR5' := Lib.hid (HR5.out.modNil hmk)
    clear HR5
    have HR5 := HR5'
    clear HR5'
    have HM17 := Lib.hid (HM15.out.thenNil hmk)
    have HK17 := Lib.hid (HK15.out.thenNil hmk)
    clear hw17 hma hmk hmj hb6 hr6 a0 a1 a2 a3 a4 a5 a6 a7 x0 x1 x2 x3 x4 x5 x6 y0 y1 y2 y3 y4 y5 y6
    obtain ⟨a0, a1, a2, a3, a4, a5, a6, a7, x0, x1, x2, x3, x4, x5, x6, y0, y1, y2, y3, y4, y5, y6⟩ := HKEEP.out w17 HK17.out
    go_wp2_with fail
    have hcall := refReveals seq w17
    have hx := HXD.out
    rw [hx] at hcall
    clear hx
    refine hcall.mono ?_
    clear hcall
    rintro e w18 ⟨q7, j7, u7, rfl, hr7, hmj⟩
    simp only at hr7
    have h1 := HK17.out.thenNil hmj
    clear a0 a1 a2 a3 a4 a5 a6 a7 x0 x1 x2 x3 x4 x5 x6 y0 y1 y2 y3 y4 y5 y6
    obtain ⟨a0, a1, a2, a3, a4, a5, a6, a7, x0, x1, x2, x3, x4, x5, x6, y0, y1, y2, y3, y4, y5, y6⟩ := HKEEP.out w18 h1
    clear h1
    go_upto_region 13 with (fail)
    obtain ⟨b7, hb7⟩ : ∃ g, w18.heap.size = g := ⟨_, rfl⟩
    (try rw [hb7])
    generalize hw19 : World.alloc w18 _ = w19
    have hma : Mod nil w18 w19 := by rw [← hw19]; exact (Mod.refl _ _).alloc _
    have hmk := hmj.thenNil hma
    have HB7 : Hid (w19.heap[b7]? = some (.cells #[.int .i64 XDk, .slice q7 j7 u7] 32 (0, 0))) := Lib.hid (by rw [← hw19, ← hb7]; exact heap_alloc_new _ _)
    have HR7 := Lib.hid (hr7.modNil hma)
    have HB0' := Lib.hid (hmk.keep HB0.out)
    clear HB0
    have HB0 := HB0'
    clear HB0'
    have HR0' := Lib.hid (HR0.out.modNil hmk)
    clear HR0
    have HR0 := HR0'
    clear HR0'
    have HB1' := Lib.hid (hmk.keep HB1.out)
    clear HB1
    have HB1 := HB1'
    clear HB1'
    have HR1' := Lib.hid (HR1.out.modNil hmk)
    clear HR1
    have HR1 := HR1'
    clear HR1'
    have HB2' := Lib.hid (hmk.keep HB2.out)
    clear HB2
    have HB2 := HB2'
    clear HB2'
    have HR2' := Lib.hid (HR2.out.modNil hmk)
    clear HR2
    have HR2 := HR2'
    clear HR2'
    have HB3' := Lib.hid (hmk.keep HB3.out)
    clear HB3
    have HB3 := HB3'
    clear HB3'
    have HR3' := Lib.hid (HR3.out.modNil hmk)
    clear HR3
    have HR3 := HR3'
    clear HR3'
    have HB4' := Lib.hid (hmk.keep HB4.out)
    clear HB4
    have HB4 := HB4'
    clear HB4'
    have HR4' := Lib.hid (HR4.out.modNil hmk)
    clear HR4
    have HR4 := HR4'
    clear HR4'
    have HB5' := Lib.hid (hmk.keep HB5.out)
    clear HB5
    have HB5 := HB5'
    clear HB5'
    have HR5' := Lib.hid (HR5.out.modNil hmk)
    clear HR5
    have HR5 := HR5'
    clear HR5'
    have HB6' := Lib.hid (hmk.keep HB6.out)
    clear HB6
    have HB6 := HB6'
    clear HB6'
    have HR6' := Lib.hid (HR6.out.modNil hmk)
    clear HR6
    have HR6 := HR6'
    clear HR6'
    have HM19 := Lib.hid (HM17.out.thenNil hmk)
    have HK19 := Lib.hid (HK17.out.thenNil hmk)
    clear hw19 hma hmk hmj hb7 hr7 a0 a1 a2 a3 a4 a5 a6 a7 x0 x1 x2 x3 x4 x5 x6 y0 y1 y2 y3 y4 y5 y6
    obtain ⟨a0, a1, a2, a3, a4, a5, a6, a7, x0, x1, x2, x3, x4, x5, x6, y0, y1, y2, y3, y4, y5, y6⟩ := HKEEP.out w19 HK19.out
    have HEK : Hid (∀ W, Mod nil w19 W → W.cell? ⟨b0, 0, none⟩ = some (.int .i64 XAk) ∧ W.cell? ⟨b0, 1, none⟩ = some (.slice q0 j0 u0) ∧ W.cell? ⟨b1, 0, none⟩ = some (.int .i64 XAk) ∧ W.cell? ⟨b1, 1, none⟩ = some (.slice q1 j1 u1) ∧ W.cell? ⟨b2, 0, none⟩ = some (.int .i64 XBk) ∧ W.cell? ⟨b2, 1, none⟩ = some (.slice q2 j2 u2) ∧ W.cell? ⟨b3, 0, none⟩ = some (.int .i64 XBk) ∧ W.cell? ⟨b3, 1, none⟩ = some (.slice q3 j3 u3) ∧ W.cell? ⟨b4, 0, none⟩ = some (.int .i64 XCk) ∧ W.cell? ⟨b4, 1, none⟩ = some (.slice q4 j4 u4) ∧ W.cell? ⟨b5, 0, none⟩ = some (.int .i64 XCk) ∧ W.cell? ⟨b5, 1, none⟩ = some (.slice q5 j5 u5) ∧ W.cell? ⟨b6, 0, none⟩ = some (.int .i64 XDk) ∧ W.cell? ⟨b6, 1, none⟩ = some (.slice q6 j6 u6) ∧ W.cell? ⟨b7, 0, none⟩ = some (.int .i64 XDk) ∧ W.cell? ⟨b7, 1, none⟩ = some (.slice q7 j7 u7)) := Lib.hid (fun W m => ⟨cell_of (m.keep HB0.out) 0, cell_of (m.keep HB0.out) 1, cell_of (m.keep HB1.out) 0, cell_of (m.keep HB1.out) 1, cell_of (m.keep HB2.out) 0, cell_of (m.keep HB2.out) 1, cell_of (m.keep HB3.out) 0, cell_of (m.keep HB3.out) 1, cell_of (m.keep HB4.out) 0, cell_of (m.keep HB4.out) 1, cell_of (m.keep HB5.out) 0, cell_of (m.keep HB5.out) 1, cell_of (m.keep HB6.out) 0, cell_of (m.keep HB6.out) 1, cell_of (m.keep HB7.out) 0, cell_of (m.keep HB7.out) 1⟩)
    clear HB0 HB1 HB2 HB3 HB4 HB5 HB6 HB7
    have HK : Hid (∀ W, Mod nil w19 W → (fun w' => w'.cell? ⟨b0, 0, none⟩ = some (.int .i64 XAk) ∧ w'.cell? ⟨b0, 1, none⟩ = some (.slice q0 j0 u0) ∧ w'.cell? ⟨b1, 0, none⟩ = some (.int .i64 XAk) ∧ w'.cell? ⟨b1, 1, none⟩ = some (.slice q1 j1 u1) ∧ w'.cell? ⟨b2, 0, none⟩ = some (.int .i64 XBk) ∧ w'.cell? ⟨b2, 1, none⟩ = some (.slice q2 j2 u2) ∧ w'.cell? ⟨b3, 0, none⟩ = some (.int .i64 XBk) ∧ w'.cell? ⟨b3, 1, none⟩ = some (.slice q3 j3 u3) ∧ w'.cell? ⟨b4, 0, none⟩ = some (.int .i64 XCk) ∧ w'.cell? ⟨b4, 1, none⟩ = some (.slice q4 j4 u4) ∧ w'.cell? ⟨b5, 0, none⟩ = some (.int .i64 XCk) ∧ w'.cell? ⟨b5, 1, none⟩ = some (.slice q5 j5 u5) ∧ w'.cell? ⟨b6, 0, none⟩ = some (.int .i64 XDk) ∧ w'.cell? ⟨b6, 1, none⟩ = some (.slice q6 j6 u6) ∧ w'.cell? ⟨b7, 0, none⟩ = some (.int .i64 XDk) ∧ w'.cell? ⟨b7, 1, none⟩ = some (.slice q7 j7 u7) ∧ w'.cell? ⟨g + 1, 0, none⟩ = some (.int .i64 sd) ∧ w'.cell? ⟨g + 1, 1, none⟩ = some (.int .i64 sp) ∧ w'.cell? ⟨g + 1, 2, none⟩ = some (.slice s0 n0 k0) ∧ w'.cell? ⟨g + 1, 3, none⟩ = some (.slice s1 n1 k1) ∧ w'.cell? ⟨g + 1, 4, none⟩ = some (.slice s2 n2 k2) ∧ w'.cell? ⟨g + 1, 5, none⟩ = some (.slice s3 n3 k3) ∧ w'.cell? ⟨g + 1, 6, none⟩ = some (.int .i64 sv) ∧ w'.cell? ⟨g + 1 + 1, 0, none⟩ = some (.int .i64 td) ∧ w'.cell? ⟨g + 1 + 1, 1, none⟩ = some (.int .i64 tp) ∧ w'.cell? ⟨g + 1 + 1, 2, none⟩ = some (.slice t0 m0 l0) ∧ w'.cell? ⟨g + 1 + 1, 3, none⟩ = some (.slice t1 m1 l1) ∧ w'.cell? ⟨g + 1 + 1, 4, none⟩ = some (.slice t2 m2 l2) ∧ w'.cell? ⟨g + 1 + 1, 5, none⟩ = some (.slice t3 m3 l3) ∧ w'.cell? ⟨g + 1 + 1, 6, none⟩ = some (.int .i64 tv)) W) := Lib.hid (fun W m => by
      obtain ⟨a0, a1, a2, a3, a4, a5, a6, a7, x0, x1, x2, x3, x4, x5, x6, y0, y1, y2, y3, y4, y5, y6⟩ := HKEEP.out W (HK19.out.thenNil m)
      obtain ⟨z0, z0', z1, z1', z2, z2', z3, z3', z4, z4', z5, z5', z6, z6', z7, z7'⟩ := HEK.out W m
      exact ⟨z0, z0', z1, z1', z2, z2', z3, z3', z4, z4', z5, z5', z6, z6', z7, z7', x0, x1, x2, x3, x4, x5, x6, y0, y1, y2, y3, y4, y5, y6⟩)
    have HC0 : Hid (∀ V, Mod nil w19 V → Calls Tryz.prog 6 #[] V fun e w' => e = .returned (.bool true) ∧ Mod nil V w') := Lib.hid (fun V _ => vFirst V)
    have HC1 := Lib.hid (fun V (m : Mod nil w19 V) => entSame _ _ XAk q0 q1 j0 u0 j1 u1 XAb V (HR0.out.modNil m) (HR1.out.modNil m))
    have HC2 := Lib.hid (fun V (m : Mod nil w19 V) => entSame _ _ XBk q2 q3 j2 u2 j3 u3 XBb V (HR2.out.modNil m) (HR3.out.modNil m))
    have HC3 := Lib.hid (fun V (m : Mod nil w19 V) => entSame _ _ XCk q4 q5 j4 u4 j5 u5 XCb V (HR4.out.modNil m) (HR5.out.modNil m))
    have HC4 := Lib.hid (fun V (m : Mod nil w19 V) => entSame _ _ XDk q6 q7 j6 u6 j7 u7 XDb V (HR6.out.modNil m) (HR7.out.modNil m))
    have HC5 := Lib.hid (fun V (m : Mod nil w19 V) => HSAME.out ⟨by omega, by omega, by omega, by omega⟩ V (HM19.out.thenNil m))
    have HC6 := Lib.hid (fun V (m : Mod nil w19 V) => HRSAME.out ⟨by omega, by omega, by omega, by omega⟩ V (HM19.out.thenNil m))
    clear a0 a1 a2 a3 a4 a5 a6 a7 x0 x1 x2 x3 x4 x5 x6 y0 y1 y2 y3 y4 y5 y6 z0 f0 f1 f2 f3 e0 e1 e2 e3 hz hnb hz1
    refine wp_region_held_drew (S := (fun w' => w'.cell? ⟨b0, 0, none⟩ = some (.int .i64 XAk) ∧ w'.cell? ⟨b0, 1, none⟩ = some (.slice q0 j0 u0) ∧ w'.cell? ⟨b1, 0, none⟩ = some (.int .i64 XAk) ∧ w'.cell? ⟨b1, 1, none⟩ = some (.slice q1 j1 u1) ∧ w'.cell? ⟨b2, 0, none⟩ = some (.int .i64 XBk) ∧ w'.cell? ⟨b2, 1, none⟩ = some (.slice q2 j2 u2) ∧ w'.cell? ⟨b3, 0, none⟩ = some (.int .i64 XBk) ∧ w'.cell? ⟨b3, 1, none⟩ = some (.slice q3 j3 u3) ∧ w'.cell? ⟨b4, 0, none⟩ = some (.int .i64 XCk) ∧ w'.cell? ⟨b4, 1, none⟩ = some (.slice q4 j4 u4) ∧ w'.cell? ⟨b5, 0, none⟩ = some (.int .i64 XCk) ∧ w'.cell? ⟨b5, 1, none⟩ = some (.slice q5 j5 u5) ∧ w'.cell? ⟨b6, 0, none⟩ = some (.int .i64 XDk) ∧ w'.cell? ⟨b6, 1, none⟩ = some (.slice q6 j6 u6) ∧ w'.cell? ⟨b7, 0, none⟩ = some (.int .i64 XDk) ∧ w'.cell? ⟨b7, 1, none⟩ = some (.slice q7 j7 u7) ∧ w'.cell? ⟨g + 1, 0, none⟩ = some (.int .i64 sd) ∧ w'.cell? ⟨g + 1, 1, none⟩ = some (.int .i64 sp) ∧ w'.cell? ⟨g + 1, 2, none⟩ = some (.slice s0 n0 k0) ∧ w'.cell? ⟨g + 1, 3, none⟩ = some (.slice s1 n1 k1) ∧ w'.cell? ⟨g + 1, 4, none⟩ = some (.slice s2 n2 k2) ∧ w'.cell? ⟨g + 1, 5, none⟩ = some (.slice s3 n3 k3) ∧ w'.cell? ⟨g + 1, 6, none⟩ = some (.int .i64 sv) ∧ w'.cell? ⟨g + 1 + 1, 0, none⟩ = some (.int .i64 td) ∧ w'.cell? ⟨g + 1 + 1, 1, none⟩ = some (.int .i64 tp) ∧ w'.cell? ⟨g + 1 + 1, 2, none⟩ = some (.slice t0 m0 l0) ∧ w'.cell? ⟨g + 1 + 1, 3, none⟩ = some (.slice t1 m1 l1) ∧ w'.cell? ⟨g + 1 + 1, 4, none⟩ = some (.slice t2 m2 l2) ∧ w'.cell? ⟨g + 1 + 1, 5, none⟩ = some (.slice t3 m3 l3) ∧ w'.cell? ⟨g + 1 + 1, 6, none⟩ = some (.int .i64 tv))) (by kernel_rfl) (HK.out _ (by (repeat (first | assumption | exact Mod.refl _ _ | refine Mod.drew ?_ | refine Mod.alloc ?_ _)))) (fun hHeld => ?_)
    refine wpAnyH_ready (rs := [0]) (by kernel_rfl) (by simp) ?_
    refine AllReadyH.cons (i := 0) rfl (fun K hK => ?_) AllReadyH.nil
    (try dsimp (config := { proj := false }) only [List.getElem_toArray, List.getElem_cons_succ, List.getElem_cons_zero])
    go_simp
    refine (HC0.out _ ?_).mono ?_
    · (repeat (first | assumption | exact Mod.refl _ _ | refine Mod.drew ?_ | refine Mod.alloc ?_ _))
    rintro e v0 ⟨rfl, hmx⟩
    have hmv0 : Mod nil w19 v0 := (show Mod nil w19 _ from by (repeat (first | assumption | exact Mod.refl _ _ | refine Mod.drew ?_ | refine Mod.alloc ?_ _))).thenNil hmx
    clear hmx
    refine hK.out _ _ (HK.out _ (by (repeat (first | assumption | exact Mod.refl _ _ | refine Mod.drew ?_ | refine Mod.alloc ?_ _)))) (fun hHeld => ?_)
    clear hK K
    (try simp only [Act.put, List.setIfInBounds_toArray, List.set_cons_zero, List.set_cons_succ])
    (try simp only [List.set_cons_succ, List.set_cons_zero])
    refine wpAnyH_take (i := 1) (v := ?_) rfl (by kernel_rfl) (by kernel_rfl) (by kernel_rfl) (fun _ _ _ h => h) (Or.inl ⟨by kernel_rfl, ?_⟩) (by assumption) ?_
    rotate_left
    · intro w hSw; (try dsimp only at hSw); (first | (go_simp; done) | (go_simp; with_reducible rfl))
    (try simp only [Act.put, List.getElem_toArray, List.getElem_cons_succ, List.getElem_cons_zero, List.setIfInBounds_toArray, List.set_cons_succ, List.set_cons_zero])
    refine wpAnyH_take (i := 2) (v := ?_) rfl (by kernel_rfl) (by kernel_rfl) (by kernel_rfl) (fun _ _ _ h => h) (Or.inl ⟨by kernel_rfl, ?_⟩) (by assumption) ?_
    rotate_left
    · intro w hSw; (try dsimp only at hSw); (first | (go_simp; done) | (go_simp; with_reducible rfl))
    (try simp only [Act.put, List.getElem_toArray, List.getElem_cons_succ, List.getElem_cons_zero, List.setIfInBounds_toArray, List.set_cons_succ, List.set_cons_zero])
    refine wpAnyH_take (i := 3) (v := ?_) rfl (by kernel_rfl) (by kernel_rfl) (by kernel_rfl) (fun _ _ _ h => h) (Or.inl ⟨by kernel_rfl, ?_⟩) (by assumption) ?_
    rotate_left
    · intro w hSw; (try dsimp only at hSw); (first | (go_simp; done) | (go_simp; with_reducible rfl))
    (try simp only [Act.put, List.getElem_toArray, List.getElem_cons_succ, List.getElem_cons_zero, List.setIfInBounds_toArray, List.set_cons_succ, List.set_cons_zero])
    refine wpAnyH_ready (rs := [4]) (by kernel_rfl) (by simp) ?_
    refine AllReadyH.cons (i := 4) rfl (fun K hK => ?_) AllReadyH.nil
    (try dsimp (config := { proj := false }) only [List.getElem_toArray, List.getElem_cons_succ, List.getElem_cons_zero])
    go_simp
    refine (HC1.out _ ?_).mono ?_
    · (repeat (first | assumption | exact Mod.refl _ _ | refine Mod.drew ?_ | refine Mod.alloc ?_ _))
    rintro e v1 ⟨rfl, hmx⟩
    have hmv1 : Mod nil w19 v1 := (show Mod nil w19 _ from by (repeat (first | assumption | exact Mod.refl _ _ | refine Mod.drew ?_ | refine Mod.alloc ?_ _))).thenNil hmx
    clear hmx
    refine hK.out _ _ (HK.out _ (by (repeat (first | assumption | exact Mod.refl _ _ | refine Mod.drew ?_ | refine Mod.alloc ?_ _)))) (fun hHeld => ?_)
    clear hK K
    (try simp only [Act.put, List.setIfInBounds_toArray, List.set_cons_zero, List.set_cons_succ])
    (try simp only [List.set_cons_succ, List.set_cons_zero])
    refine wpAnyH_take (i := 5) (v := ?_) rfl (by kernel_rfl) (by kernel_rfl) (by kernel_rfl) (fun _ _ _ h => h) (Or.inl ⟨by kernel_rfl, ?_⟩) (by assumption) ?_
    rotate_left
    · intro w hSw; (try dsimp only at hSw); (first | (go_simp; done) | (go_simp; with_reducible rfl))
    (try simp only [Act.put, List.getElem_toArray, List.getElem_cons_succ, List.getElem_cons_zero, List.setIfInBounds_toArray, List.set_cons_succ, List.set_cons_zero])
    refine wpAnyH_take (i := 6) (v := ?_) rfl (by kernel_rfl) (by kernel_rfl) (by kernel_rfl) (fun _ _ _ h => h) (Or.inl ⟨by kernel_rfl, ?_⟩) (by assumption) ?_
    rotate_left
    · intro w hSw; (try dsimp only at hSw); (first | (go_simp; done) | (go_simp; with_reducible rfl))
    (try simp only [Act.put, List.getElem_toArray, List.getElem_cons_succ, List.getElem_cons_zero, List.setIfInBounds_toArray, List.set_cons_succ, List.set_cons_zero])
    refine wpAnyH_take (i := 7) (v := ?_) rfl (by kernel_rfl) (by kernel_rfl) (by kernel_rfl) (fun _ _ _ h => h) (Or.inl ⟨by kernel_rfl, ?_⟩) (by assumption) ?_
    rotate_left
    · intro w hSw; (try dsimp only at hSw); (first | (go_simp; done) | (go_simp; with_reducible rfl))
    (try simp only [Act.put, List.getElem_toArray, List.getElem_cons_succ, List.getElem_cons_zero, List.setIfInBounds_toArray, List.set_cons_succ, List.set_cons_zero])
    refine wpAnyH_take (i := 8) (v := ?_) rfl (by kernel_rfl) (by kernel_rfl) (by kernel_rfl) (fun _ _ _ h => h) (Or.inl ⟨by kernel_rfl, ?_⟩) (by assumption) ?_
    rotate_left
    · intro w hSw; (try dsimp only at hSw); (first | (go_simp; done) | (go_simp; with_reducible rfl))
    (try simp only [Act.put, List.getElem_toArray, List.getElem_cons_succ, List.getElem_cons_zero, List.setIfInBounds_toArray, List.set_cons_succ, List.set_cons_zero])
    refine wpAnyH_take (i := 9) (v := ?_) rfl (by kernel_rfl) (by kernel_rfl) (by kernel_rfl) (fun _ _ _ h => h) (Or.inl ⟨by kernel_rfl, ?_⟩) (by assumption) ?_
    rotate_left
    · intro w hSw; (try dsimp only at hSw); (first | (go_simp; done) | (go_simp; with_reducible rfl))
    (try simp only [Act.put, List.getElem_toArray, List.getElem_cons_succ, List.getElem_cons_zero, List.setIfInBounds_toArray, List.set_cons_succ, List.set_cons_zero])
    refine wpAnyH_take (i := 10) (v := ?_) rfl (by kernel_rfl) (by kernel_rfl) (by kernel_rfl) (fun _ _ _ h => h) (Or.inl ⟨by kernel_rfl, ?_⟩) (by assumption) ?_
    rotate_left
    · intro w hSw; (try dsimp only at hSw); (first | (go_simp; done) | (go_simp; with_reducible rfl))
    (try simp only [Act.put, List.getElem_toArray, List.getElem_cons_succ, List.getElem_cons_zero, List.setIfInBounds_toArray, List.set_cons_succ, List.set_cons_zero])
    refine wpAnyH_take (i := 11) (v := ?_) rfl (by kernel_rfl) (by kernel_rfl) (by kernel_rfl) (fun _ _ _ h => h) (Or.inl ⟨by kernel_rfl, ?_⟩) (by assumption) ?_
    rotate_left
    · intro w hSw; (try dsimp only at hSw); (first | (go_simp; done) | (go_simp; with_reducible rfl))
    (try simp only [Act.put, List.getElem_toArray, List.getElem_cons_succ, List.getElem_cons_zero, List.setIfInBounds_toArray, List.set_cons_succ, List.set_cons_zero])
    refine wpAnyH_take (i := 12) (v := ?_) rfl (by kernel_rfl) (by kernel_rfl) (by kernel_rfl) (fun _ _ _ h => h) (Or.inl ⟨by kernel_rfl, ?_⟩) (by assumption) ?_
    rotate_left
    · intro w hSw; (try dsimp only at hSw); (first | (go_simp; done) | (go_simp; with_reducible rfl))
    (try simp only [Act.put, List.getElem_toArray, List.getElem_cons_succ, List.getElem_cons_zero, List.setIfInBounds_toArray, List.set_cons_succ, List.set_cons_zero])
    refine wpAnyH_take (i := 13) (v := ?_) rfl (by kernel_rfl) (by kernel_rfl) (by kernel_rfl) (fun _ _ _ h => h) (Or.inl ⟨by kernel_rfl, ?_⟩) (by assumption) ?_
    rotate_left
    · intro w hSw; (try dsimp only at hSw); (first | (go_simp; done) | (go_simp; with_reducible rfl))
    (try simp only [Act.put, List.getElem_toArray, List.getElem_cons_succ, List.getElem_cons_zero, List.setIfInBounds_toArray, List.set_cons_succ, List.set_cons_zero])
    refine wpAnyH_ready (rs := [14]) (by kernel_rfl) (by simp) ?_
    refine AllReadyH.cons (i := 14) rfl (fun K hK => ?_) AllReadyH.nil
    (try dsimp (config := { proj := false }) only [List.getElem_toArray, List.getElem_cons_succ, List.getElem_cons_zero])
    go_simp
    refine (HC2.out _ ?_).mono ?_
    · (repeat (first | assumption | exact Mod.refl _ _ | refine Mod.drew ?_ | refine Mod.alloc ?_ _))
    rintro e v2 ⟨rfl, hmx⟩
    have hmv2 : Mod nil w19 v2 := (show Mod nil w19 _ from by (repeat (first | assumption | exact Mod.refl _ _ | refine Mod.drew ?_ | refine Mod.alloc ?_ _))).thenNil hmx
    clear hmx
    refine hK.out _ _ (HK.out _ (by (repeat (first | assumption | exact Mod.refl _ _ | refine Mod.drew ?_ | refine Mod.alloc ?_ _)))) (fun hHeld => ?_)
    clear hK K
    (try simp only [Act.put, List.setIfInBounds_toArray, List.set_cons_zero, List.set_cons_succ])
    (try simp only [List.set_cons_succ, List.set_cons_zero])
    refine wpAnyH_take (i := 15) (v := ?_) rfl (by kernel_rfl) (by kernel_rfl) (by kernel_rfl) (fun _ _ _ h => h) (Or.inl ⟨by kernel_rfl, ?_⟩) (by assumption) ?_
    rotate_left
    · intro w hSw; (try dsimp only at hSw); (first | (go_simp; done) | (go_simp; with_reducible rfl))
    (try simp only [Act.put, List.getElem_toArray, List.getElem_cons_succ, List.getElem_cons_zero, List.setIfInBounds_toArray, List.set_cons_succ, List.set_cons_zero])
    refine wpAnyH_take (i := 16) (v := ?_) rfl (by kernel_rfl) (by kernel_rfl) (by kernel_rfl) (fun _ _ _ h => h) (Or.inl ⟨by kernel_rfl, ?_⟩) (by assumption) ?_
    rotate_left
    · intro w hSw; (try dsimp only at hSw); (first | (go_simp; done) | (go_simp; with_reducible rfl))
    (try simp only [Act.put, List.getElem_toArray, List.getElem_cons_succ, List.getElem_cons_zero, List.setIfInBounds_toArray, List.set_cons_succ, List.set_cons_zero])
    refine wpAnyH_take (i := 17) (v := ?_) rfl (by kernel_rfl) (by kernel_rfl) (by kernel_rfl) (fun _ _ _ h => h) (Or.inl ⟨by kernel_rfl, ?_⟩) (by assumption) ?_
    rotate_left
    · intro w hSw; (try dsimp only at hSw); (first | (go_simp; done) | (go_simp; with_reducible rfl))
    (try simp only [Act.put, List.getElem_toArray, List.getElem_cons_succ, List.getElem_cons_zero, List.setIfInBounds_toArray, List.set_cons_succ, List.set_cons_zero])
    refine wpAnyH_take (i := 18) (v := ?_) rfl (by kernel_rfl) (by kernel_rfl) (by kernel_rfl) (fun _ _ _ h => h) (Or.inl ⟨by kernel_rfl, ?_⟩) (by assumption) ?_
    rotate_left
    · intro w hSw; (try dsimp only at hSw); (first | (go_simp; done) | (go_simp; with_reducible rfl))
    (try simp only [Act.put, List.getElem_toArray, List.getElem_cons_succ, List.getElem_cons_zero, List.setIfInBounds_toArray, List.set_cons_succ, List.set_cons_zero])
    refine wpAnyH_take (i := 19) (v := ?_) rfl (by kernel_rfl) (by kernel_rfl) (by kernel_rfl) (fun _ _ _ h => h) (Or.inl ⟨by kernel_rfl, ?_⟩) (by assumption) ?_
    rotate_left
    · intro w hSw; (try dsimp only at hSw); (first | (go_simp; done) | (go_simp; with_reducible rfl))
    (try simp only [Act.put, List.getElem_toArray, List.getElem_cons_succ, List.getElem_cons_zero, List.setIfInBounds_toArray, List.set_cons_succ, List.set_cons_zero])
    refine wpAnyH_take (i := 20) (v := ?_) rfl (by kernel_rfl) (by kernel_rfl) (by kernel_rfl) (fun _ _ _ h => h) (Or.inl ⟨by kernel_rfl, ?_⟩) (by assumption) ?_
    rotate_left
    · intro w hSw; (try dsimp only at hSw); (first | (go_simp; done) | (go_simp; with_reducible rfl))
    (try simp only [Act.put, List.getElem_toArray, List.getElem_cons_succ, List.getElem_cons_zero, List.setIfInBounds_toArray, List.set_cons_succ, List.set_cons_zero])
    refine wpAnyH_take (i := 21) (v := ?_) rfl (by kernel_rfl) (by kernel_rfl) (by kernel_rfl) (fun _ _ _ h => h) (Or.inl ⟨by kernel_rfl, ?_⟩) (by assumption) ?_
    rotate_left
    · intro w hSw; (try dsimp only at hSw); (first | (go_simp; done) | (go_simp; with_reducible rfl))
    (try simp only [Act.put, List.getElem_toArray, List.getElem_cons_succ, List.getElem_cons_zero, List.setIfInBounds_toArray, List.set_cons_succ, List.set_cons_zero])
    refine wpAnyH_take (i := 22) (v := ?_) rfl (by kernel_rfl) (by kernel_rfl) (by kernel_rfl) (fun _ _ _ h => h) (Or.inl ⟨by kernel_rfl, ?_⟩) (by assumption) ?_
    rotate_left
    · intro w hSw; (try dsimp only at hSw); (first | (go_simp; done) | (go_simp; with_reducible rfl))
    (try simp only [Act.put, List.getElem_toArray, List.getElem_cons_succ, List.getElem_cons_zero, List.setIfInBounds_toArray, List.set_cons_succ, List.set_cons_zero])
    refine wpAnyH_take (i := 23) (v := ?_) rfl (by kernel_rfl) (by kernel_rfl) (by kernel_rfl) (fun _ _ _ h => h) (Or.inl ⟨by kernel_rfl, ?_⟩) (by assumption) ?_
    rotate_left
    · intro w hSw; (try dsimp only at hSw); (first | (go_simp; done) | (go_simp; with_reducible rfl))
    (try simp only [Act.put, List.getElem_toArray, List.getElem_cons_succ, List.getElem_cons_zero, List.setIfInBounds_toArray, List.set_cons_succ, List.set_cons_zero])
    refine wpAnyH_ready (rs := [24]) (by kernel_rfl) (by simp) ?_
    refine AllReadyH.cons (i := 24) rfl (fun K hK => ?_) AllReadyH.nil
    (try dsimp (config := { proj := false }) only [List.getElem_toArray, List.getElem_cons_succ, List.getElem_cons_zero])
    go_simp
    refine (HC3.out _ ?_).mono ?_
    · (repeat (first | assumption | exact Mod.refl _ _ | refine Mod.drew ?_ | refine Mod.alloc ?_ _))
    rintro e v3 ⟨rfl, hmx⟩
    have hmv3 : Mod nil w19 v3 := (show Mod nil w19 _ from by (repeat (first | assumption | exact Mod.refl _ _ | refine Mod.drew ?_ | refine Mod.alloc ?_ _))).thenNil hmx
    clear hmx
    refine hK.out _ _ (HK.out _ (by (repeat (first | assumption | exact Mod.refl _ _ | refine Mod.drew ?_ | refine Mod.alloc ?_ _)))) (fun hHeld => ?_)
    clear hK K
    (try simp only [Act.put, List.setIfInBounds_toArray, List.set_cons_zero, List.set_cons_succ])
    (try simp only [List.set_cons_succ, List.set_cons_zero])
    refine wpAnyH_take (i := 25) (v := ?_) rfl (by kernel_rfl) (by kernel_rfl) (by kernel_rfl) (fun _ _ _ h => h) (Or.inl ⟨by kernel_rfl, ?_⟩) (by assumption) ?_
    rotate_left
    · intro w hSw; (try dsimp only at hSw); (first | (go_simp; done) | (go_simp; with_reducible rfl))
    (try simp only [Act.put, List.getElem_toArray, List.getElem_cons_succ, List.getElem_cons_zero, List.setIfInBounds_toArray, List.set_cons_succ, List.set_cons_zero])
    refine wpAnyH_take (i := 26) (v := ?_) rfl (by kernel_rfl) (by kernel_rfl) (by kernel_rfl) (fun _ _ _ h => h) (Or.inl ⟨by kernel_rfl, ?_⟩) (by assumption) ?_
    rotate_left
    · intro w hSw; (try dsimp only at hSw); (first | (go_simp; done) | (go_simp; with_reducible rfl))
    (try simp only [Act.put, List.getElem_toArray, List.getElem_cons_succ, List.getElem_cons_zero, List.setIfInBounds_toArray, List.set_cons_succ, List.set_cons_zero])
    refine wpAnyH_take (i := 27) (v := ?_) rfl (by kernel_rfl) (by kernel_rfl) (by kernel_rfl) (fun _ _ _ h => h) (Or.inl ⟨by kernel_rfl, ?_⟩) (by assumption) ?_
    rotate_left
    · intro w hSw; (try dsimp only at hSw); (first | (go_simp; done) | (go_simp; with_reducible rfl))
    (try simp only [Act.put, List.getElem_toArray, List.getElem_cons_succ, List.getElem_cons_zero, List.setIfInBounds_toArray, List.set_cons_succ, List.set_cons_zero])
    refine wpAnyH_take (i := 28) (v := ?_) rfl (by kernel_rfl) (by kernel_rfl) (by kernel_rfl) (fun _ _ _ h => h) (Or.inl ⟨by kernel_rfl, ?_⟩) (by assumption) ?_
    rotate_left
    · intro w hSw; (try dsimp only at hSw); (first | (go_simp; done) | (go_simp; with_reducible rfl))
    (try simp only [Act.put, List.getElem_toArray, List.getElem_cons_succ, List.getElem_cons_zero, List.setIfInBounds_toArray, List.set_cons_succ, List.set_cons_zero])
    refine wpAnyH_take (i := 29) (v := ?_) rfl (by kernel_rfl) (by kernel_rfl) (by kernel_rfl) (fun _ _ _ h => h) (Or.inl ⟨by kernel_rfl, ?_⟩) (by assumption) ?_
    rotate_left
    · intro w hSw; (try dsimp only at hSw); (first | (go_simp; done) | (go_simp; with_reducible rfl))
    (try simp only [Act.put, List.getElem_toArray, List.getElem_cons_succ, List.getElem_cons_zero, List.setIfInBounds_toArray, List.set_cons_succ, List.set_cons_zero])
    refine wpAnyH_take (i := 30) (v := ?_) rfl (by kernel_rfl) (by kernel_rfl) (by kernel_rfl) (fun _ _ _ h => h) (Or.inl ⟨by kernel_rfl, ?_⟩) (by assumption) ?_
    rotate_left
    · intro w hSw; (try dsimp only at hSw); (first | (go_simp; done) | (go_simp; with_reducible rfl))
    (try simp only [Act.put, List.getElem_toArray, List.getElem_cons_succ, List.getElem_cons_zero, List.setIfInBounds_toArray, List.set_cons_succ, List.set_cons_zero])
    refine wpAnyH_take (i := 31) (v := ?_) rfl (by kernel_rfl) (by kernel_rfl) (by kernel_rfl) (fun _ _ _ h => h) (Or.inl ⟨by kernel_rfl, ?_⟩) (by assumption) ?_
    rotate_left
    · intro w hSw; (try dsimp only at hSw); (first | (go_simp; done) | (go_simp; with_reducible rfl))
    (try simp only [Act.put, List.getElem_toArray, List.getElem_cons_succ, List.getElem_cons_zero, List.setIfInBounds_toArray, List.set_cons_succ, List.set_cons_zero])
    refine wpAnyH_take (i := 32) (v := ?_) rfl (by kernel_rfl) (by kernel_rfl) (by kernel_rfl) (fun _ _ _ h => h) (Or.inl ⟨by kernel_rfl, ?_⟩) (by assumption) ?_
    rotate_left
    · intro w hSw; (try dsimp only at hSw); (first | (go_simp; done) | (go_simp; with_reducible rfl))
    (try simp only [Act.put, List.getElem_toArray, List.getElem_cons_succ, List.getElem_cons_zero, List.setIfInBounds_toArray, List.set_cons_succ, List.set_cons_zero])
    refine wpAnyH_take (i := 33) (v := ?_) rfl (by kernel_rfl) (by kernel_rfl) (by kernel_rfl) (fun _ _ _ h => h) (Or.inl ⟨by kernel_rfl, ?_⟩) (by assumption) ?_
    rotate_left
    · intro w hSw; (try dsimp only at hSw); (first | (go_simp; done) | (go_simp; with_reducible rfl))
    (try simp only [Act.put, List.getElem_toArray, List.getElem_cons_succ, List.getElem_cons_zero, List.setIfInBounds_toArray, List.set_cons_succ, List.set_cons_zero])
    refine wpAnyH_ready (rs := [34]) (by kernel_rfl) (by simp) ?_
    refine AllReadyH.cons (i := 34) rfl (fun K hK => ?_) AllReadyH.nil
    (try dsimp (config := { proj := false }) only [List.getElem_toArray, List.getElem_cons_succ, List.getElem_cons_zero])
    go_simp
    refine (HC4.out _ ?_).mono ?_
    · (repeat (first | assumption | exact Mod.refl _ _ | refine Mod.drew ?_ | refine Mod.alloc ?_ _))
    rintro e v4 ⟨rfl, hmx⟩
    have hmv4 : Mod nil w19 v4 := (show Mod nil w19 _ from by (repeat (first | assumption | exact Mod.refl _ _ | refine Mod.drew ?_ | refine Mod.alloc ?_ _))).thenNil hmx
    clear hmx
    refine hK.out _ _ (HK.out _ (by (repeat (first | assumption | exact Mod.refl _ _ | refine Mod.drew ?_ | refine Mod.alloc ?_ _)))) (fun hHeld => ?_)
    clear hK K
    (try simp only [Act.put, List.setIfInBounds_toArray, List.set_cons_zero, List.set_cons_succ])
    (try simp only [List.set_cons_succ, List.set_cons_zero])
    refine wpAnyH_take (i := 35) (v := ?_) rfl (by kernel_rfl) (by kernel_rfl) (by kernel_rfl) (fun _ _ _ h => h) (Or.inl ⟨by kernel_rfl, ?_⟩) (by assumption) ?_
    rotate_left
    · intro w hSw; (try dsimp only at hSw); (first | (go_simp; done) | (go_simp; with_reducible rfl))
    (try simp only [Act.put, List.getElem_toArray, List.getElem_cons_succ, List.getElem_cons_zero, List.setIfInBounds_toArray, List.set_cons_succ, List.set_cons_zero])
    refine wpAnyH_take (i := 36) (v := ?_) rfl (by kernel_rfl) (by kernel_rfl) (by kernel_rfl) (fun _ _ _ h => h) (Or.inl ⟨by kernel_rfl, ?_⟩) (by assumption) ?_
    rotate_left
    · intro w hSw; (try dsimp only at hSw); (first | (go_simp; done) | (go_simp; with_reducible rfl))
    (try simp only [Act.put, List.getElem_toArray, List.getElem_cons_succ, List.getElem_cons_zero, List.setIfInBounds_toArray, List.set_cons_succ, List.set_cons_zero])
    refine wpAnyH_take (i := 37) (v := ?_) rfl (by kernel_rfl) (by kernel_rfl) (by kernel_rfl) (fun _ _ _ h => h) (Or.inl ⟨by kernel_rfl, ?_⟩) (by assumption) ?_
    rotate_left
    · intro w hSw; (try dsimp only at hSw); (first | (go_simp; done) | (go_simp; with_reducible rfl))
    (try simp only [Act.put, List.getElem_toArray, List.getElem_cons_succ, List.getElem_cons_zero, List.setIfInBounds_toArray, List.set_cons_succ, List.set_cons_zero])
    refine wpAnyH_take (i := 38) (v := ?_) rfl (by kernel_rfl) (by kernel_rfl) (by kernel_rfl) (fun _ _ _ h => h) (Or.inl ⟨by kernel_rfl, ?_⟩) (by assumption) ?_
    rotate_left
    · intro w hSw; (try dsimp only at hSw); (first | (go_simp; done) | (go_simp; with_reducible rfl))
    (try simp only [Act.put, List.getElem_toArray, List.getElem_cons_succ, List.getElem_cons_zero, List.setIfInBounds_toArray, List.set_cons_succ, List.set_cons_zero])
    refine wpAnyH_take (i := 39) (v := ?_) rfl (by kernel_rfl) (by kernel_rfl) (by kernel_rfl) (fun _ _ _ h => h) (Or.inl ⟨by kernel_rfl, ?_⟩) (by assumption) ?_
    rotate_left
    · intro w hSw; (try dsimp only at hSw); (first | (go_simp; done) | (go_simp; with_reducible rfl))
    (try simp only [Act.put, List.getElem_toArray, List.getElem_cons_succ, List.getElem_cons_zero, List.setIfInBounds_toArray, List.set_cons_succ, List.set_cons_zero])
    refine wpAnyH_take (i := 40) (v := ?_) rfl (by kernel_rfl) (by kernel_rfl) (by kernel_rfl) (fun _ _ _ h => h) (Or.inl ⟨by kernel_rfl, ?_⟩) (by assumption) ?_
    rotate_left
    · intro w hSw; (try dsimp only at hSw); (first | (go_simp; done) | (go_simp; with_reducible rfl))
    (try simp only [Act.put, List.getElem_toArray, List.getElem_cons_succ, List.getElem_cons_zero, List.setIfInBounds_toArray, List.set_cons_succ, List.set_cons_zero])
    refine wpAnyH_take (i := 41) (v := ?_) rfl (by kernel_rfl) (by kernel_rfl) (by kernel_rfl) (fun _ _ _ h => h) (Or.inl ⟨by kernel_rfl, ?_⟩) (by assumption) ?_
    rotate_left
    · intro w hSw; (try dsimp only at hSw); (first | (go_simp; done) | (go_simp; with_reducible rfl))
    (try simp only [Act.put, List.getElem_toArray, List.getElem_cons_succ, List.getElem_cons_zero, List.setIfInBounds_toArray, List.set_cons_succ, List.set_cons_zero])
    refine wpAnyH_take (i := 42) (v := ?_) rfl (by kernel_rfl) (by kernel_rfl) (by kernel_rfl) (fun _ _ _ h => h) (Or.inl ⟨by kernel_rfl, ?_⟩) (by assumption) ?_
    rotate_left
    · intro w hSw; (try dsimp only at hSw); (first | (go_simp; done) | (go_simp; with_reducible rfl))
    (try simp only [Act.put, List.getElem_toArray, List.getElem_cons_succ, List.getElem_cons_zero, List.setIfInBounds_toArray, List.set_cons_succ, List.set_cons_zero])
    refine wpAnyH_take (i := 43) (v := ?_) rfl (by kernel_rfl) (by kernel_rfl) (by kernel_rfl) (fun _ _ _ h => h) (Or.inl ⟨by kernel_rfl, ?_⟩) (by assumption) ?_
    rotate_left
    · intro w hSw; (try dsimp only at hSw); (first | (go_simp; done) | (go_simp; with_reducible rfl))
    (try simp only [Act.put, List.getElem_toArray, List.getElem_cons_succ, List.getElem_cons_zero, List.setIfInBounds_toArray, List.set_cons_succ, List.set_cons_zero])
    refine wpAnyH_take (i := 45) (v := ?_) rfl (by kernel_rfl) (by kernel_rfl) (by kernel_rfl) (fun _ _ _ h => h) (Or.inl ⟨by kernel_rfl, ?_⟩) (by assumption) ?_
    rotate_left
    · intro w hSw; (try dsimp only at hSw); (first | (go_simp; done) | (go_simp; with_reducible rfl))
    (try simp only [Act.put, List.getElem_toArray, List.getElem_cons_succ, List.getElem_cons_zero, List.setIfInBounds_toArray, List.set_cons_succ, List.set_cons_zero])
    refine wpAnyH_take (i := 46) (v := ?_) rfl (by kernel_rfl) (by kernel_rfl) (by kernel_rfl) (fun _ _ _ h => h) (Or.inl ⟨by kernel_rfl, ?_⟩) (by assumption) ?_
    rotate_left
    · intro w hSw; (try dsimp only at hSw); (first | (go_simp; done) | (go_simp; with_reducible rfl))
    (try simp only [Act.put, List.getElem_toArray, List.getElem_cons_succ, List.getElem_cons_zero, List.setIfInBounds_toArray, List.set_cons_succ, List.set_cons_zero])
    refine wpAnyH_ready (rs := [44]) (by kernel_rfl) (by simp) ?_
    refine AllReadyH.cons (i := 44) rfl (fun K hK => ?_) AllReadyH.nil
    (try dsimp (config := { proj := false }) only [List.getElem_toArray, List.getElem_cons_succ, List.getElem_cons_zero])
    go_simp
    refine (HC5.out _ ?_).mono ?_
    · (repeat (first | assumption | exact Mod.refl _ _ | refine Mod.drew ?_ | refine Mod.alloc ?_ _))
    rintro e v5 ⟨rfl, hmx⟩
    have hmv5 : Mod nil w19 v5 := (show Mod nil w19 _ from by (repeat (first | assumption | exact Mod.refl _ _ | refine Mod.drew ?_ | refine Mod.alloc ?_ _))).thenNil hmx
    clear hmx
    refine hK.out _ _ (HK.out _ (by (repeat (first | assumption | exact Mod.refl _ _ | refine Mod.drew ?_ | refine Mod.alloc ?_ _)))) (fun hHeld => ?_)
    clear hK K
    (try simp only [Act.put, List.setIfInBounds_toArray, List.set_cons_zero, List.set_cons_succ])
    (try simp only [List.set_cons_succ, List.set_cons_zero])
    refine wpAnyH_ready (rs := [47]) (by kernel_rfl) (by simp) ?_
    refine AllReadyH.cons (i := 47) rfl (fun K hK => ?_) AllReadyH.nil
    (try dsimp (config := { proj := false }) only [List.getElem_toArray, List.getElem_cons_succ, List.getElem_cons_zero])
    go_simp
    refine (HC6.out _ ?_).mono ?_
    · (repeat (first | assumption | exact Mod.refl _ _ | refine Mod.drew ?_ | refine Mod.alloc ?_ _))
    rintro e v6 ⟨rfl, hmx⟩
    have hmv6 : Mod nil w19 v6 := (show Mod nil w19 _ from by (repeat (first | assumption | exact Mod.refl _ _ | refine Mod.drew ?_ | refine Mod.alloc ?_ _))).thenNil hmx
    clear hmx
    refine hK.out _ _ (HK.out _ (by (repeat (first | assumption | exact Mod.refl _ _ | refine Mod.drew ?_ | refine Mod.alloc ?_ _)))) (fun hHeld => ?_)
    clear hK K
    (try simp only [Act.put, List.setIfInBounds_toArray, List.set_cons_zero, List.set_cons_succ])
    (try simp only [List.set_cons_succ, List.set_cons_zero])
    refine wpAnyH_take (i := 48) (v := ?_) rfl (by kernel_rfl) (by kernel_rfl) (by kernel_rfl) (fun _ _ _ h => h) (Or.inl ⟨by kernel_rfl, ?_⟩) (by assumption) ?_
    rotate_left
    · intro w hSw; (try dsimp only at hSw); (first | (go_simp; done) | (go_simp; with_reducible rfl))
    (try simp only [Act.put, List.getElem_toArray, List.getElem_cons_succ, List.getElem_cons_zero, List.setIfInBounds_toArray, List.set_cons_succ, List.set_cons_zero])
    refine wpAnyH_take (i := 49) (v := ?_) rfl (by kernel_rfl) (by kernel_rfl) (by kernel_rfl) (fun _ _ _ h => h) (Or.inl ⟨by kernel_rfl, ?_⟩) (by assumption) ?_
    rotate_left
    · intro w hSw; (try dsimp only at hSw); (first | (go_simp; done) | (go_simp; with_reducible rfl))
    (try simp only [Act.put, List.getElem_toArray, List.getElem_cons_succ, List.getElem_cons_zero, List.setIfInBounds_toArray, List.set_cons_succ, List.set_cons_zero])
    refine wpAnyH_take (i := 50) (v := ?_) rfl (by kernel_rfl) (by kernel_rfl) (by kernel_rfl) (fun _ _ _ h => h) (Or.inl ⟨by kernel_rfl, ?_⟩) (by assumption) ?_
    rotate_left
    · intro w hSw; (try dsimp only at hSw); (first | (go_simp; done) | (go_simp; with_reducible rfl))
    (try simp only [Act.put, List.getElem_toArray, List.getElem_cons_succ, List.getElem_cons_zero, List.setIfInBounds_toArray, List.set_cons_succ, List.set_cons_zero])
    refine wpAnyH_done (by kernel_rfl) ?_ _
    have HE := Lib.hid (HPOST.out _ v6 ⟨rfl, HM19.out.thenNil hmv6⟩)
    clear hHeld
    clear hmv0 hmv1 hmv2 hmv3 hmv4 hmv5 hmv6
    go_wp2_with fail
    exact HE.out
set_option maxRecDepth 100000 in
theorem walkViewEntries (v0 v1 v2 v3 v4 v5 v6 : Value) (W : World) (r0 : Rd W 25 v0) (r1 : Rd W 9 v1) (r2 : Rd W 3 v2) (r3 : Rd W 3 v3) (r4 : Rd W 26 v4) (r5 : Rd W 28 v5) (r6 : Rd W 28 v6) :
    Calls Tryz.prog 3 #[v0, v1, v2, v3, v4, v5, v6] W fun e w' => e = .returned (.bool true) ∧ Below W.heap.size W w' := by
  obtain ⟨P, hp, hc, i1, i2, i3, i4⟩ := r0.planCap
  obtain ⟨z, rfl, -⟩ := Rd.string Tryz.underlying9 r1
  obtain ⟨n2, rfl, -⟩ := Rd.int Tryz.underlying3 r2
  obtain ⟨n3, rfl, -⟩ := Rd.int Tryz.underlying3 r3
  obtain ⟨pb, cb, B, rfl, -, -, hrow⟩ := r4.bytesCap
  obtain ⟨s, hs, -⟩ := r5.status
  obtain ⟨t, ht, -⟩ := r6.status
  obtain ⟨Z, rfl⟩ : ∃ Z : List UInt8, z = ⟨Z.toArray⟩ := ⟨z.data.toList, by simp⟩
  exact (lawViewEntries v0 v5 v6 P Z n2 n3 pb _ cb B s t W hp hc i1 i2 i3 i4 hrow hs ht).mono fun e w' ⟨h1, h2⟩ => ⟨h1, h2.below⟩
end Go.Proofs.YtdfpmlfdmhlhcaaGreat

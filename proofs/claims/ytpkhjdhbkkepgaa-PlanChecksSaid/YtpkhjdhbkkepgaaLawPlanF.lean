/- cfllaw21: PlanChecks. (Printed by wip/tools/gen_lawplanf.py.) -/
import Derived.Test.YtpkhjdhbkkepgaaLawPlanC
import Derived.Test.YtpkhjdhbkkepgaaRefEncode
import Derived.Test.YtpkhjdhbkkepgaaPlanN
import Derived.Test.YtpkhjdhbkkepgaaRefLists
namespace Go.Proofs.Ytpkhjdhbkkepgaa
open Go.ChangeShapes Go.WideShapes Go.ChangeAt Go.RowKit

theorem dec_few {b : List UInt8} {Q : Pl} {e : Int} (h : decF b = (Q, e)) : Q.few := by
  rcases decF_cases b with ⟨R, h2⟩ | h2
  · rw [h2] at h
    simp only [Prod.mk.injEq] at h
    obtain ⟨rfl, -⟩ := h
    obtain ⟨hc, -⟩ := decF_some h2
    obtain ⟨⟨-, -, ⟨-, hp16, -, -⟩, hnn, hlg, -, -⟩, hlad, -⟩ := make_own (checkN_self hc)
    have h3 := (ladderN_some hlad).1
    exact ⟨by omega, by omega, by omega, fun l hl => by have := (legB_ok (List.all_eq_true.1 hlg l hl)).2.1; omega⟩
  · rw [h2] at h
    simp only [Prod.mk.injEq] at h
    obtain ⟨rfl, -⟩ := h
    exact ⟨by simp [Pl.zero], by simp [Pl.zero], by simp [Pl.zero], by simp [Pl.zero]⟩
set_option maxRecDepth 100000 in
theorem Rd.planCap {w : World} {v : Value} (h : Rd w 30 v) : ∃ P : Pl, IsPl (· < w.heap.size) w v P ∧ PlCap v P ∧ P.ps.length ≤ maxLen ∧ P.ls.length ≤ maxLen ∧ P.dl.length ≤ maxLen ∧ P.hash.length ≤ maxLen := by
  obtain ⟨cs, rfl, hl, hf⟩ := h.struct Try.underlying30
  have hc : Try.prog.cellsOf 30 = 8 := by kernel_rfl
  have h1 : Try.prog.cellsOf 22 = 1 := by kernel_rfl
  have h2 : Try.prog.cellsOf 23 = 1 := by kernel_rfl
  have h3 : Try.prog.cellsOf 3 = 1 := by kernel_rfl
  have h4 : Try.prog.cellsOf 9 = 1 := by kernel_rfl
  rw [hc] at hl
  match cs, hl with
  | [c0, c1, c2, c3, c4, c5, c6, c7], _ =>
    have f0 : Rc w 3 [c0] := by simpa [h3] using hf 0 _ rfl
    have f1 : Rc w 22 [c1] := by simpa [h1] using hf 1 _ rfl
    have f2 : Rc w 23 [c2] := by simpa [h2] using hf 2 _ rfl
    have f3 : Rc w 9 [c3] := by simpa [h4] using hf 3 _ rfl
    have f4 : Rc w 3 [c4] := by simpa [h3] using hf 4 _ rfl
    have f5 : Rc w 3 [c5] := by simpa [h3] using hf 5 _ rfl
    have f6 : Rc w 3 [c6] := by simpa [h3] using hf 6 _ rfl
    have f7 : Rc w 22 [c7] := by simpa [h1] using hf 7 _ rfl
    obtain ⟨n0, e0, -⟩ := f0.int Try.underlying3
    obtain ⟨pp, np, cp, ps, e1, a1, a2, a3, a4, -⟩ := f1.ints
    obtain ⟨pl, nl, cl, ls, e2, b1, b2, b3, b4, -⟩ := f2.legs
    obtain ⟨s, e3, hs⟩ := f3.string Try.underlying9
    obtain ⟨n4, e4, -⟩ := f4.int Try.underlying3
    obtain ⟨n5, e5, -⟩ := f5.int Try.underlying3
    obtain ⟨n6, e6, -⟩ := f6.int Try.underlying3
    obtain ⟨pd, nd, cd, dl, e7, d1, d2, d3, d4, -⟩ := f7.ints
    simp only [List.cons.injEq, and_true] at e0 e1 e2 e3 e4 e5 e6 e7
    subst e0 e1 e2 e3 e4 e5 e6 e7
    subst a3 b3 d3
    refine ⟨⟨n0, ps, ls, s.data.toList, n4, n5, n6, dl⟩, ⟨pp, cp, pl, cl, pd, cd, by simp, a4, b4, d4⟩, ⟨_, pp, cp, pl, cl, _, _, _, _, pd, cd, rfl, a1⟩, by simp only; omega, by simp only; omega, by simp only; omega, by simp only [Array.length_toList]; exact hs⟩
theorem bytes_of_ints : ∀ (l : List Int), (∀ x ∈ l, (Lit.int .u8 x).wf = true) → ∃ m : List UInt8, l.map (Value.int .u8) = bys m
  | [], _ => ⟨[], rfl⟩
  | x :: l, h => by
    obtain ⟨m, hm⟩ := bytes_of_ints l (fun y hy => h y (List.mem_cons_of_mem _ hy))
    have hx := h x (by simp)
    have hr : 0 ≤ x ∧ x ≤ 255 := by simpa [Lit.wf, IntKind.min, IntKind.max, IntKind.bits, IntKind.signed] using hx
    obtain ⟨n, rfl⟩ := Int.eq_ofNat_of_zero_le hr.1
    refine ⟨UInt8.ofNat n :: m, ?_⟩
    rw [List.map_cons, hm]
    show _ = Value.int .u8 ((UInt8.ofNat n).toNat : Int) :: bys m
    rw [UInt8.toNat_ofNat', Nat.mod_eq_of_lt (by omega)]
theorem Rd.bytes {w : World} {v : Value} (h : Rd w 28 v) : ∃ l : List UInt8, IsRow (· < w.heap.size) w v (bys l) ∧ l.length ≤ maxLen := by
  obtain ⟨l, hl, hn, hw⟩ := h.intRow Try.underlying28 Try.underlying5 (by kernel_rfl)
  obtain ⟨m, hm⟩ := bytes_of_ints l hw
  refine ⟨m, hm ▸ hl, ?_⟩
  have := congrArg List.length hm
  simp [bys_length] at this
  omega
set_option maxRecDepth 100000 in
theorem Rd.bytesCap {w : World} {v : Value} (h : Rd w 28 v) : ∃ (p : Option Addr) (cap : Nat) (l : List UInt8), v = .slice p l.length cap ∧ l.length ≤ cap ∧ cap ≤ maxLen ∧ IsRow (· < w.heap.size) w (.slice p l.length cap) (bys l) := by
  obtain ⟨p, len, cap, rfl, hc, hm, -⟩ := Rd.slice Try.underlying28 (by rw [show Try.prog.cellsOf 5 = 1 from by kernel_rfl]; omega) h
  obtain ⟨l, hl, hn⟩ := h.bytes
  obtain ⟨p', c', hv, r⟩ := id hl
  simp only [Value.slice.injEq, bys_length] at hv
  obtain ⟨rfl, rfl, rfl⟩ := hv
  exact ⟨_, _, l, rfl, hc, hm, hl⟩
set_option maxRecDepth 100000 in
set_option maxHeartbeats 8000000 in
theorem lawPlanChecks (vp vq : Value) (P Q : Pl) (nn ca sa : Int) (pb : Option Addr) (N cb : Nat) (b : List UInt8) (w : World) (hp : IsPl (· < w.heap.size) w vp P) (hq : IsPl (· < w.heap.size) w vq Q) (hc : PlCap vp P) (l1 : P.ps.length ≤ maxLen) (l2 : P.ls.length ≤ maxLen) (l3 : P.dl.length ≤ maxLen) (l4 : P.hash.length ≤ maxLen) (k1 : Q.ps.length ≤ maxLen) (k2 : Q.ls.length ≤ maxLen) (k3 : Q.dl.length ≤ maxLen) (k4 : Q.hash.length ≤ maxLen) (hrow : IsRow (· < w.heap.size) w (.slice pb N cb) (bys b)) (hcb : N ≤ cb) (hcm : cb ≤ maxLen) :
    Calls Try.prog 6 #[vp, vq, .int .i64 nn, .int .i64 ca, .int .i64 sa, .slice pb N cb] w fun e w' => e = .returned (.bool true) ∧ Mod nil w w' := by
  refine (?_ : ∀ Post : Ending → World → Prop, Hid (∀ e w', (e = .returned (.bool true) ∧ Mod nil w w') → Post e w') → Calls Try.prog 6 #[vp, vq, .int .i64 nn, .int .i64 ca, .int .i64 sa, .slice pb N cb] w Post) _ (Lib.hid (fun _ _ h => h))
  intro Post HPOST
  obtain ⟨p1a, c1a, p2a, c2a, p7a, c7a, rfl, hxp, -, -⟩ := id hp
  obtain ⟨p1b, c1b, p2b, c2b, p7b, c7b, rfl, hyp, -, -⟩ := id hq
  have HPP := Lib.hid hp
  have HPQ := Lib.hid hq
  have HCP := Lib.hid hc
  obtain ⟨xd, xps, xls, xz, xs, xe, xw, xdl⟩ := P
  obtain ⟨yd, yps, yls, yz, ys, ye, yw, ydl⟩ := Q
  simp only at *
  obtain ⟨x1, hnx1⟩ : ∃ n, xps.length = n := ⟨_, rfl⟩
  obtain ⟨x2, hnx2⟩ : ∃ n, xls.length = n := ⟨_, rfl⟩
  obtain ⟨x7, hnx7⟩ : ∃ n, xdl.length = n := ⟨_, rfl⟩
  obtain ⟨y1, hny1⟩ : ∃ n, yps.length = n := ⟨_, rfl⟩
  obtain ⟨y2, hny2⟩ : ∃ n, yls.length = n := ⟨_, rfl⟩
  obtain ⟨y7, hny7⟩ : ∃ n, ydl.length = n := ⟨_, rfl⟩
  rw [hnx1, hnx2, hnx7] at HPP HCP
  rw [hny1, hny2, hny7] at HPQ
  rw [hnx1, hnx2, hnx7, hny1, hny2, hny7]
  have hnb : b.length = N := by obtain ⟨_, _, h, _⟩ := hrow; simp only [Value.slice.injEq, bys_length] at h; exact h.2.1.symm
  have HFX := Lib.hid (fun W (m : Mod nil w W) => planFewPlan _ _ ⟨xd, xps, xls, xz, xs, xe, xw, xdl⟩ W (HPP.out.modNil m) l1 l2 l3 l4)
  have HFY := Lib.hid (fun W (m : Mod nil w W) => planFewPlan _ _ ⟨yd, yps, yls, yz, ys, ye, yw, ydl⟩ W (HPQ.out.modNil m) k1 k2 k3 k4)
  have HROW := Lib.hid hrow
  have HNB := Lib.hid hnb
  have HX1 := Lib.hid hnx1
  have HX2 := Lib.hid hnx2
  have HX7 := Lib.hid hnx7
  obtain ⟨r1, hr1⟩ : ∃ r, w.heap.size = r := ⟨_, rfl⟩
  obtain ⟨r2, hr2⟩ : ∃ r, r1 + 1 = r := ⟨_, rfl⟩
  clear hp hq hc hxp hyp hnx1 hnx2 hnx7 hny1 hny2 hny7 hrow hnb l1 l2 l3 l4 k1 k2 k3 k4
  unfold maxLen at hcm
  go_enter Try.func6, Try.ntmps6
  go_upto_region 1 with (fail)
  (try rw [hr1])
  (try rw [hr2])
  generalize hw1 : World.alloc (World.alloc w _) _ = w1
  have hm1 : Mod nil w w1 := by rw [← hw1]; exact ((Mod.refl _ _).alloc _).alloc _
  have hbl1 : w1.heap[r1]? = some (.cells #[.int .i64 xd, .slice p1a x1 c1a, .slice p2a x2 c2a, .string ⟨xz.toArray⟩, .int .i64 xs, .int .i64 xe, .int .i64 xw, .slice p7a x7 c7a] 30 (0, 0)) := by rw [← hw1]; exact heap_alloc_old (by rw [← hr1]; exact heap_alloc_new _ _)
  have hbl2 : w1.heap[r2]? = some (.cells #[.int .i64 yd, .slice p1b y1 c1b, .slice p2b y2 c2b, .string ⟨yz.toArray⟩, .int .i64 ys, .int .i64 ye, .int .i64 yw, .slice p7b y7 c7b] 30 (0, 0)) := by
    rw [← hw1]
    have := heap_alloc_new (w.alloc (.cells #[.int .i64 xd, .slice p1a x1 c1a, .slice p2a x2 c2a, .string ⟨xz.toArray⟩, .int .i64 xs, .int .i64 xe, .int .i64 xw, .slice p7a x7 c7a] 30)) (.cells #[.int .i64 yd, .slice p1b y1 c1b, .slice p2b y2 c2b, .string ⟨yz.toArray⟩, .int .i64 ys, .int .i64 ye, .int .i64 yw, .slice p7b y7 c7b] 30)
    rw [World.size_alloc, hr1, hr2] at this
    exact this
  have a0 := cell_of hbl1 0
  have a1 := cell_of hbl1 1
  have a2 := cell_of hbl1 2
  have a3 := cell_of hbl1 3
  have a4 := cell_of hbl1 4
  have a5 := cell_of hbl1 5
  have a6 := cell_of hbl1 6
  have a7 := cell_of hbl1 7
  simp only [List.getElem?_toArray, List.getElem?_cons_zero, List.getElem?_cons_succ] at a0 a1 a2 a3 a4 a5 a6 a7
  have b0 := cell_of hbl2 0
  have b1 := cell_of hbl2 1
  have b2 := cell_of hbl2 2
  have b3 := cell_of hbl2 3
  have b4 := cell_of hbl2 4
  have b5 := cell_of hbl2 5
  have b6 := cell_of hbl2 6
  have b7 := cell_of hbl2 7
  simp only [List.getElem?_toArray, List.getElem?_cons_zero, List.getElem?_cons_succ] at b0 b1 b2 b3 b4 b5 b6 b7
  have HM1 := Lib.hid hm1
  clear hw1 hm1 hbl1 hbl2 hr1 hr2
  go_wp2_with fail
  refine (planFirst w1).mono ?_
  rintro e w' ⟨rfl, rfl⟩
  have HF1 := Lib.hid (HFX.out w1 HM1.out)
  by_cases hfx : fewP ⟨xd, xps, xls, xz, xs, xe, xw, xdl⟩
  case neg =>
    rw [decide_eq_false hfx] at HF1
    clear hfx
    go_wp2_with fail
    refine HF1.out.mono ?_
    rintro e w2 ⟨rfl, hm2⟩
    have HM2 := Lib.hid (HM1.out.thenNil hm2)
    clear hm2
    have HE := Lib.hid (HPOST.out _ w2 ⟨rfl, HM2.out⟩)
    go_wp2_with fail
    refine (planFirst w2).mono ?_
    rintro e w' ⟨rfl, rfl⟩
    go_wp2_with fail
    exact HE.out
  rw [decide_eq_true hfx] at HF1
  have HFEWX := Lib.hid hfx
  clear hfx
  go_wp2_with fail
  refine HF1.out.mono ?_
  rintro e w2 ⟨rfl, hm2⟩
  have a0' := cell_kept a0 hm2 (World.block_lt_of_cell? _ _ a0) (not_nil _)
  clear a0
  have a0 := a0'
  clear a0'
  have a1' := cell_kept a1 hm2 (World.block_lt_of_cell? _ _ a1) (not_nil _)
  clear a1
  have a1 := a1'
  clear a1'
  have a2' := cell_kept a2 hm2 (World.block_lt_of_cell? _ _ a2) (not_nil _)
  clear a2
  have a2 := a2'
  clear a2'
  have a3' := cell_kept a3 hm2 (World.block_lt_of_cell? _ _ a3) (not_nil _)
  clear a3
  have a3 := a3'
  clear a3'
  have a4' := cell_kept a4 hm2 (World.block_lt_of_cell? _ _ a4) (not_nil _)
  clear a4
  have a4 := a4'
  clear a4'
  have a5' := cell_kept a5 hm2 (World.block_lt_of_cell? _ _ a5) (not_nil _)
  clear a5
  have a5 := a5'
  clear a5'
  have a6' := cell_kept a6 hm2 (World.block_lt_of_cell? _ _ a6) (not_nil _)
  clear a6
  have a6 := a6'
  clear a6'
  have a7' := cell_kept a7 hm2 (World.block_lt_of_cell? _ _ a7) (not_nil _)
  clear a7
  have a7 := a7'
  clear a7'
  have b0' := cell_kept b0 hm2 (World.block_lt_of_cell? _ _ b0) (not_nil _)
  clear b0
  have b0 := b0'
  clear b0'
  have b1' := cell_kept b1 hm2 (World.block_lt_of_cell? _ _ b1) (not_nil _)
  clear b1
  have b1 := b1'
  clear b1'
  have b2' := cell_kept b2 hm2 (World.block_lt_of_cell? _ _ b2) (not_nil _)
  clear b2
  have b2 := b2'
  clear b2'
  have b3' := cell_kept b3 hm2 (World.block_lt_of_cell? _ _ b3) (not_nil _)
  clear b3
  have b3 := b3'
  clear b3'
  have b4' := cell_kept b4 hm2 (World.block_lt_of_cell? _ _ b4) (not_nil _)
  clear b4
  have b4 := b4'
  clear b4'
  have b5' := cell_kept b5 hm2 (World.block_lt_of_cell? _ _ b5) (not_nil _)
  clear b5
  have b5 := b5'
  clear b5'
  have b6' := cell_kept b6 hm2 (World.block_lt_of_cell? _ _ b6) (not_nil _)
  clear b6
  have b6 := b6'
  clear b6'
  have b7' := cell_kept b7 hm2 (World.block_lt_of_cell? _ _ b7) (not_nil _)
  clear b7
  have b7 := b7'
  clear b7'
  have HM2 := Lib.hid (HM1.out.thenNil hm2)
  clear hm2
  have HF2 := Lib.hid (HFY.out w2 HM2.out)
  by_cases hfy : fewP ⟨yd, yps, yls, yz, ys, ye, yw, ydl⟩
  case neg =>
    rw [decide_eq_false hfy] at HF2
    clear hfy
    go_wp2_with fail
    refine HF2.out.mono ?_
    rintro e w3 ⟨rfl, hm2⟩
    have HM3 := Lib.hid (HM2.out.thenNil hm2)
    clear hm2
    have HE := Lib.hid (HPOST.out _ w3 ⟨rfl, HM3.out⟩)
    go_wp2_with fail
    refine (planFirst w3).mono ?_
    rintro e w' ⟨rfl, rfl⟩
    go_wp2_with fail
    exact HE.out
  rw [decide_eq_true hfy] at HF2
  clear hfy
  go_wp2_with fail
  refine HF2.out.mono ?_
  rintro e w3 ⟨rfl, hm2⟩
  have a0' := cell_kept a0 hm2 (World.block_lt_of_cell? _ _ a0) (not_nil _)
  clear a0
  have a0 := a0'
  clear a0'
  have a1' := cell_kept a1 hm2 (World.block_lt_of_cell? _ _ a1) (not_nil _)
  clear a1
  have a1 := a1'
  clear a1'
  have a2' := cell_kept a2 hm2 (World.block_lt_of_cell? _ _ a2) (not_nil _)
  clear a2
  have a2 := a2'
  clear a2'
  have a3' := cell_kept a3 hm2 (World.block_lt_of_cell? _ _ a3) (not_nil _)
  clear a3
  have a3 := a3'
  clear a3'
  have a4' := cell_kept a4 hm2 (World.block_lt_of_cell? _ _ a4) (not_nil _)
  clear a4
  have a4 := a4'
  clear a4'
  have a5' := cell_kept a5 hm2 (World.block_lt_of_cell? _ _ a5) (not_nil _)
  clear a5
  have a5 := a5'
  clear a5'
  have a6' := cell_kept a6 hm2 (World.block_lt_of_cell? _ _ a6) (not_nil _)
  clear a6
  have a6 := a6'
  clear a6'
  have a7' := cell_kept a7 hm2 (World.block_lt_of_cell? _ _ a7) (not_nil _)
  clear a7
  have a7 := a7'
  clear a7'
  have b0' := cell_kept b0 hm2 (World.block_lt_of_cell? _ _ b0) (not_nil _)
  clear b0
  have b0 := b0'
  clear b0'
  have b1' := cell_kept b1 hm2 (World.block_lt_of_cell? _ _ b1) (not_nil _)
  clear b1
  have b1 := b1'
  clear b1'
  have b2' := cell_kept b2 hm2 (World.block_lt_of_cell? _ _ b2) (not_nil _)
  clear b2
  have b2 := b2'
  clear b2'
  have b3' := cell_kept b3 hm2 (World.block_lt_of_cell? _ _ b3) (not_nil _)
  clear b3
  have b3 := b3'
  clear b3'
  have b4' := cell_kept b4 hm2 (World.block_lt_of_cell? _ _ b4) (not_nil _)
  clear b4
  have b4 := b4'
  clear b4'
  have b5' := cell_kept b5 hm2 (World.block_lt_of_cell? _ _ b5) (not_nil _)
  clear b5
  have b5 := b5'
  clear b5'
  have b6' := cell_kept b6 hm2 (World.block_lt_of_cell? _ _ b6) (not_nil _)
  clear b6
  have b6 := b6'
  clear b6'
  have b7' := cell_kept b7 hm2 (World.block_lt_of_cell? _ _ b7) (not_nil _)
  clear b7
  have b7 := b7'
  clear b7'
  have HM3 := Lib.hid (HM2.out.thenNil hm2)
  clear hm2
  by_cases hbig : 2000 < N
  case pos =>
    have HE := Lib.hid (HPOST.out _ w3 ⟨rfl, HM3.out⟩)
    go_wp2_with fail
    refine (planFirst w3).mono ?_
    rintro e w' ⟨rfl, rfl⟩
    go_wp2_with fail
    exact HE.out
  have hdec := planDecode _ pb N cb b w3 (HROW.out.modNil HM3.out) (by omega) hcb (by unfold maxLen; omega)
  obtain ⟨M, de, hd⟩ : ∃ M de, decF b = (M, de) := ⟨_, _, rfl⟩
  rw [hd] at hdec
  have HDC1 := Lib.hid hdec
  have HDF := Lib.hid hd
  have HDFEW := Lib.hid (dec_few hd)
  clear hdec hd
  obtain ⟨ud, ups, uls, uz, us, ue, uw, udl⟩ := M
  go_wp2_with fail
  refine HDC1.out.mono ?_
  rintro e w4 ⟨v1, rfl, hpl1, m4⟩
  have a0' := cell_kept a0 m4 (World.block_lt_of_cell? _ _ a0) (not_nil _)
  clear a0
  have a0 := a0'
  clear a0'
  have a1' := cell_kept a1 m4 (World.block_lt_of_cell? _ _ a1) (not_nil _)
  clear a1
  have a1 := a1'
  clear a1'
  have a2' := cell_kept a2 m4 (World.block_lt_of_cell? _ _ a2) (not_nil _)
  clear a2
  have a2 := a2'
  clear a2'
  have a3' := cell_kept a3 m4 (World.block_lt_of_cell? _ _ a3) (not_nil _)
  clear a3
  have a3 := a3'
  clear a3'
  have a4' := cell_kept a4 m4 (World.block_lt_of_cell? _ _ a4) (not_nil _)
  clear a4
  have a4 := a4'
  clear a4'
  have a5' := cell_kept a5 m4 (World.block_lt_of_cell? _ _ a5) (not_nil _)
  clear a5
  have a5 := a5'
  clear a5'
  have a6' := cell_kept a6 m4 (World.block_lt_of_cell? _ _ a6) (not_nil _)
  clear a6
  have a6 := a6'
  clear a6'
  have a7' := cell_kept a7 m4 (World.block_lt_of_cell? _ _ a7) (not_nil _)
  clear a7
  have a7 := a7'
  clear a7'
  have b0' := cell_kept b0 m4 (World.block_lt_of_cell? _ _ b0) (not_nil _)
  clear b0
  have b0 := b0'
  clear b0'
  have b1' := cell_kept b1 m4 (World.block_lt_of_cell? _ _ b1) (not_nil _)
  clear b1
  have b1 := b1'
  clear b1'
  have b2' := cell_kept b2 m4 (World.block_lt_of_cell? _ _ b2) (not_nil _)
  clear b2
  have b2 := b2'
  clear b2'
  have b3' := cell_kept b3 m4 (World.block_lt_of_cell? _ _ b3) (not_nil _)
  clear b3
  have b3 := b3'
  clear b3'
  have b4' := cell_kept b4 m4 (World.block_lt_of_cell? _ _ b4) (not_nil _)
  clear b4
  have b4 := b4'
  clear b4'
  have b5' := cell_kept b5 m4 (World.block_lt_of_cell? _ _ b5) (not_nil _)
  clear b5
  have b5 := b5'
  clear b5'
  have b6' := cell_kept b6 m4 (World.block_lt_of_cell? _ _ b6) (not_nil _)
  clear b6
  have b6 := b6'
  clear b6'
  have b7' := cell_kept b7 m4 (World.block_lt_of_cell? _ _ b7) (not_nil _)
  clear b7
  have b7 := b7'
  clear b7'
  have HM4 := Lib.hid (HM3.out.thenNil m4)
  have HPC := Lib.hid hpl1
  obtain ⟨p1c, c1c, p2c, c2c, p7c, c7c, rfl, -⟩ := hpl1
  simp only at HPC ⊢
  obtain ⟨u1, hnu1⟩ : ∃ n, ups.length = n := ⟨_, rfl⟩
  obtain ⟨u2, hnu2⟩ : ∃ n, uls.length = n := ⟨_, rfl⟩
  obtain ⟨u7, hnu7⟩ : ∃ n, udl.length = n := ⟨_, rfl⟩
  rw [hnu1, hnu2, hnu7] at HPC ⊢
  have HNM1 := Lib.hid hnu1
  have HNM2 := Lib.hid hnu2
  have HNM7 := Lib.hid hnu7
  clear m4 HDC1 hnu1 hnu2 hnu7
  go_upto_region 6 with (fail)
  obtain ⟨tc, htc⟩ : ∃ x, w4.heap.size = x := ⟨_, rfl⟩
  (try rw [htc])
  generalize hw5 : World.alloc w4 _ = w5
  have m5 : Mod nil w4 w5 := by rw [← hw5]; exact (Mod.refl _ _).alloc _
  have hb5 : w5.heap[tc]? = some (.cells #[.int .i64 ud, .slice p1c u1 c1c, .slice p2c u2 c2c, .string ⟨uz.toArray⟩, .int .i64 us, .int .i64 ue, .int .i64 uw, .slice p7c u7 c7c] 30 (0, 0)) := by rw [← hw5, ← htc]; exact heap_alloc_new _ _
  have c0 := cell_of hb5 0
  have c1 := cell_of hb5 1
  have c2 := cell_of hb5 2
  have c3 := cell_of hb5 3
  have c4 := cell_of hb5 4
  have c5 := cell_of hb5 5
  have c6 := cell_of hb5 6
  have c7 := cell_of hb5 7
  simp only [List.getElem?_toArray, List.getElem?_cons_zero, List.getElem?_cons_succ] at c0 c1 c2 c3 c4 c5 c6 c7
  have a0' := cell_kept a0 m5 (World.block_lt_of_cell? _ _ a0) (not_nil _)
  clear a0
  have a0 := a0'
  clear a0'
  have a1' := cell_kept a1 m5 (World.block_lt_of_cell? _ _ a1) (not_nil _)
  clear a1
  have a1 := a1'
  clear a1'
  have a2' := cell_kept a2 m5 (World.block_lt_of_cell? _ _ a2) (not_nil _)
  clear a2
  have a2 := a2'
  clear a2'
  have a3' := cell_kept a3 m5 (World.block_lt_of_cell? _ _ a3) (not_nil _)
  clear a3
  have a3 := a3'
  clear a3'
  have a4' := cell_kept a4 m5 (World.block_lt_of_cell? _ _ a4) (not_nil _)
  clear a4
  have a4 := a4'
  clear a4'
  have a5' := cell_kept a5 m5 (World.block_lt_of_cell? _ _ a5) (not_nil _)
  clear a5
  have a5 := a5'
  clear a5'
  have a6' := cell_kept a6 m5 (World.block_lt_of_cell? _ _ a6) (not_nil _)
  clear a6
  have a6 := a6'
  clear a6'
  have a7' := cell_kept a7 m5 (World.block_lt_of_cell? _ _ a7) (not_nil _)
  clear a7
  have a7 := a7'
  clear a7'
  have b0' := cell_kept b0 m5 (World.block_lt_of_cell? _ _ b0) (not_nil _)
  clear b0
  have b0 := b0'
  clear b0'
  have b1' := cell_kept b1 m5 (World.block_lt_of_cell? _ _ b1) (not_nil _)
  clear b1
  have b1 := b1'
  clear b1'
  have b2' := cell_kept b2 m5 (World.block_lt_of_cell? _ _ b2) (not_nil _)
  clear b2
  have b2 := b2'
  clear b2'
  have b3' := cell_kept b3 m5 (World.block_lt_of_cell? _ _ b3) (not_nil _)
  clear b3
  have b3 := b3'
  clear b3'
  have b4' := cell_kept b4 m5 (World.block_lt_of_cell? _ _ b4) (not_nil _)
  clear b4
  have b4 := b4'
  clear b4'
  have b5' := cell_kept b5 m5 (World.block_lt_of_cell? _ _ b5) (not_nil _)
  clear b5
  have b5 := b5'
  clear b5'
  have b6' := cell_kept b6 m5 (World.block_lt_of_cell? _ _ b6) (not_nil _)
  clear b6
  have b6 := b6'
  clear b6'
  have b7' := cell_kept b7 m5 (World.block_lt_of_cell? _ _ b7) (not_nil _)
  clear b7
  have b7 := b7'
  clear b7'
  have HM5 := Lib.hid (HM4.out.thenNil m5)
  have HPC5 := Lib.hid (HPC.out.modNil m5)
  clear hw5 m5 hb5 htc HPC
  have hdec := refDecode pb N cb b w5 ((HROW.out.modNil HM5.out).mono (fun k hk _ => hk)) (by omega) hcb (by unfold maxLen; omega)
  rw [decF_ref, HDF.out] at hdec
  have HDC2 := Lib.hid hdec
  clear hdec
  go_wp2_with fail
  refine HDC2.out.mono ?_
  rintro e w6 ⟨v2, rfl, hpl2, m6⟩
  have a0' := cell_kept a0 m6 (World.block_lt_of_cell? _ _ a0) (not_nil _)
  clear a0
  have a0 := a0'
  clear a0'
  have a1' := cell_kept a1 m6 (World.block_lt_of_cell? _ _ a1) (not_nil _)
  clear a1
  have a1 := a1'
  clear a1'
  have a2' := cell_kept a2 m6 (World.block_lt_of_cell? _ _ a2) (not_nil _)
  clear a2
  have a2 := a2'
  clear a2'
  have a3' := cell_kept a3 m6 (World.block_lt_of_cell? _ _ a3) (not_nil _)
  clear a3
  have a3 := a3'
  clear a3'
  have a4' := cell_kept a4 m6 (World.block_lt_of_cell? _ _ a4) (not_nil _)
  clear a4
  have a4 := a4'
  clear a4'
  have a5' := cell_kept a5 m6 (World.block_lt_of_cell? _ _ a5) (not_nil _)
  clear a5
  have a5 := a5'
  clear a5'
  have a6' := cell_kept a6 m6 (World.block_lt_of_cell? _ _ a6) (not_nil _)
  clear a6
  have a6 := a6'
  clear a6'
  have a7' := cell_kept a7 m6 (World.block_lt_of_cell? _ _ a7) (not_nil _)
  clear a7
  have a7 := a7'
  clear a7'
  have b0' := cell_kept b0 m6 (World.block_lt_of_cell? _ _ b0) (not_nil _)
  clear b0
  have b0 := b0'
  clear b0'
  have b1' := cell_kept b1 m6 (World.block_lt_of_cell? _ _ b1) (not_nil _)
  clear b1
  have b1 := b1'
  clear b1'
  have b2' := cell_kept b2 m6 (World.block_lt_of_cell? _ _ b2) (not_nil _)
  clear b2
  have b2 := b2'
  clear b2'
  have b3' := cell_kept b3 m6 (World.block_lt_of_cell? _ _ b3) (not_nil _)
  clear b3
  have b3 := b3'
  clear b3'
  have b4' := cell_kept b4 m6 (World.block_lt_of_cell? _ _ b4) (not_nil _)
  clear b4
  have b4 := b4'
  clear b4'
  have b5' := cell_kept b5 m6 (World.block_lt_of_cell? _ _ b5) (not_nil _)
  clear b5
  have b5 := b5'
  clear b5'
  have b6' := cell_kept b6 m6 (World.block_lt_of_cell? _ _ b6) (not_nil _)
  clear b6
  have b6 := b6'
  clear b6'
  have b7' := cell_kept b7 m6 (World.block_lt_of_cell? _ _ b7) (not_nil _)
  clear b7
  have b7 := b7'
  clear b7'
  have c0' := cell_kept c0 m6 (World.block_lt_of_cell? _ _ c0) (not_nil _)
  clear c0
  have c0 := c0'
  clear c0'
  have c1' := cell_kept c1 m6 (World.block_lt_of_cell? _ _ c1) (not_nil _)
  clear c1
  have c1 := c1'
  clear c1'
  have c2' := cell_kept c2 m6 (World.block_lt_of_cell? _ _ c2) (not_nil _)
  clear c2
  have c2 := c2'
  clear c2'
  have c3' := cell_kept c3 m6 (World.block_lt_of_cell? _ _ c3) (not_nil _)
  clear c3
  have c3 := c3'
  clear c3'
  have c4' := cell_kept c4 m6 (World.block_lt_of_cell? _ _ c4) (not_nil _)
  clear c4
  have c4 := c4'
  clear c4'
  have c5' := cell_kept c5 m6 (World.block_lt_of_cell? _ _ c5) (not_nil _)
  clear c5
  have c5 := c5'
  clear c5'
  have c6' := cell_kept c6 m6 (World.block_lt_of_cell? _ _ c6) (not_nil _)
  clear c6
  have c6 := c6'
  clear c6'
  have c7' := cell_kept c7 m6 (World.block_lt_of_cell? _ _ c7) (not_nil _)
  clear c7
  have c7 := c7'
  clear c7'
  have HM6 := Lib.hid (HM5.out.thenNil m6)
  have HPC6 := Lib.hid (HPC5.out.modNil m6)
  have HPD := Lib.hid hpl2
  obtain ⟨p1d, c1d, p2d, c2d, p7d, c7d, rfl, -⟩ := hpl2
  simp only at HPD ⊢
  rw [HNM1.out, HNM2.out, HNM7.out] at HPD ⊢
  clear m6 HDC2 HPC5
  go_upto_region 7 with (fail)
  obtain ⟨td, htd⟩ : ∃ x, w6.heap.size = x := ⟨_, rfl⟩
  (try rw [htd])
  generalize hw7 : World.alloc w6 _ = w7
  have m7 : Mod nil w6 w7 := by rw [← hw7]; exact (Mod.refl _ _).alloc _
  have hb7 : w7.heap[td]? = some (.cells #[.int .i64 ud, .slice p1d u1 c1d, .slice p2d u2 c2d, .string ⟨uz.toArray⟩, .int .i64 us, .int .i64 ue, .int .i64 uw, .slice p7d u7 c7d] 30 (0, 0)) := by rw [← hw7, ← htd]; exact heap_alloc_new _ _
  have d0 := cell_of hb7 0
  have d1 := cell_of hb7 1
  have d2 := cell_of hb7 2
  have d3 := cell_of hb7 3
  have d4 := cell_of hb7 4
  have d5 := cell_of hb7 5
  have d6 := cell_of hb7 6
  have d7 := cell_of hb7 7
  simp only [List.getElem?_toArray, List.getElem?_cons_zero, List.getElem?_cons_succ] at d0 d1 d2 d3 d4 d5 d6 d7
  have a0' := cell_kept a0 m7 (World.block_lt_of_cell? _ _ a0) (not_nil _)
  clear a0
  have a0 := a0'
  clear a0'
  have a1' := cell_kept a1 m7 (World.block_lt_of_cell? _ _ a1) (not_nil _)
  clear a1
  have a1 := a1'
  clear a1'
  have a2' := cell_kept a2 m7 (World.block_lt_of_cell? _ _ a2) (not_nil _)
  clear a2
  have a2 := a2'
  clear a2'
  have a3' := cell_kept a3 m7 (World.block_lt_of_cell? _ _ a3) (not_nil _)
  clear a3
  have a3 := a3'
  clear a3'
  have a4' := cell_kept a4 m7 (World.block_lt_of_cell? _ _ a4) (not_nil _)
  clear a4
  have a4 := a4'
  clear a4'
  have a5' := cell_kept a5 m7 (World.block_lt_of_cell? _ _ a5) (not_nil _)
  clear a5
  have a5 := a5'
  clear a5'
  have a6' := cell_kept a6 m7 (World.block_lt_of_cell? _ _ a6) (not_nil _)
  clear a6
  have a6 := a6'
  clear a6'
  have a7' := cell_kept a7 m7 (World.block_lt_of_cell? _ _ a7) (not_nil _)
  clear a7
  have a7 := a7'
  clear a7'
  have b0' := cell_kept b0 m7 (World.block_lt_of_cell? _ _ b0) (not_nil _)
  clear b0
  have b0 := b0'
  clear b0'
  have b1' := cell_kept b1 m7 (World.block_lt_of_cell? _ _ b1) (not_nil _)
  clear b1
  have b1 := b1'
  clear b1'
  have b2' := cell_kept b2 m7 (World.block_lt_of_cell? _ _ b2) (not_nil _)
  clear b2
  have b2 := b2'
  clear b2'
  have b3' := cell_kept b3 m7 (World.block_lt_of_cell? _ _ b3) (not_nil _)
  clear b3
  have b3 := b3'
  clear b3'
  have b4' := cell_kept b4 m7 (World.block_lt_of_cell? _ _ b4) (not_nil _)
  clear b4
  have b4 := b4'
  clear b4'
  have b5' := cell_kept b5 m7 (World.block_lt_of_cell? _ _ b5) (not_nil _)
  clear b5
  have b5 := b5'
  clear b5'
  have b6' := cell_kept b6 m7 (World.block_lt_of_cell? _ _ b6) (not_nil _)
  clear b6
  have b6 := b6'
  clear b6'
  have b7' := cell_kept b7 m7 (World.block_lt_of_cell? _ _ b7) (not_nil _)
  clear b7
  have b7 := b7'
  clear b7'
  have c0' := cell_kept c0 m7 (World.block_lt_of_cell? _ _ c0) (not_nil _)
  clear c0
  have c0 := c0'
  clear c0'
  have c1' := cell_kept c1 m7 (World.block_lt_of_cell? _ _ c1) (not_nil _)
  clear c1
  have c1 := c1'
  clear c1'
  have c2' := cell_kept c2 m7 (World.block_lt_of_cell? _ _ c2) (not_nil _)
  clear c2
  have c2 := c2'
  clear c2'
  have c3' := cell_kept c3 m7 (World.block_lt_of_cell? _ _ c3) (not_nil _)
  clear c3
  have c3 := c3'
  clear c3'
  have c4' := cell_kept c4 m7 (World.block_lt_of_cell? _ _ c4) (not_nil _)
  clear c4
  have c4 := c4'
  clear c4'
  have c5' := cell_kept c5 m7 (World.block_lt_of_cell? _ _ c5) (not_nil _)
  clear c5
  have c5 := c5'
  clear c5'
  have c6' := cell_kept c6 m7 (World.block_lt_of_cell? _ _ c6) (not_nil _)
  clear c6
  have c6 := c6'
  clear c6'
  have c7' := cell_kept c7 m7 (World.block_lt_of_cell? _ _ c7) (not_nil _)
  clear c7
  have c7 := c7'
  clear c7'
  have HM7 := Lib.hid (HM6.out.thenNil m7)
  have HPC7 := Lib.hid (HPC6.out.modNil m7)
  have HPD7 := Lib.hid (HPD.out.modNil m7)
  clear hw7 m7 hb7 htd HPC6 HPD
  have HKEEP : Hid (∀ W, Mod nil w7 W → W.cell? ⟨r1, 0, none⟩ = some (.int .i64 xd) ∧ W.cell? ⟨r1, 1, none⟩ = some (.slice p1a x1 c1a) ∧ W.cell? ⟨r1, 2, none⟩ = some (.slice p2a x2 c2a) ∧ W.cell? ⟨r1, 3, none⟩ = some (.string ⟨xz.toArray⟩) ∧ W.cell? ⟨r1, 4, none⟩ = some (.int .i64 xs) ∧ W.cell? ⟨r1, 5, none⟩ = some (.int .i64 xe) ∧ W.cell? ⟨r1, 6, none⟩ = some (.int .i64 xw) ∧ W.cell? ⟨r1, 7, none⟩ = some (.slice p7a x7 c7a) ∧ W.cell? ⟨r2, 0, none⟩ = some (.int .i64 yd) ∧ W.cell? ⟨r2, 1, none⟩ = some (.slice p1b y1 c1b) ∧ W.cell? ⟨r2, 2, none⟩ = some (.slice p2b y2 c2b) ∧ W.cell? ⟨r2, 3, none⟩ = some (.string ⟨yz.toArray⟩) ∧ W.cell? ⟨r2, 4, none⟩ = some (.int .i64 ys) ∧ W.cell? ⟨r2, 5, none⟩ = some (.int .i64 ye) ∧ W.cell? ⟨r2, 6, none⟩ = some (.int .i64 yw) ∧ W.cell? ⟨r2, 7, none⟩ = some (.slice p7b y7 c7b) ∧ W.cell? ⟨tc, 0, none⟩ = some (.int .i64 ud) ∧ W.cell? ⟨tc, 1, none⟩ = some (.slice p1c u1 c1c) ∧ W.cell? ⟨tc, 2, none⟩ = some (.slice p2c u2 c2c) ∧ W.cell? ⟨tc, 3, none⟩ = some (.string ⟨uz.toArray⟩) ∧ W.cell? ⟨tc, 4, none⟩ = some (.int .i64 us) ∧ W.cell? ⟨tc, 5, none⟩ = some (.int .i64 ue) ∧ W.cell? ⟨tc, 6, none⟩ = some (.int .i64 uw) ∧ W.cell? ⟨tc, 7, none⟩ = some (.slice p7c u7 c7c) ∧ W.cell? ⟨td, 0, none⟩ = some (.int .i64 ud) ∧ W.cell? ⟨td, 1, none⟩ = some (.slice p1d u1 c1d) ∧ W.cell? ⟨td, 2, none⟩ = some (.slice p2d u2 c2d) ∧ W.cell? ⟨td, 3, none⟩ = some (.string ⟨uz.toArray⟩) ∧ W.cell? ⟨td, 4, none⟩ = some (.int .i64 us) ∧ W.cell? ⟨td, 5, none⟩ = some (.int .i64 ue) ∧ W.cell? ⟨td, 6, none⟩ = some (.int .i64 uw) ∧ W.cell? ⟨td, 7, none⟩ = some (.slice p7d u7 c7d)) := Lib.hid (fun W m => ⟨cell_kept a0 m (World.block_lt_of_cell? _ _ a0) (not_nil _), cell_kept a1 m (World.block_lt_of_cell? _ _ a1) (not_nil _), cell_kept a2 m (World.block_lt_of_cell? _ _ a2) (not_nil _), cell_kept a3 m (World.block_lt_of_cell? _ _ a3) (not_nil _), cell_kept a4 m (World.block_lt_of_cell? _ _ a4) (not_nil _), cell_kept a5 m (World.block_lt_of_cell? _ _ a5) (not_nil _), cell_kept a6 m (World.block_lt_of_cell? _ _ a6) (not_nil _), cell_kept a7 m (World.block_lt_of_cell? _ _ a7) (not_nil _), cell_kept b0 m (World.block_lt_of_cell? _ _ b0) (not_nil _), cell_kept b1 m (World.block_lt_of_cell? _ _ b1) (not_nil _), cell_kept b2 m (World.block_lt_of_cell? _ _ b2) (not_nil _), cell_kept b3 m (World.block_lt_of_cell? _ _ b3) (not_nil _), cell_kept b4 m (World.block_lt_of_cell? _ _ b4) (not_nil _), cell_kept b5 m (World.block_lt_of_cell? _ _ b5) (not_nil _), cell_kept b6 m (World.block_lt_of_cell? _ _ b6) (not_nil _), cell_kept b7 m (World.block_lt_of_cell? _ _ b7) (not_nil _), cell_kept c0 m (World.block_lt_of_cell? _ _ c0) (not_nil _), cell_kept c1 m (World.block_lt_of_cell? _ _ c1) (not_nil _), cell_kept c2 m (World.block_lt_of_cell? _ _ c2) (not_nil _), cell_kept c3 m (World.block_lt_of_cell? _ _ c3) (not_nil _), cell_kept c4 m (World.block_lt_of_cell? _ _ c4) (not_nil _), cell_kept c5 m (World.block_lt_of_cell? _ _ c5) (not_nil _), cell_kept c6 m (World.block_lt_of_cell? _ _ c6) (not_nil _), cell_kept c7 m (World.block_lt_of_cell? _ _ c7) (not_nil _), cell_kept d0 m (World.block_lt_of_cell? _ _ d0) (not_nil _), cell_kept d1 m (World.block_lt_of_cell? _ _ d1) (not_nil _), cell_kept d2 m (World.block_lt_of_cell? _ _ d2) (not_nil _), cell_kept d3 m (World.block_lt_of_cell? _ _ d3) (not_nil _), cell_kept d4 m (World.block_lt_of_cell? _ _ d4) (not_nil _), cell_kept d5 m (World.block_lt_of_cell? _ _ d5) (not_nil _), cell_kept d6 m (World.block_lt_of_cell? _ _ d6) (not_nil _), cell_kept d7 m (World.block_lt_of_cell? _ _ d7) (not_nil _)⟩)
  have hxf : Pl.few ⟨xd, xps, xls, xz, xs, xe, xw, xdl⟩ := HFEWX.out.few
  have hxz : xz.length ≤ 1000000000 := by have h : xz.length ≤ 1000 := HFEWX.out.2.2; omega
  obtain ⟨eb, ez, hen⟩ : ∃ eb ez, encF ⟨xd, xps, xls, xz, xs, xe, xw, xdl⟩ = (eb, ez) := ⟨_, _, rfl⟩
  obtain ⟨en, hebn⟩ : ∃ n, eb.length = n := ⟨_, rfl⟩
  have HXF := Lib.hid hxf
  have HXZ := Lib.hid hxz
  have HEN := Lib.hid hen
  have HEBN := Lib.hid hebn
  have HENC1 : Hid (Calls Try.prog 21 #[.agg #[.int .i64 xd, .slice p1a x1 c1a, .slice p2a x2 c2a, .string ⟨xz.toArray⟩, .int .i64 xs, .int .i64 xe, .int .i64 xw, .slice p7a x7 c7a]] w7 fun e w' => ∃ p c, e = .returned (.tuple #[.slice p en c, .int .i64 ez]) ∧ IsRow (fun k => w7.heap.size ≤ k) w' (.slice p en c) (bys eb) ∧ Mod nil w7 w') := Lib.hid (by
    have h := planEncode _ _ ⟨xd, xps, xls, xz, xs, xe, xw, xdl⟩ w7 (HPP.out.modNil HM7.out) hxf hxz
    rw [hen] at h
    simp only at h
    rw [hebn] at h
    exact h.mono (fun e w' h => by
      obtain ⟨vb, h1, h2, h3⟩ := h
      obtain ⟨p, c, rfl⟩ := h2.form
      exact ⟨p, c, h1, h2.row, h3⟩))
  clear hxf hxz hen hebn
  go_wp2_with fail
  refine HENC1.out.mono ?_
  rintro e w9 ⟨px, cx, rfl, hx, m9⟩
  clear a0 a1 a2 a3 a4 a5 a6 a7 b0 b1 b2 b3 b4 b5 b6 b7 c0 c1 c2 c3 c4 c5 c6 c7 d0 d1 d2 d3 d4 d5 d6 d7
  obtain ⟨a0, a1, a2, a3, a4, a5, a6, a7, b0, b1, b2, b3, b4, b5, b6, b7, c0, c1, c2, c3, c4, c5, c6, c7, d0, d1, d2, d3, d4, d5, d6, d7⟩ := HKEEP.out w9 m9
  have HXW : Hid (∀ W, Mod nil w9 W → IsRow (fun k => w7.heap.size ≤ k) W (.slice px en cx) (bys eb)) := Lib.hid (fun W m => hx.modNil m)
  clear hx
  have HENC2 : Hid (Calls Try.prog 22 #[.agg #[.int .i64 xd, .slice p1a x1 c1a, .slice p2a x2 c2a, .string ⟨xz.toArray⟩, .int .i64 xs, .int .i64 xe, .int .i64 xw, .slice p7a x7 c7a]] w9 fun e w' => ∃ p c, e = .returned (.tuple #[.slice p en c, .int .i64 ez]) ∧ IsRow (fun k => w9.heap.size ≤ k) w' (.slice p en c) (bys eb) ∧ Mod nil w9 w') := Lib.hid (by
    have h := refEncode _ _ ⟨xd, xps, xls, xz, xs, xe, xw, xdl⟩ w9 (HPP.out.modNil (HM7.out.thenNil m9)) HCP.out HXF.out HXZ.out
    rw [HEN.out] at h
    simp only at h
    exact h.mono (fun e w' h => by
      obtain ⟨vb, h1, h2, h3⟩ := h
      obtain ⟨p, c, rfl, -⟩ := id h2
      rw [bys_length, HEBN.out] at h1 h2
      exact ⟨p, c, h1, h2, h3⟩))
  go_wp2_with fail
  refine HENC2.out.mono ?_
  rintro e w10 ⟨py, cy, rfl, hy, m10b⟩
  have m10 := m9.thenNil m10b
  clear a0 a1 a2 a3 a4 a5 a6 a7 b0 b1 b2 b3 b4 b5 b6 b7 c0 c1 c2 c3 c4 c5 c6 c7 d0 d1 d2 d3 d4 d5 d6 d7
  obtain ⟨a0, a1, a2, a3, a4, a5, a6, a7, b0, b1, b2, b3, b4, b5, b6, b7, c0, c1, c2, c3, c4, c5, c6, c7, d0, d1, d2, d3, d4, d5, d6, d7⟩ := HKEEP.out w10 m10
  have HM10 := Lib.hid (HM7.out.thenNil m10)
  have HBYT : Hid (∀ W, Mod nil w10 W → Calls Try.prog 27 #[.slice px en cx, .slice py en cy] W fun e w' => e = .returned (.bool true) ∧ Mod nil w10 w') := Lib.hid (fun W m => by
    have h := refBytesSame _ _ _ _ eb eb W (HXW.out W (m10b.thenNil m)) (hy.modNil m)
    rw [decide_eq_true rfl] at h
    exact h.mono (fun e w' h => ⟨h.1, h.2 ▸ m⟩))
  have HPC10 := Lib.hid (HPC7.out.modNil m10)
  have HPD10 := Lib.hid (HPD7.out.modNil m10)
  have HKEEP10 : Hid (∀ W, Mod nil w10 W → W.cell? ⟨r1, 0, none⟩ = some (.int .i64 xd) ∧ W.cell? ⟨r1, 1, none⟩ = some (.slice p1a x1 c1a) ∧ W.cell? ⟨r1, 2, none⟩ = some (.slice p2a x2 c2a) ∧ W.cell? ⟨r1, 3, none⟩ = some (.string ⟨xz.toArray⟩) ∧ W.cell? ⟨r1, 4, none⟩ = some (.int .i64 xs) ∧ W.cell? ⟨r1, 5, none⟩ = some (.int .i64 xe) ∧ W.cell? ⟨r1, 6, none⟩ = some (.int .i64 xw) ∧ W.cell? ⟨r1, 7, none⟩ = some (.slice p7a x7 c7a) ∧ W.cell? ⟨r2, 0, none⟩ = some (.int .i64 yd) ∧ W.cell? ⟨r2, 1, none⟩ = some (.slice p1b y1 c1b) ∧ W.cell? ⟨r2, 2, none⟩ = some (.slice p2b y2 c2b) ∧ W.cell? ⟨r2, 3, none⟩ = some (.string ⟨yz.toArray⟩) ∧ W.cell? ⟨r2, 4, none⟩ = some (.int .i64 ys) ∧ W.cell? ⟨r2, 5, none⟩ = some (.int .i64 ye) ∧ W.cell? ⟨r2, 6, none⟩ = some (.int .i64 yw) ∧ W.cell? ⟨r2, 7, none⟩ = some (.slice p7b y7 c7b) ∧ W.cell? ⟨tc, 0, none⟩ = some (.int .i64 ud) ∧ W.cell? ⟨tc, 1, none⟩ = some (.slice p1c u1 c1c) ∧ W.cell? ⟨tc, 2, none⟩ = some (.slice p2c u2 c2c) ∧ W.cell? ⟨tc, 3, none⟩ = some (.string ⟨uz.toArray⟩) ∧ W.cell? ⟨tc, 4, none⟩ = some (.int .i64 us) ∧ W.cell? ⟨tc, 5, none⟩ = some (.int .i64 ue) ∧ W.cell? ⟨tc, 6, none⟩ = some (.int .i64 uw) ∧ W.cell? ⟨tc, 7, none⟩ = some (.slice p7c u7 c7c) ∧ W.cell? ⟨td, 0, none⟩ = some (.int .i64 ud) ∧ W.cell? ⟨td, 1, none⟩ = some (.slice p1d u1 c1d) ∧ W.cell? ⟨td, 2, none⟩ = some (.slice p2d u2 c2d) ∧ W.cell? ⟨td, 3, none⟩ = some (.string ⟨uz.toArray⟩) ∧ W.cell? ⟨td, 4, none⟩ = some (.int .i64 us) ∧ W.cell? ⟨td, 5, none⟩ = some (.int .i64 ue) ∧ W.cell? ⟨td, 6, none⟩ = some (.int .i64 uw) ∧ W.cell? ⟨td, 7, none⟩ = some (.slice p7d u7 c7d)) := Lib.hid (fun W m => HKEEP.out W (m10.thenNil m))
  obtain ⟨ck, hck⟩ : ∃ x, checkN ⟨xd, xps, xls, xz, xs, xe, xw, xdl⟩ nn ca sa = x := ⟨_, rfl⟩
  obtain ⟨sq, hsq⟩ : ∃ x, decide (((⟨xd, xps, xls, xz, xs, xe, xw, xdl⟩ : Pl)) = ⟨yd, yps, yls, yz, ys, ye, yw, ydl⟩) = x := ⟨_, rfl⟩
  have HCK1 : Hid (∀ W, Mod nil w10 W → Calls Try.prog 16 #[.agg #[.int .i64 xd, .slice p1a x1 c1a, .slice p2a x2 c2a, .string ⟨xz.toArray⟩, .int .i64 xs, .int .i64 xe, .int .i64 xw, .slice p7a x7 c7a], .int .i64 nn, .int .i64 ca, .int .i64 sa] W fun e w' => e = .returned (.int .i64 ck) ∧ Mod nil w10 w') := Lib.hid (fun W m => by
    have h := planCheck _ _ ⟨xd, xps, xls, xz, xs, xe, xw, xdl⟩ nn ca sa W (HPP.out.modNil (HM10.out.thenNil m)) HXF.out HXZ.out
    rw [hck] at h
    exact h.mono (fun e w' h => ⟨h.1, m.thenNil h.2⟩))
  have HCK2 : Hid (∀ W, Mod nil w10 W → Calls Try.prog 30 #[.agg #[.int .i64 xd, .slice p1a x1 c1a, .slice p2a x2 c2a, .string ⟨xz.toArray⟩, .int .i64 xs, .int .i64 xe, .int .i64 xw, .slice p7a x7 c7a], .int .i64 nn, .int .i64 ca, .int .i64 sa] W fun e w' => e = .returned (.int .i64 ck) ∧ Mod nil w10 w') := Lib.hid (fun W m => by
    have h := refCheck _ _ ⟨xd, xps, xls, xz, xs, xe, xw, xdl⟩ nn ca sa W (HPP.out.modNil (HM10.out.thenNil m)) HCP.out HXF.out HXZ.out
    rw [hck] at h
    exact h.mono (fun e w' h => ⟨h.1, m.thenNil h.2⟩))
  have HSM1 : Hid (∀ W, Mod nil w10 W → Calls Try.prog 11 #[.agg #[.int .i64 xd, .slice p1a x1 c1a, .slice p2a x2 c2a, .string ⟨xz.toArray⟩, .int .i64 xs, .int .i64 xe, .int .i64 xw, .slice p7a x7 c7a], .agg #[.int .i64 yd, .slice p1b y1 c1b, .slice p2b y2 c2b, .string ⟨yz.toArray⟩, .int .i64 ys, .int .i64 ye, .int .i64 yw, .slice p7b y7 c7b]] W fun e w' => e = .returned (.bool sq) ∧ Mod nil w10 w') := Lib.hid (fun W m => by
    have h := planSame _ _ _ _ ⟨xd, xps, xls, xz, xs, xe, xw, xdl⟩ ⟨yd, yps, yls, yz, ys, ye, yw, ydl⟩ W (HPP.out.modNil (HM10.out.thenNil m)) (HPQ.out.modNil (HM10.out.thenNil m)) HXF.out
    rw [hsq] at h
    exact h.mono (fun e w' h => ⟨h.1, m.thenNil h.2⟩))
  have HSM2 : Hid (∀ W, Mod nil w10 W → Calls Try.prog 23 #[.agg #[.int .i64 xd, .slice p1a x1 c1a, .slice p2a x2 c2a, .string ⟨xz.toArray⟩, .int .i64 xs, .int .i64 xe, .int .i64 xw, .slice p7a x7 c7a], .agg #[.int .i64 yd, .slice p1b y1 c1b, .slice p2b y2 c2b, .string ⟨yz.toArray⟩, .int .i64 ys, .int .i64 ye, .int .i64 yw, .slice p7b y7 c7b]] W fun e w' => e = .returned (.bool sq) ∧ Mod nil w10 w') := Lib.hid (fun W m => by
    have h := refSamePlan _ _ _ _ ⟨xd, xps, xls, xz, xs, xe, xw, xdl⟩ ⟨yd, yps, yls, yz, ys, ye, yw, ydl⟩ W (HPP.out.modNil (HM10.out.thenNil m)) (HPQ.out.modNil (HM10.out.thenNil m)) HXF.out
    rw [hsq] at h
    exact h.mono (fun e w' h => ⟨h.1, m.thenNil h.2⟩))
  have HSM3 : Hid (∀ W, Mod nil w10 W → Calls Try.prog 11 #[.agg #[.int .i64 xd, .slice p1a x1 c1a, .slice p2a x2 c2a, .string ⟨xz.toArray⟩, .int .i64 xs, .int .i64 xe, .int .i64 xw, .slice p7a x7 c7a], .agg #[.int .i64 xd, .slice p1a x1 c1a, .slice p2a x2 c2a, .string ⟨xz.toArray⟩, .int .i64 xs, .int .i64 xe, .int .i64 xw, .slice p7a x7 c7a]] W fun e w' => e = .returned (.bool true) ∧ Mod nil w10 w') := Lib.hid (fun W m => by
    have h := planSame _ _ _ _ ⟨xd, xps, xls, xz, xs, xe, xw, xdl⟩ ⟨xd, xps, xls, xz, xs, xe, xw, xdl⟩ W (HPP.out.modNil (HM10.out.thenNil m)) (HPP.out.modNil (HM10.out.thenNil m)) HXF.out
    rw [decide_eq_true rfl] at h
    exact h.mono (fun e w' h => ⟨h.1, m.thenNil h.2⟩))
  have HSM4 : Hid (∀ W, Mod nil w10 W → Calls Try.prog 23 #[.agg #[.int .i64 ud, .slice p1c u1 c1c, .slice p2c u2 c2c, .string ⟨uz.toArray⟩, .int .i64 us, .int .i64 ue, .int .i64 uw, .slice p7c u7 c7c], .agg #[.int .i64 ud, .slice p1d u1 c1d, .slice p2d u2 c2d, .string ⟨uz.toArray⟩, .int .i64 us, .int .i64 ue, .int .i64 uw, .slice p7d u7 c7d]] W fun e w' => e = .returned (.bool true) ∧ Mod nil w10 w') := Lib.hid (fun W m => by
    have h := refSamePlan _ _ _ _ ⟨ud, ups, uls, uz, us, ue, uw, udl⟩ ⟨ud, ups, uls, uz, us, ue, uw, udl⟩ W (HPC10.out.modNil m) (HPD10.out.modNil m) HDFEW.out
    rw [decide_eq_true rfl] at h
    exact h.mono (fun e w' h => ⟨h.1, m.thenNil h.2⟩))
  have M0 : Mod nil w10 w10 := Mod.refl _ _
  clear hy m10b hck hsq
  go_upto_region 9 with (fail)
  refine wp_region_held_drew (S := (fun w' => w'.cell? ⟨r1, 0, none⟩ = some (.int .i64 xd) ∧ w'.cell? ⟨r1, 1, none⟩ = some (.slice p1a x1 c1a) ∧ w'.cell? ⟨r1, 2, none⟩ = some (.slice p2a x2 c2a) ∧ w'.cell? ⟨r1, 3, none⟩ = some (.string ⟨xz.toArray⟩) ∧ w'.cell? ⟨r1, 4, none⟩ = some (.int .i64 xs) ∧ w'.cell? ⟨r1, 5, none⟩ = some (.int .i64 xe) ∧ w'.cell? ⟨r1, 6, none⟩ = some (.int .i64 xw) ∧ w'.cell? ⟨r1, 7, none⟩ = some (.slice p7a x7 c7a) ∧ w'.cell? ⟨r2, 0, none⟩ = some (.int .i64 yd) ∧ w'.cell? ⟨r2, 1, none⟩ = some (.slice p1b y1 c1b) ∧ w'.cell? ⟨r2, 2, none⟩ = some (.slice p2b y2 c2b) ∧ w'.cell? ⟨r2, 3, none⟩ = some (.string ⟨yz.toArray⟩) ∧ w'.cell? ⟨r2, 4, none⟩ = some (.int .i64 ys) ∧ w'.cell? ⟨r2, 5, none⟩ = some (.int .i64 ye) ∧ w'.cell? ⟨r2, 6, none⟩ = some (.int .i64 yw) ∧ w'.cell? ⟨r2, 7, none⟩ = some (.slice p7b y7 c7b) ∧ w'.cell? ⟨tc, 0, none⟩ = some (.int .i64 ud) ∧ w'.cell? ⟨tc, 1, none⟩ = some (.slice p1c u1 c1c) ∧ w'.cell? ⟨tc, 2, none⟩ = some (.slice p2c u2 c2c) ∧ w'.cell? ⟨tc, 3, none⟩ = some (.string ⟨uz.toArray⟩) ∧ w'.cell? ⟨tc, 4, none⟩ = some (.int .i64 us) ∧ w'.cell? ⟨tc, 5, none⟩ = some (.int .i64 ue) ∧ w'.cell? ⟨tc, 6, none⟩ = some (.int .i64 uw) ∧ w'.cell? ⟨tc, 7, none⟩ = some (.slice p7c u7 c7c) ∧ w'.cell? ⟨td, 0, none⟩ = some (.int .i64 ud) ∧ w'.cell? ⟨td, 1, none⟩ = some (.slice p1d u1 c1d) ∧ w'.cell? ⟨td, 2, none⟩ = some (.slice p2d u2 c2d) ∧ w'.cell? ⟨td, 3, none⟩ = some (.string ⟨uz.toArray⟩) ∧ w'.cell? ⟨td, 4, none⟩ = some (.int .i64 us) ∧ w'.cell? ⟨td, 5, none⟩ = some (.int .i64 ue) ∧ w'.cell? ⟨td, 6, none⟩ = some (.int .i64 uw) ∧ w'.cell? ⟨td, 7, none⟩ = some (.slice p7d u7 c7d))) (by kernel_rfl) (⟨a0, a1, a2, a3, a4, a5, a6, a7, b0, b1, b2, b3, b4, b5, b6, b7, c0, c1, c2, c3, c4, c5, c6, c7, d0, d1, d2, d3, d4, d5, d6, d7⟩) (fun hHeld => ?_)
  refine wpAnyH_ready (rs := [0]) (by kernel_rfl) (by simp) ?_
  refine AllReadyH.cons (i := 0) rfl (fun K hK => ?_) AllReadyH.nil
  (try dsimp (config := { proj := false }) only [List.getElem_toArray, List.getElem_cons_succ, List.getElem_cons_zero])
  go_simp
  refine (planFirst _).mono ?_
  rintro e w' ⟨rfl, rfl⟩
  refine hK.out _ _ ⟨a0, a1, a2, a3, a4, a5, a6, a7, b0, b1, b2, b3, b4, b5, b6, b7, c0, c1, c2, c3, c4, c5, c6, c7, d0, d1, d2, d3, d4, d5, d6, d7⟩ (fun hHeld => ?_)
  clear hK K
  (try simp only [Act.put, List.setIfInBounds_toArray, List.set_cons_zero, List.set_cons_succ])
  (try simp only [List.set_cons_succ, List.set_cons_zero])
  refine wpAnyH_take (i := 1) (v := ?_) rfl (by kernel_rfl) (by kernel_rfl) (by kernel_rfl) (fun _ _ _ h => h) (Or.inl ⟨by kernel_rfl, ?_⟩) (by assumption) ?_
  rotate_left
  · intro w hSw; (try dsimp only at hSw); (first | (go_simp; done) | (go_simp; with_reducible rfl))
  (try simp only [Act.put, List.getElem_toArray, List.getElem_cons_succ, List.getElem_cons_zero, List.setIfInBounds_toArray, List.set_cons_succ, List.set_cons_zero])
  refine wpAnyH_take (i := 2) (v := ?_) rfl (by kernel_rfl) (by kernel_rfl) (by kernel_rfl) (fun _ _ _ h => h) (Or.inl ⟨by kernel_rfl, ?_⟩) (by assumption) ?_
  rotate_left
  · intro w hSw; (try dsimp only at hSw); (first | (go_simp; done) | (go_simp; with_reducible rfl))
  (try simp only [Act.put, List.getElem_toArray, List.getElem_cons_succ, List.getElem_cons_zero, List.setIfInBounds_toArray, List.set_cons_succ, List.set_cons_zero])
  refine wpAnyH_take (i := 3) (v := ?_) rfl (by kernel_rfl) (by kernel_rfl) (by kernel_rfl) (fun _ _ _ h => h) (Or.inl ⟨by kernel_rfl, ?_⟩) (by assumption) ?_
  rotate_left
  · intro w hSw; (try dsimp only at hSw); (first | (go_simp; done) | (go_simp; with_reducible rfl))
  (try simp only [Act.put, List.getElem_toArray, List.getElem_cons_succ, List.getElem_cons_zero, List.setIfInBounds_toArray, List.set_cons_succ, List.set_cons_zero])
  refine wpAnyH_take (i := 4) (v := ?_) rfl (by kernel_rfl) (by kernel_rfl) (by kernel_rfl) (fun _ _ _ h => h) (Or.inl ⟨by kernel_rfl, ?_⟩) (by assumption) ?_
  rotate_left
  · intro w hSw; (try dsimp only at hSw); (first | (go_simp; done) | (go_simp; with_reducible rfl))
  (try simp only [Act.put, List.getElem_toArray, List.getElem_cons_succ, List.getElem_cons_zero, List.setIfInBounds_toArray, List.set_cons_succ, List.set_cons_zero])
  refine wpAnyH_take (i := 5) (v := ?_) rfl (by kernel_rfl) (by kernel_rfl) (by kernel_rfl) (fun _ _ _ h => h) (Or.inl ⟨by kernel_rfl, ?_⟩) (by assumption) ?_
  rotate_left
  · intro w hSw; (try dsimp only at hSw); (first | (go_simp; done) | (go_simp; with_reducible rfl))
  (try simp only [Act.put, List.getElem_toArray, List.getElem_cons_succ, List.getElem_cons_zero, List.setIfInBounds_toArray, List.set_cons_succ, List.set_cons_zero])
  refine wpAnyH_take (i := 7) (v := ?_) rfl (by kernel_rfl) (by kernel_rfl) (by kernel_rfl) (fun _ _ _ h => h) (Or.inl ⟨by kernel_rfl, ?_⟩) (by assumption) ?_
  rotate_left
  · intro w hSw; (try dsimp only at hSw); (first | (go_simp; done) | (go_simp; with_reducible rfl))
  (try simp only [Act.put, List.getElem_toArray, List.getElem_cons_succ, List.getElem_cons_zero, List.setIfInBounds_toArray, List.set_cons_succ, List.set_cons_zero])
  refine wpAnyH_take (i := 8) (v := ?_) rfl (by kernel_rfl) (by kernel_rfl) (by kernel_rfl) (fun _ _ _ h => h) (Or.inl ⟨by kernel_rfl, ?_⟩) (by assumption) ?_
  rotate_left
  · intro w hSw; (try dsimp only at hSw); (first | (go_simp; done) | (go_simp; with_reducible rfl))
  (try simp only [Act.put, List.getElem_toArray, List.getElem_cons_succ, List.getElem_cons_zero, List.setIfInBounds_toArray, List.set_cons_succ, List.set_cons_zero])
  refine wpAnyH_take (i := 9) (v := ?_) rfl (by kernel_rfl) (by kernel_rfl) (by kernel_rfl) (fun _ _ _ h => h) (Or.inl ⟨by kernel_rfl, ?_⟩) (by assumption) ?_
  rotate_left
  · intro w hSw; (try dsimp only at hSw); (first | (go_simp; done) | (go_simp; with_reducible rfl))
  (try simp only [Act.put, List.getElem_toArray, List.getElem_cons_succ, List.getElem_cons_zero, List.setIfInBounds_toArray, List.set_cons_succ, List.set_cons_zero])
  refine wpAnyH_take (i := 10) (v := ?_) rfl (by kernel_rfl) (by kernel_rfl) (by kernel_rfl) (fun _ _ _ h => h) (Or.inl ⟨by kernel_rfl, ?_⟩) (by assumption) ?_
  rotate_left
  · intro w hSw; (try dsimp only at hSw); (first | (go_simp; done) | (go_simp; with_reducible rfl))
  (try simp only [Act.put, List.getElem_toArray, List.getElem_cons_succ, List.getElem_cons_zero, List.setIfInBounds_toArray, List.set_cons_succ, List.set_cons_zero])
  refine wpAnyH_ready (rs := [6]) (by kernel_rfl) (by simp) ?_
  refine AllReadyH.cons (i := 6) rfl (fun K hK => ?_) AllReadyH.nil
  (try dsimp (config := { proj := false }) only [List.getElem_toArray, List.getElem_cons_succ, List.getElem_cons_zero])
  go_simp
  refine (HCK1.out _ ?_).mono ?_
  · (repeat (first | exact M0 | refine Mod.drew ?_))
  rintro e w11 ⟨rfl, m11⟩
  clear a0 a1 a2 a3 a4 a5 a6 a7 b0 b1 b2 b3 b4 b5 b6 b7 c0 c1 c2 c3 c4 c5 c6 c7 d0 d1 d2 d3 d4 d5 d6 d7
  obtain ⟨a0, a1, a2, a3, a4, a5, a6, a7, b0, b1, b2, b3, b4, b5, b6, b7, c0, c1, c2, c3, c4, c5, c6, c7, d0, d1, d2, d3, d4, d5, d6, d7⟩ := HKEEP10.out w11 m11
  refine hK.out _ _ ⟨a0, a1, a2, a3, a4, a5, a6, a7, b0, b1, b2, b3, b4, b5, b6, b7, c0, c1, c2, c3, c4, c5, c6, c7, d0, d1, d2, d3, d4, d5, d6, d7⟩ (fun hHeld => ?_)
  clear hK K
  (try simp only [Act.put, List.setIfInBounds_toArray, List.set_cons_zero, List.set_cons_succ])
  (try simp only [List.set_cons_succ, List.set_cons_zero])
  refine wpAnyH_ready (rs := [11]) (by kernel_rfl) (by simp) ?_
  refine AllReadyH.cons (i := 11) rfl (fun K hK => ?_) AllReadyH.nil
  (try dsimp (config := { proj := false }) only [List.getElem_toArray, List.getElem_cons_succ, List.getElem_cons_zero])
  go_simp
  refine (HCK2.out _ ?_).mono ?_
  · (repeat (first | exact m11 | refine Mod.drew ?_))
  rintro e w12 ⟨rfl, m12⟩
  clear a0 a1 a2 a3 a4 a5 a6 a7 b0 b1 b2 b3 b4 b5 b6 b7 c0 c1 c2 c3 c4 c5 c6 c7 d0 d1 d2 d3 d4 d5 d6 d7
  obtain ⟨a0, a1, a2, a3, a4, a5, a6, a7, b0, b1, b2, b3, b4, b5, b6, b7, c0, c1, c2, c3, c4, c5, c6, c7, d0, d1, d2, d3, d4, d5, d6, d7⟩ := HKEEP10.out w12 m12
  refine hK.out _ _ ⟨a0, a1, a2, a3, a4, a5, a6, a7, b0, b1, b2, b3, b4, b5, b6, b7, c0, c1, c2, c3, c4, c5, c6, c7, d0, d1, d2, d3, d4, d5, d6, d7⟩ (fun hHeld => ?_)
  clear hK K
  (try simp only [Act.put, List.setIfInBounds_toArray, List.set_cons_zero, List.set_cons_succ])
  (try simp only [List.set_cons_succ, List.set_cons_zero])
  refine wpAnyH_take (i := 12) (v := ?_) rfl (by kernel_rfl) (by kernel_rfl) (by kernel_rfl) (fun _ _ _ h => h) (Or.inl ⟨by kernel_rfl, ?_⟩) (by assumption) ?_
  rotate_left
  · intro w hSw; (try dsimp only at hSw); (first | (go_simp; done) | (go_simp; with_reducible rfl))
  (try simp only [Act.put, List.getElem_toArray, List.getElem_cons_succ, List.getElem_cons_zero, List.setIfInBounds_toArray, List.set_cons_succ, List.set_cons_zero])
  refine wpAnyH_take (i := 13) (v := ?_) rfl (by kernel_rfl) (by kernel_rfl) (by kernel_rfl) (fun _ _ _ h => h) (Or.inl ⟨by kernel_rfl, ?_⟩) (by assumption) ?_
  rotate_left
  · intro w hSw; (try dsimp only at hSw); (first | (go_simp; done) | (go_simp; with_reducible rfl))
  (try simp only [Act.put, List.getElem_toArray, List.getElem_cons_succ, List.getElem_cons_zero, List.setIfInBounds_toArray, List.set_cons_succ, List.set_cons_zero])
  refine wpAnyH_take (i := 14) (v := ?_) rfl (by kernel_rfl) (by kernel_rfl) (by kernel_rfl) (fun _ _ _ h => h) (Or.inl ⟨by kernel_rfl, ?_⟩) (by assumption) ?_
  rotate_left
  · intro w hSw; (try dsimp only at hSw); (first | (go_simp; done) | (go_simp; with_reducible rfl))
  (try simp only [Act.put, List.getElem_toArray, List.getElem_cons_succ, List.getElem_cons_zero, List.setIfInBounds_toArray, List.set_cons_succ, List.set_cons_zero])
  refine wpAnyH_take (i := 15) (v := ?_) rfl (by kernel_rfl) (by kernel_rfl) (by kernel_rfl) (fun _ _ _ h => h) (Or.inl ⟨by kernel_rfl, ?_⟩) (by assumption) ?_
  rotate_left
  · intro w hSw; (try dsimp only at hSw); (first | (go_simp; done) | (go_simp; with_reducible rfl))
  (try simp only [Act.put, List.getElem_toArray, List.getElem_cons_succ, List.getElem_cons_zero, List.setIfInBounds_toArray, List.set_cons_succ, List.set_cons_zero])
  refine wpAnyH_take (i := 16) (v := ?_) rfl (by kernel_rfl) (by kernel_rfl) (by kernel_rfl) (fun _ _ _ h => h) (Or.inl ⟨by kernel_rfl, ?_⟩) (by assumption) ?_
  rotate_left
  · intro w hSw; (try dsimp only at hSw); (first | (go_simp; done) | (go_simp; with_reducible rfl))
  (try simp only [Act.put, List.getElem_toArray, List.getElem_cons_succ, List.getElem_cons_zero, List.setIfInBounds_toArray, List.set_cons_succ, List.set_cons_zero])
  refine wpAnyH_take (i := 18) (v := ?_) rfl (by kernel_rfl) (by kernel_rfl) (by kernel_rfl) (fun _ _ _ h => h) (Or.inl ⟨by kernel_rfl, ?_⟩) (by assumption) ?_
  rotate_left
  · intro w hSw; (try dsimp only at hSw); (first | (go_simp; done) | (go_simp; with_reducible rfl))
  (try simp only [Act.put, List.getElem_toArray, List.getElem_cons_succ, List.getElem_cons_zero, List.setIfInBounds_toArray, List.set_cons_succ, List.set_cons_zero])
  refine wpAnyH_take (i := 19) (v := ?_) rfl (by kernel_rfl) (by kernel_rfl) (by kernel_rfl) (fun _ _ _ h => h) (Or.inl ⟨by kernel_rfl, ?_⟩) (by assumption) ?_
  rotate_left
  · intro w hSw; (try dsimp only at hSw); (first | (go_simp; done) | (go_simp; with_reducible rfl))
  (try simp only [Act.put, List.getElem_toArray, List.getElem_cons_succ, List.getElem_cons_zero, List.setIfInBounds_toArray, List.set_cons_succ, List.set_cons_zero])
  refine wpAnyH_ready (rs := [17]) (by kernel_rfl) (by simp) ?_
  refine AllReadyH.cons (i := 17) rfl (fun K hK => ?_) AllReadyH.nil
  (try dsimp (config := { proj := false }) only [List.getElem_toArray, List.getElem_cons_succ, List.getElem_cons_zero])
  go_simp
  refine (HSM1.out _ ?_).mono ?_
  · (repeat (first | exact m12 | refine Mod.drew ?_))
  rintro e w13 ⟨rfl, m13⟩
  clear a0 a1 a2 a3 a4 a5 a6 a7 b0 b1 b2 b3 b4 b5 b6 b7 c0 c1 c2 c3 c4 c5 c6 c7 d0 d1 d2 d3 d4 d5 d6 d7
  obtain ⟨a0, a1, a2, a3, a4, a5, a6, a7, b0, b1, b2, b3, b4, b5, b6, b7, c0, c1, c2, c3, c4, c5, c6, c7, d0, d1, d2, d3, d4, d5, d6, d7⟩ := HKEEP10.out w13 m13
  refine hK.out _ _ ⟨a0, a1, a2, a3, a4, a5, a6, a7, b0, b1, b2, b3, b4, b5, b6, b7, c0, c1, c2, c3, c4, c5, c6, c7, d0, d1, d2, d3, d4, d5, d6, d7⟩ (fun hHeld => ?_)
  clear hK K
  (try simp only [Act.put, List.setIfInBounds_toArray, List.set_cons_zero, List.set_cons_succ])
  (try simp only [List.set_cons_succ, List.set_cons_zero])
  refine wpAnyH_ready (rs := [20]) (by kernel_rfl) (by simp) ?_
  refine AllReadyH.cons (i := 20) rfl (fun K hK => ?_) AllReadyH.nil
  (try dsimp (config := { proj := false }) only [List.getElem_toArray, List.getElem_cons_succ, List.getElem_cons_zero])
  go_simp
  refine (HSM2.out _ ?_).mono ?_
  · (repeat (first | exact m13 | refine Mod.drew ?_))
  rintro e w14 ⟨rfl, m14⟩
  clear a0 a1 a2 a3 a4 a5 a6 a7 b0 b1 b2 b3 b4 b5 b6 b7 c0 c1 c2 c3 c4 c5 c6 c7 d0 d1 d2 d3 d4 d5 d6 d7
  obtain ⟨a0, a1, a2, a3, a4, a5, a6, a7, b0, b1, b2, b3, b4, b5, b6, b7, c0, c1, c2, c3, c4, c5, c6, c7, d0, d1, d2, d3, d4, d5, d6, d7⟩ := HKEEP10.out w14 m14
  refine hK.out _ _ ⟨a0, a1, a2, a3, a4, a5, a6, a7, b0, b1, b2, b3, b4, b5, b6, b7, c0, c1, c2, c3, c4, c5, c6, c7, d0, d1, d2, d3, d4, d5, d6, d7⟩ (fun hHeld => ?_)
  clear hK K
  (try simp only [Act.put, List.setIfInBounds_toArray, List.set_cons_zero, List.set_cons_succ])
  (try simp only [List.set_cons_succ, List.set_cons_zero])
  refine wpAnyH_take (i := 21) (v := ?_) rfl (by kernel_rfl) (by kernel_rfl) (by kernel_rfl) (fun _ _ _ h => h) (Or.inl ⟨by kernel_rfl, ?_⟩) (by assumption) ?_
  rotate_left
  · intro w hSw; (try dsimp only at hSw); (first | (go_simp; done) | (go_simp; with_reducible rfl))
  (try simp only [Act.put, List.getElem_toArray, List.getElem_cons_succ, List.getElem_cons_zero, List.setIfInBounds_toArray, List.set_cons_succ, List.set_cons_zero])
  refine wpAnyH_take (i := 22) (v := ?_) rfl (by kernel_rfl) (by kernel_rfl) (by kernel_rfl) (fun _ _ _ h => h) (Or.inl ⟨by kernel_rfl, ?_⟩) (by assumption) ?_
  rotate_left
  · intro w hSw; (try dsimp only at hSw); (first | (go_simp; done) | (go_simp; with_reducible rfl))
  (try simp only [Act.put, List.getElem_toArray, List.getElem_cons_succ, List.getElem_cons_zero, List.setIfInBounds_toArray, List.set_cons_succ, List.set_cons_zero])
  refine wpAnyH_take (i := 23) (v := ?_) rfl (by kernel_rfl) (by kernel_rfl) (by kernel_rfl) (fun _ _ _ h => h) (Or.inl ⟨by kernel_rfl, ?_⟩) (by assumption) ?_
  rotate_left
  · intro w hSw; (try dsimp only at hSw); (first | (go_simp; done) | (go_simp; with_reducible rfl))
  (try simp only [Act.put, List.getElem_toArray, List.getElem_cons_succ, List.getElem_cons_zero, List.setIfInBounds_toArray, List.set_cons_succ, List.set_cons_zero])
  refine wpAnyH_take (i := 24) (v := ?_) rfl (by kernel_rfl) (by kernel_rfl) (by kernel_rfl) (fun _ _ _ h => h) (Or.inl ⟨by kernel_rfl, ?_⟩) (by assumption) ?_
  rotate_left
  · intro w hSw; (try dsimp only at hSw); (first | (go_simp; done) | (go_simp; with_reducible rfl))
  (try simp only [Act.put, List.getElem_toArray, List.getElem_cons_succ, List.getElem_cons_zero, List.setIfInBounds_toArray, List.set_cons_succ, List.set_cons_zero])
  refine wpAnyH_take (i := 25) (v := ?_) rfl (by kernel_rfl) (by kernel_rfl) (by kernel_rfl) (fun _ _ _ h => h) (Or.inl ⟨by kernel_rfl, ?_⟩) (by assumption) ?_
  rotate_left
  · intro w hSw; (try dsimp only at hSw); (first | (go_simp; done) | (go_simp; with_reducible rfl))
  (try simp only [Act.put, List.getElem_toArray, List.getElem_cons_succ, List.getElem_cons_zero, List.setIfInBounds_toArray, List.set_cons_succ, List.set_cons_zero])
  refine wpAnyH_ready (rs := [26]) (by kernel_rfl) (by simp) ?_
  refine AllReadyH.cons (i := 26) rfl (fun K hK => ?_) AllReadyH.nil
  (try dsimp (config := { proj := false }) only [List.getElem_toArray, List.getElem_cons_succ, List.getElem_cons_zero])
  go_simp
  refine (HSM3.out _ ?_).mono ?_
  · (repeat (first | exact m14 | refine Mod.drew ?_))
  rintro e w15 ⟨rfl, m15⟩
  clear a0 a1 a2 a3 a4 a5 a6 a7 b0 b1 b2 b3 b4 b5 b6 b7 c0 c1 c2 c3 c4 c5 c6 c7 d0 d1 d2 d3 d4 d5 d6 d7
  obtain ⟨a0, a1, a2, a3, a4, a5, a6, a7, b0, b1, b2, b3, b4, b5, b6, b7, c0, c1, c2, c3, c4, c5, c6, c7, d0, d1, d2, d3, d4, d5, d6, d7⟩ := HKEEP10.out w15 m15
  refine hK.out _ _ ⟨a0, a1, a2, a3, a4, a5, a6, a7, b0, b1, b2, b3, b4, b5, b6, b7, c0, c1, c2, c3, c4, c5, c6, c7, d0, d1, d2, d3, d4, d5, d6, d7⟩ (fun hHeld => ?_)
  clear hK K
  (try simp only [Act.put, List.setIfInBounds_toArray, List.set_cons_zero, List.set_cons_succ])
  (try simp only [List.set_cons_succ, List.set_cons_zero])
  refine wpAnyH_take (i := 27) (v := ?_) rfl (by kernel_rfl) (by kernel_rfl) (by kernel_rfl) (fun _ _ _ h => h) (Or.inl ⟨by kernel_rfl, ?_⟩) (by assumption) ?_
  rotate_left
  · intro w hSw; (try dsimp only at hSw); (first | (go_simp; done) | (go_simp; with_reducible rfl))
  (try simp only [Act.put, List.getElem_toArray, List.getElem_cons_succ, List.getElem_cons_zero, List.setIfInBounds_toArray, List.set_cons_succ, List.set_cons_zero])
  refine wpAnyH_take (i := 28) (v := ?_) rfl (by kernel_rfl) (by kernel_rfl) (by kernel_rfl) (fun _ _ _ h => h) (Or.inl ⟨by kernel_rfl, ?_⟩) (by assumption) ?_
  rotate_left
  · intro w hSw; (try dsimp only at hSw); (first | (go_simp; done) | (go_simp; with_reducible rfl))
  (try simp only [Act.put, List.getElem_toArray, List.getElem_cons_succ, List.getElem_cons_zero, List.setIfInBounds_toArray, List.set_cons_succ, List.set_cons_zero])
  refine wpAnyH_take (i := 29) (v := ?_) rfl (by kernel_rfl) (by kernel_rfl) (by kernel_rfl) (fun _ _ _ h => h) (Or.inl ⟨by kernel_rfl, ?_⟩) (by assumption) ?_
  rotate_left
  · intro w hSw; (try dsimp only at hSw); (first | (go_simp; done) | (go_simp; with_reducible rfl))
  (try simp only [Act.put, List.getElem_toArray, List.getElem_cons_succ, List.getElem_cons_zero, List.setIfInBounds_toArray, List.set_cons_succ, List.set_cons_zero])
  refine wpAnyH_take (i := 30) (v := ?_) rfl (by kernel_rfl) (by kernel_rfl) (by kernel_rfl) (fun _ _ _ h => h) (Or.inl ⟨by kernel_rfl, ?_⟩) (by assumption) ?_
  rotate_left
  · intro w hSw; (try dsimp only at hSw); (first | (go_simp; done) | (go_simp; with_reducible rfl))
  (try simp only [Act.put, List.getElem_toArray, List.getElem_cons_succ, List.getElem_cons_zero, List.setIfInBounds_toArray, List.set_cons_succ, List.set_cons_zero])
  refine wpAnyH_take (i := 31) (v := ?_) rfl (by kernel_rfl) (by kernel_rfl) (by kernel_rfl) (fun _ _ _ h => h) (Or.inl ⟨by kernel_rfl, ?_⟩) (by assumption) ?_
  rotate_left
  · intro w hSw; (try dsimp only at hSw); (first | (go_simp; done) | (go_simp; with_reducible rfl))
  (try simp only [Act.put, List.getElem_toArray, List.getElem_cons_succ, List.getElem_cons_zero, List.setIfInBounds_toArray, List.set_cons_succ, List.set_cons_zero])
  refine wpAnyH_take (i := 32) (v := ?_) rfl (by kernel_rfl) (by kernel_rfl) (by kernel_rfl) (fun _ _ _ h => h) (Or.inl ⟨by kernel_rfl, ?_⟩) (by assumption) ?_
  rotate_left
  · intro w hSw; (try dsimp only at hSw); (first | (go_simp; done) | (go_simp; with_reducible rfl))
  (try simp only [Act.put, List.getElem_toArray, List.getElem_cons_succ, List.getElem_cons_zero, List.setIfInBounds_toArray, List.set_cons_succ, List.set_cons_zero])
  refine wpAnyH_take (i := 33) (v := ?_) rfl (by kernel_rfl) (by kernel_rfl) (by kernel_rfl) (fun _ _ _ h => h) (Or.inl ⟨by kernel_rfl, ?_⟩) (by assumption) ?_
  rotate_left
  · intro w hSw; (try dsimp only at hSw); (first | (go_simp; done) | (go_simp; with_reducible rfl))
  (try simp only [Act.put, List.getElem_toArray, List.getElem_cons_succ, List.getElem_cons_zero, List.setIfInBounds_toArray, List.set_cons_succ, List.set_cons_zero])
  refine wpAnyH_take (i := 34) (v := ?_) rfl (by kernel_rfl) (by kernel_rfl) (by kernel_rfl) (fun _ _ _ h => h) (Or.inl ⟨by kernel_rfl, ?_⟩) (by assumption) ?_
  rotate_left
  · intro w hSw; (try dsimp only at hSw); (first | (go_simp; done) | (go_simp; with_reducible rfl))
  (try simp only [Act.put, List.getElem_toArray, List.getElem_cons_succ, List.getElem_cons_zero, List.setIfInBounds_toArray, List.set_cons_succ, List.set_cons_zero])
  refine wpAnyH_take (i := 35) (v := ?_) rfl (by kernel_rfl) (by kernel_rfl) (by kernel_rfl) (fun _ _ _ h => h) (Or.inl ⟨by kernel_rfl, ?_⟩) (by assumption) ?_
  rotate_left
  · intro w hSw; (try dsimp only at hSw); (first | (go_simp; done) | (go_simp; with_reducible rfl))
  (try simp only [Act.put, List.getElem_toArray, List.getElem_cons_succ, List.getElem_cons_zero, List.setIfInBounds_toArray, List.set_cons_succ, List.set_cons_zero])
  refine wpAnyH_ready (rs := [36]) (by kernel_rfl) (by simp) ?_
  refine AllReadyH.cons (i := 36) rfl (fun K hK => ?_) AllReadyH.nil
  (try dsimp (config := { proj := false }) only [List.getElem_toArray, List.getElem_cons_succ, List.getElem_cons_zero])
  go_simp
  refine (HSM4.out _ ?_).mono ?_
  · (repeat (first | exact m15 | refine Mod.drew ?_))
  rintro e w16 ⟨rfl, m16⟩
  clear a0 a1 a2 a3 a4 a5 a6 a7 b0 b1 b2 b3 b4 b5 b6 b7 c0 c1 c2 c3 c4 c5 c6 c7 d0 d1 d2 d3 d4 d5 d6 d7
  obtain ⟨a0, a1, a2, a3, a4, a5, a6, a7, b0, b1, b2, b3, b4, b5, b6, b7, c0, c1, c2, c3, c4, c5, c6, c7, d0, d1, d2, d3, d4, d5, d6, d7⟩ := HKEEP10.out w16 m16
  refine hK.out _ _ ⟨a0, a1, a2, a3, a4, a5, a6, a7, b0, b1, b2, b3, b4, b5, b6, b7, c0, c1, c2, c3, c4, c5, c6, c7, d0, d1, d2, d3, d4, d5, d6, d7⟩ (fun hHeld => ?_)
  clear hK K
  (try simp only [Act.put, List.setIfInBounds_toArray, List.set_cons_zero, List.set_cons_succ])
  (try simp only [List.set_cons_succ, List.set_cons_zero])
  refine wpAnyH_take (i := 37) (v := ?_) rfl (by kernel_rfl) (by kernel_rfl) (by kernel_rfl) (fun _ _ _ h => h) (Or.inl ⟨by kernel_rfl, ?_⟩) (by assumption) ?_
  rotate_left
  · intro w hSw; (try dsimp only at hSw); (first | (go_simp; done) | (go_simp; with_reducible rfl))
  (try simp only [Act.put, List.getElem_toArray, List.getElem_cons_succ, List.getElem_cons_zero, List.setIfInBounds_toArray, List.set_cons_succ, List.set_cons_zero])
  refine wpAnyH_take (i := 38) (v := ?_) rfl (by kernel_rfl) (by kernel_rfl) (by kernel_rfl) (fun _ _ _ h => h) (Or.inl ⟨by kernel_rfl, ?_⟩) (by assumption) ?_
  rotate_left
  · intro w hSw; (try dsimp only at hSw); (first | (go_simp; done) | (go_simp; with_reducible rfl))
  (try simp only [Act.put, List.getElem_toArray, List.getElem_cons_succ, List.getElem_cons_zero, List.setIfInBounds_toArray, List.set_cons_succ, List.set_cons_zero])
  refine wpAnyH_take (i := 39) (v := ?_) rfl (by kernel_rfl) (by kernel_rfl) (by kernel_rfl) (fun _ _ _ h => h) (Or.inl ⟨by kernel_rfl, ?_⟩) (by assumption) ?_
  rotate_left
  · intro w hSw; (try dsimp only at hSw); (first | (go_simp; done) | (go_simp; with_reducible rfl))
  (try simp only [Act.put, List.getElem_toArray, List.getElem_cons_succ, List.getElem_cons_zero, List.setIfInBounds_toArray, List.set_cons_succ, List.set_cons_zero])
  refine wpAnyH_take (i := 40) (v := ?_) rfl (by kernel_rfl) (by kernel_rfl) (by kernel_rfl) (fun _ _ _ h => h) (Or.inl ⟨by kernel_rfl, ?_⟩) (by assumption) ?_
  rotate_left
  · intro w hSw; (try dsimp only at hSw); (first | (go_simp; done) | (go_simp; with_reducible rfl))
  (try simp only [Act.put, List.getElem_toArray, List.getElem_cons_succ, List.getElem_cons_zero, List.setIfInBounds_toArray, List.set_cons_succ, List.set_cons_zero])
  refine wpAnyH_ready (rs := [41]) (by kernel_rfl) (by simp) ?_
  refine AllReadyH.cons (i := 41) rfl (fun K hK => ?_) AllReadyH.nil
  (try dsimp (config := { proj := false }) only [List.getElem_toArray, List.getElem_cons_succ, List.getElem_cons_zero])
  go_simp
  refine (HBYT.out _ ?_).mono ?_
  · (repeat (first | exact m16 | refine Mod.drew ?_))
  rintro e w17 ⟨rfl, m17⟩
  clear a0 a1 a2 a3 a4 a5 a6 a7 b0 b1 b2 b3 b4 b5 b6 b7 c0 c1 c2 c3 c4 c5 c6 c7 d0 d1 d2 d3 d4 d5 d6 d7
  obtain ⟨a0, a1, a2, a3, a4, a5, a6, a7, b0, b1, b2, b3, b4, b5, b6, b7, c0, c1, c2, c3, c4, c5, c6, c7, d0, d1, d2, d3, d4, d5, d6, d7⟩ := HKEEP10.out w17 m17
  have HE := Lib.hid (HPOST.out _ w17 ⟨rfl, HM10.out.thenNil m17⟩)
  refine hK.out _ _ ⟨a0, a1, a2, a3, a4, a5, a6, a7, b0, b1, b2, b3, b4, b5, b6, b7, c0, c1, c2, c3, c4, c5, c6, c7, d0, d1, d2, d3, d4, d5, d6, d7⟩ (fun hHeld => ?_)
  clear hK K
  (try simp only [Act.put, List.setIfInBounds_toArray, List.set_cons_zero, List.set_cons_succ])
  (try simp only [List.set_cons_succ, List.set_cons_zero])
  refine wpAnyH_take (i := 42) (v := ?_) rfl (by kernel_rfl) (by kernel_rfl) (by kernel_rfl) (fun _ _ _ h => h) (Or.inl ⟨by kernel_rfl, ?_⟩) (by assumption) ?_
  rotate_left
  · intro w hSw; (try dsimp only at hSw); (first | (go_simp; done) | (go_simp; with_reducible rfl))
  (try simp only [Act.put, List.getElem_toArray, List.getElem_cons_succ, List.getElem_cons_zero, List.setIfInBounds_toArray, List.set_cons_succ, List.set_cons_zero])
  refine wpAnyH_take (i := 43) (v := ?_) rfl (by kernel_rfl) (by kernel_rfl) (by kernel_rfl) (fun _ _ _ h => h) (Or.inl ⟨by kernel_rfl, ?_⟩) (by assumption) ?_
  rotate_left
  · intro w hSw; (try dsimp only at hSw); (first | (go_simp; done) | (go_simp; with_reducible rfl))
  (try simp only [Act.put, List.getElem_toArray, List.getElem_cons_succ, List.getElem_cons_zero, List.setIfInBounds_toArray, List.set_cons_succ, List.set_cons_zero])
  refine wpAnyH_take (i := 44) (v := ?_) rfl (by kernel_rfl) (by kernel_rfl) (by kernel_rfl) (fun _ _ _ h => h) (Or.inl ⟨by kernel_rfl, ?_⟩) (by assumption) ?_
  rotate_left
  · intro w hSw; (try dsimp only at hSw); (first | (go_simp; done) | (go_simp; with_reducible rfl))
  (try simp only [Act.put, List.getElem_toArray, List.getElem_cons_succ, List.getElem_cons_zero, List.setIfInBounds_toArray, List.set_cons_succ, List.set_cons_zero])
  refine wpAnyH_take (i := 45) (v := ?_) rfl (by kernel_rfl) (by kernel_rfl) (by kernel_rfl) (fun _ _ _ h => h) (Or.inl ⟨by kernel_rfl, ?_⟩) (by assumption) ?_
  rotate_left
  · intro w hSw; (try dsimp only at hSw); (first | (go_simp; done) | (go_simp; with_reducible rfl))
  (try simp only [Act.put, List.getElem_toArray, List.getElem_cons_succ, List.getElem_cons_zero, List.setIfInBounds_toArray, List.set_cons_succ, List.set_cons_zero])
  refine wpAnyH_take (i := 46) (v := ?_) rfl (by kernel_rfl) (by kernel_rfl) (by kernel_rfl) (fun _ _ _ h => h) (Or.inl ⟨by kernel_rfl, ?_⟩) (by assumption) ?_
  rotate_left
  · intro w hSw; (try dsimp only at hSw); (first | (go_simp; done) | (go_simp; with_reducible rfl))
  (try simp only [Act.put, List.getElem_toArray, List.getElem_cons_succ, List.getElem_cons_zero, List.setIfInBounds_toArray, List.set_cons_succ, List.set_cons_zero])
  refine wpAnyH_take (i := 47) (v := ?_) rfl (by kernel_rfl) (by kernel_rfl) (by kernel_rfl) (fun _ _ _ h => h) (Or.inl ⟨by kernel_rfl, ?_⟩) (by assumption) ?_
  rotate_left
  · intro w hSw; (try dsimp only at hSw); (first | (go_simp; done) | (go_simp; with_reducible rfl))
  (try simp only [Act.put, List.getElem_toArray, List.getElem_cons_succ, List.getElem_cons_zero, List.setIfInBounds_toArray, List.set_cons_succ, List.set_cons_zero])
  refine wpAnyH_take (i := 48) (v := ?_) rfl (by kernel_rfl) (by kernel_rfl) (by kernel_rfl) (fun _ _ _ h => h) (Or.inl ⟨by kernel_rfl, ?_⟩) (by assumption) ?_
  rotate_left
  · intro w hSw; (try dsimp only at hSw); (first | (go_simp; done) | (go_simp; with_reducible rfl))
  (try simp only [Act.put, List.getElem_toArray, List.getElem_cons_succ, List.getElem_cons_zero, List.setIfInBounds_toArray, List.set_cons_succ, List.set_cons_zero])
  refine wpAnyH_done (by kernel_rfl) ?_ _
  go_wp2_with fail
  exact HE.out
set_option maxRecDepth 100000 in
theorem walkPlanChecks (v0 v1 v2 v3 v4 v5 : Value) (W : World) (r0 : Rd W 30 v0) (r1 : Rd W 30 v1) (r2 : Rd W 3 v2) (r3 : Rd W 3 v3) (r4 : Rd W 3 v4) (r5 : Rd W 28 v5) :
    Calls Try.prog 6 #[v0, v1, v2, v3, v4, v5] W fun e w' => e = .returned (.bool true) ∧ Below W.heap.size W w' := by
  obtain ⟨P, hp, hc, h1, h2, h3, h4⟩ := r0.planCap
  obtain ⟨Q, hq, -, g1, g2, g3, g4⟩ := r1.planCap
  obtain ⟨nn, rfl, _⟩ := r2.int Try.underlying3
  obtain ⟨ca, rfl, _⟩ := r3.int Try.underlying3
  obtain ⟨sa, rfl, _⟩ := r4.int Try.underlying3
  obtain ⟨pb, cb, b, rfl, hcb, hcm, hrow⟩ := r5.bytesCap
  exact (lawPlanChecks v0 v1 P Q nn ca sa pb b.length cb b W hp hq hc h1 h2 h3 h4 g1 g2 g3 g4 hrow hcb hcm).mono fun e w' h => ⟨h.1, h.2.below⟩
end Go.Proofs.Ytpkhjdhbkkepgaa

/- cfllaw23.DiaryPlays: the program's diary and the reference's, over disks of their own, through any operations. (Printed by wip/tools/gen_lawyplays.py.) -/
import Derived.Laws.CopyRow
import Derived.Laws.IdiomCopy
import Derived.Test.YtdfahddpkkeldaaGreatShort
import Derived.Test.YtdfahddpkkeldaaGreatYPairB
import Derived.Test.YtdfahddpkkeldaaGreatDiaryOps
set_option linter.unusedSimpArgs false
set_option linter.unusedVariables false
namespace Go.Proofs.YtdfahddpkkeldaaGreat
open Go.ChangeShapes Go.WideShapes Go.ChangeAt Go.RowKit
def sect64 (b : List UInt8) : List UInt8 := b.take 64 ++ List.replicate (64 - min 64 b.length) 0
theorem sect64_length (b : List UInt8) : (sect64 b).length = 64 := by unfold sect64; rw [List.length_append, List.length_take, List.length_replicate]; omega
set_option maxRecDepth 100000 in
theorem lawSector (T : Nat → Prop) (pb : Option Addr) (nb cb : Nat) (b : List UInt8) (w : World) (hrow : IsRow T w (.slice pb nb cb) (bys b)) :
  Calls Tryz.prog 18 #[.slice pb nb cb] w fun e w' => e = .returned (.slice (some ⟨w.heap.size, 0, none⟩) 64 64) ∧ IsRow (· = w.heap.size) w' (.slice (some ⟨w.heap.size, 0, none⟩) 64 64) (bys (sect64 b)) ∧ Mod nil w w' ∧ w'.heap.size = w.heap.size + 1 := by
 refine (?_ : ∀ Post : Ending → World → Prop, Hid (∀ e w', (e = .returned (.slice (some ⟨w.heap.size, 0, none⟩) 64 64) ∧ IsRow (· = w.heap.size) w' (.slice (some ⟨w.heap.size, 0, none⟩) 64 64) (bys (sect64 b)) ∧ Mod nil w w' ∧ w'.heap.size = w.heap.size + 1) → Post e w') → Calls Tryz.prog 18 #[.slice pb nb cb] w Post) _ (Lib.hid (fun _ _ h => h))
 intro Post HPOST
 have hbl : b.length = nb := by
  obtain ⟨_, _, h, _⟩ := hrow
  simp only [Value.slice.injEq, bys_length] at h
  exact h.2.1.symm
 obtain ⟨i0, hi0, hz0, hz1, hz2⟩ := info_parts info_u8
 have hmk : (Instr.makeSlice 40 (.int .i64 64) (.int .i64 64)).run Tryz.prog w = .ok (.slice (some ⟨w.heap.size, 0, none⟩) 64 64) (w.alloc (.cells (List.replicate 64 (.int .u8 0)).toArray 5)) := run_make_one 40 5 i0 _ 1 Tryz.underlying40 hi0 hz0 hz1 hz2 rfl 64 (by omega) (by unfold maxLen; omega) w
 obtain ⟨g, hg⟩ : ∃ x, w.heap.size = x := ⟨_, rfl⟩
 obtain ⟨w1, hw1⟩ : ∃ x, w.alloc (.cells (List.replicate 64 (.int .u8 0)).toArray 5) = x := ⟨_, rfl⟩
 have hm1 : Mod nil w w1 := by rw [← hw1]; exact (Mod.refl _ _).alloc _
 have hb1 : w1.heap[g]? = some (.cells (List.replicate 64 (Value.int .u8 0)).toArray 5 (0, 0)) := by rw [← hw1, ← hg]; exact heap_alloc_new _ _
 have hs1 : w1.heap.size = g + 1 := by rw [← hw1, World.size_alloc, hg]
 rw [hw1, hg] at hmk
 have hsz : (Tryz.prog.info? 5).map (·.size) = some 1 := by kernel_rfl
 have hrow1 := hrow.modNil hm1
 have hcopy : ∃ m w2, (Builtin.copy_ #[40, 40] 3 #[.slice (some ⟨g, 0, none⟩) 64 64, .slice pb nb cb]).run Tryz.prog w1 = .ok m w2 ∧ w2.heap[g]? = some (.cells (bys (sect64 b)).toArray 5 (0, 0)) ∧ Mod nil w w2 ∧ w2.heap.size = g + 1 := by
  rcases Nat.eq_zero_or_pos nb with h0 | h0
  ·refine ⟨_, _, run_copy_none w1 40 40 3 5 _ _ 64 64 nb cb Tryz.underlying40 hsz (by rw [h0]; rfl), ?_, hm1, hs1⟩
   rw [hb1]
   have : b = [] := List.eq_nil_of_length_eq_zero (by omega)
   subst this
   rfl
  ·obtain ⟨p0, c0, he, hc⟩ := hrow1
   simp only [Value.slice.injEq] at he
   obtain ⟨rfl, -, -⟩ := he
   obtain ⟨gb, ob, rfl, -⟩ := hc 0 (by rw [bys_length]; omega)
   have hcl : (bys (b.take 64)).length = Nat.min nb 64 := by rw [bys_length, List.length_take, hbl]; exact Nat.min_comm _ _
   have hcp := run_copy_row (P := Tryz.prog) w1 40 40 3 5 g 0 64 64 ⟨gb, ob, none⟩ nb cb (List.replicate 64 (Value.int .u8 0)).toArray 5 (bys (b.take 64)) Tryz.underlying40 hsz hb1 hcl (fun i v hv => by
    have hi : i < (bys (b.take 64)).length := by
     rcases Nat.lt_or_ge i (bys (b.take 64)).length with h | h
     ·exact h
     ·rw [List.getElem?_eq_none h] at hv; cases hv
    rw [bys_length, List.length_take] at hi
    obtain ⟨gb', ob', e1, -, -, e2⟩ := hc i (by rw [bys_length]; omega)
    simp only [Option.some.injEq, Addr.mk.injEq] at e1
    obtain ⟨rfl, rfl, -⟩ := e1
    have e : (⟨gb, ob, none⟩ : Addr).add i = ⟨gb, ob + i, none⟩ := by unfold Addr.add; split <;> simp_all
    rw [e, e2, ← hv]
    simp [bys, List.getElem?_take, show i < 64 by omega, show i < b.length by omega]) (by rw [hcl]; simp; exact Nat.min_le_right _ _) (bys_one _)
   refine ⟨_, _, hcp, ?_, ?_, ?_⟩
   ·rw [setRow_heap w1 g _ _ _ _ hb1]
    congr 2
    simp only [List.take_zero, List.nil_append, Nat.zero_add]
    rw [hcl]
    unfold sect64
    rw [bys_append, hbl]
    congr 2
    simp only [List.drop_replicate, bys, List.map_replicate]
    rw [show Nat.min nb 64 = min 64 nb from Nat.min_comm _ _]
    rfl
   ·exact hm1.rowSet g _ (fun h => by rw [hg] at h; omega)
   ·rw [size_setRow, hs1]
 obtain ⟨mm, w2, hcopy, hb2, hm2, hs2⟩ := hcopy
 have HE := Lib.hid (HPOST.out _ w2 ⟨rfl, by rw [hg]; exact (IsRow.ofBlock (b := g) (S := (· = g)) hb2 rfl 64 64 (by rw [bys_length, sect64_length])), hm2, by rw [hs2, hg]⟩)
 rw [hg] at HE
 clear hrow hrow1 hbl hi0 hz0 hz1 hz2 hw1 hm1 hb1 hs1 hsz hb2 hm2 hs2 hg
 go_enter Tryz.func18, Tryz.ntmps18
 go_wp2_with fail
 exact HE.out
theorem IsDisk.footLt {C : Nat → Prop} {w : World} {d bl bm : Nat} {D : DS} (h : IsDisk w d bl bm C D) : d < w.heap.size ∧ bl < w.heap.size ∧ bm < w.heap.size := by
 obtain ⟨vl, h1, _⟩ := h.lasts
 obtain ⟨vm, h4, _⟩ := h.pend
 exact ⟨heap_lt h.obj, heap_lt h1, h4.lt⟩
theorem crash_lasts (d : DS) (keep : List Bool) : (d.crash keep).lasts.length = d.lasts.length := DS.layTo_length _ _ _
set_option maxRecDepth 100000 in
set_option maxHeartbeats 8000000 in
theorem lawYPlays (ps : Option Addr) (len cs n : Nat) (l0 : List OpY) (w : World) (hl : IsOps (· < w.heap.size) w (.slice ps len cs) l0) (hlm : len ≤ 9223372036854775807)
  (hbo : ∀ o ∈ l0, o.e.b.length ≤ maxLen ∧ o.keep.length ≤ maxLen ∧ -9223372036854775808 ≤ o.n ∧ o.n ≤ 9223372036854775807) (h1 : 1 ≤ n) (h2 : n ≤ 300) (hf : fewY l0 = true) :
  Calls Tryz.prog 3 #[.int .i64 (n : Nat), .slice ps len cs] w fun e w' => e = .returned (.bool true) ∧ Mod nil w w' := by
 refine (?_ : ∀ Post : Ending → World → Prop, Hid (∀ e w', (e = .returned (.bool true) ∧ Mod nil w w') → Post e w') → Calls Tryz.prog 3 #[.int .i64 (n : Nat), .slice ps len cs] w Post) _ (Lib.hid (fun _ _ h => h))
 intro Post HPOST
 have hll : l0.length = len := by obtain ⟨_, _, h, _⟩ := hl; simp only [Value.slice.injEq] at h; exact h.2.1.symm
 have HL := Lib.hid hl
 have HFEW : Hid (∀ W, Mod nil w W → Calls Tryz.prog 5 #[.slice ps len cs] W fun e w' => e = .returned (.bool true) ∧ Mod nil W w') := Lib.hid (fun W m => by
  obtain ⟨p', c', h1, h2⟩ := HL.out.modNil m
  have h := yFew ps len cs l0 W ⟨p', c', h1, fun i hi => by obtain ⟨b, off, pb, nb, cb, pk, nk, ck, a, hb, c, k0, k1, k2, k3, k4, r1, r2⟩ := h2 i hi; exact ⟨b, off, pb, nb, cb, pk, nk, ck, a, c, c, k0, k1, k2, k3, k4, r1.mono (fun k hk _ => hk), r2.mono (fun k hk _ => hk)⟩⟩ hlm (fun o ho => ⟨(hbo o ho).1, (hbo o ho).2.1⟩)
  rw [hf] at h
  exact h)
 have HLL := Lib.hid hll
 have HBO := Lib.hid hbo
 have t1 : ¬ ((n : Int) < 1) := by omega
 have t2 : ¬ (300 < (n : Int)) := by omega
 clear hl hll hbo hf
 go_enter Tryz.func3, Tryz.ntmps3
 go_wp2_with fail
 refine (yFirst w).mono ?_
 rintro e w1 ⟨rfl, hm1⟩
 have HM1 := Lib.hid hm1
 clear hm1
 go_wp2_with fail
 refine (HFEW.out w1 HM1.out).mono ?_
 rintro e w2 ⟨rfl, hm2⟩
 have HM2 := Lib.hid (HM1.out.thenNil hm2)
 clear hm2 t1 t2
 go_wp2_with fail
 refine (shaNewTable w2).mono ?_
 rintro e w3 ⟨tb, rfl, ht3, htb, hm3⟩
 have HTB3 := Lib.hid ht3
 have HM3 := Lib.hid (HM2.out.thenNil hm3)
 have HS23 : Hid (w.heap.size ≤ tb ∧ tb < w3.heap.size) := Lib.hid ⟨Nat.le_trans HM2.out.size htb, ht3.lt⟩
 clear ht3 htb hm3
 go_wp2_with fail
 refine (diskNew n w3 h1 (by omega)).mono ?_
 rintro e w4 ⟨db, bl, bm, C, rfl, hd4, hfo, hm4⟩
 have HD4 := Lib.hid hd4
 have HFO := Lib.hid hfo
 have HM4 := Lib.hid hm4
 clear hd4 hfo hm4
 go_wp2_with fail
 refine (refNew n w4 h1 (by omega)).mono ?_
 rintro e w5 ⟨xb, rfl, hy5, hm5⟩
 have HY5 := Lib.hid hy5
 have HM5 := Lib.hid hm5
 clear hy5 hm5
 obtain ⟨D0, hD0⟩ : ∃ x, freshDisk n = x := ⟨_, rfl⟩
 rw [hD0] at HD4 HY5
 have HL0 : Hid (D0.lasts.length = n) := Lib.hid (by rw [← hD0]; exact (freshDisk_good n).len)
 clear hD0
 have HDT : Hid (IsDT (fun k => w3.heap.size ≤ k ∧ k < w4.heap.size) w5 tb db bl bm D0) := Lib.hid (IsDT.of (HD4.out.here.mod HM5.out (fun _ _ _ f => f)) ((HTB3.out.mod HM4.out (not_nil _)).mod HM5.out (not_nil _)) (fun k hk _ => by
  have hfk : foot db bl bm C k ∧ k < w4.heap.size := by
   rcases hk with h | h | h | h
   ·exact ⟨.inl h, by rw [h]; exact heap_lt HD4.out.obj⟩
   ·exact ⟨.inr (.inl h), by rw [h]; exact HD4.out.footLt.2.1⟩
   ·exact ⟨.inr (.inr (.inl h)), by rw [h]; exact HD4.out.footLt.2.2⟩
   ·exact ⟨.inr (.inr (.inr h.1)), h.2⟩
  have h3 := HFO.out k hfk.1
  exact ⟨⟨h3, hfk.2⟩, by have := HS23.out; omega⟩))
 have HM05 : Hid (Mod nil w w5) := Lib.hid ((HM3.out.thenNil HM4.out).thenNil HM5.out)
 have HT5 : Hid (PairG (DA tb db bl bm D0) (DB xb D0) tb (fun k => w.heap.size ≤ k) w5) := Lib.hid (by
  have s1 := HM4.out.size; have s2 := HM5.out.size; have s5 := HS23.out; have s6 := HM3.out.size
  exact ⟨_, fun k => w4.heap.size ≤ k ∧ k < w5.heap.size, HDT.out, ⟨_, HY5.out.here, fun k hk => ⟨hk, hk.2⟩⟩, fun k hk => ⟨by omega, by omega⟩, fun k hk => ⟨by omega, hk.2, by omega, by omega⟩, by omega, by omega⟩)
 have HLN0 : Hid (D0.lasts.length ≤ 8192) := Lib.hid (by rw [HL0.out]; omega)
 clear HDT HY5 HD4 HFO HTB3
 go_wp2_with fail
 refine (pyOpen HT5.out HLN0.out).mono ?_
 rintro e w6 ⟨v1, v2, rfl, hh6, hm6⟩
 have HH6 := Lib.hid hh6
 have HM6 : Hid (Mod nil w w6) := Lib.hid (HM05.out.new hm6 (fun _ h => h))
 clear hh6 hm6
 go_wp2_with fail
 refine (pxOpen HH6.out HLN0.out).mono ?_
 rintro e w7 ⟨o0, rfl, rfl, rfl, hok7, ht7, hm7⟩
 have HOK7 := Lib.hid hok7
 have HT7 : Hid (PairG (LA tb db bl bm o0 D0) (RB xb o0 D0) tb (fun k => w.heap.size ≤ k ∧ k < w7.heap.size) w7) := Lib.hid (ht7.mono (fun k hk h => ⟨by have := HM05.out.size; have := HM6.out.size; rcases h with (h | h) | h; exact h; omega; omega, hk⟩))
 have HM7 : Hid (Mod nil w w7) := Lib.hid (HM6.out.new hm7 (fun k h => by have := HM05.out.size; rcases h with h | h; exact h; omega))
 clear hok7 ht7 hm7 HH6 HT5
 go_wp2_with fail
 go_loopw [10, 11, 12, 13, 14] (fun v10 v11 v12 v13 v14 wr => ∃ (i : Nat) (o : OY) (D : DS), i ≤ len ∧ v14 = .int .i64 i ∧ v10 = o.y ∧ v11 = o.e ∧ v12 = o.z ∧ v13 = o.e ∧ Hid (o.Ok D) ∧ Hid (PairG (LA tb db bl bm o D) (RB xb o D) tb (fun k => w.heap.size ≤ k ∧ k < wr.heap.size) wr) ∧ Hid (D.lasts.length = n) ∧ Hid (Mod nil w wr)) (fun _ _ _ _ v _ => len - (intOf v).toNat)
 case atStart => exact ⟨0, o0, D0, by omega, rfl, rfl, rfl, rfl, rfl, HOK7, HT7, HL0, HM7⟩
 case round =>
  clear HT7 HM7 HL0 HOK7 HLN0
  obtain ⟨i, o, D, hi, rfl, rfl, rfl, rfl, rfl, HOK, HW, HLN, HMW⟩ := hrel
  by_cases hlt : i < len
  ·have hil : i < l0.length := by rw [HLL.out]; exact hlt
   obtain ⟨_, _, he, hcc⟩ := HL.out
   simp only [Value.slice.injEq] at he
   obtain ⟨rfl, -, -⟩ := he
   obtain ⟨bo, oo, pb, nb, cb, pk, nk, ck, rfl, hbB, hbw, j0, j1, j2, j3, j4, r1, r2⟩ := hcc i hil
   have hbo := HBO.out _ (List.getElem_mem hil)
   obtain ⟨op, ho⟩ : ∃ o, l0[i] = o := ⟨_, rfl⟩
   rw [ho] at j0 j1 j2 r1 r2 hbo
   obtain ⟨kind, fn, ⟨kz, eb⟩, keep⟩ := op
   simp only at j0 j1 j2 r1 r2 hbo
   have hkl : keep.length ≤ 9223372036854775807 := by have := hbo.2.1; unfold maxLen at this; omega
   have hfn2 : fn ≤ 9223372036854775807 := hbo.2.2.2
   have hnbm : nb ≤ maxLen := by
    obtain ⟨_, _, h, _⟩ := r1
    simp only [Value.slice.injEq, bys_length] at h
    rw [h.2.1]; exact hbo.1
   have HRE : Hid (∀ W, Mod nil w W → IsRow (· < w.heap.size) W (.slice pb nb cb) (bys eb)) := Lib.hid (fun W mm => r1.modNil mm)
   have HRK : Hid (∀ W, Mod nil w W → IsRow (· < w.heap.size) W (.slice pk nk ck) (keep.map Value.bool)) := Lib.hid (fun W mm => r2.modNil mm)
   go_upto_region 15 with (fail)
   go_cut [10, 11, 12, 13, 77] from 227 (fun s10 s11 s12 s13 s77 wc => wr = wc ∧ s10 = o.y ∧ s11 = o.e ∧ s12 = o.z ∧ s13 = o.e ∧ s77 = .bool false)
   case first =>
    clear j0 j1 j2 j3 j4
    rcases o with _ | ⟨yb, zb, s, l⟩
    ·simp only [OY.none_y, OY.none_z, OY.none_e, OY.some_y, OY.some_z, OY.some_e]
     go_wp2_with fail
     go_meet
     exact ⟨rfl, rfl, rfl, rfl, rfl, rfl⟩
    ·simp only [OY.none_y, OY.none_z, OY.none_e, OY.some_y, OY.some_z, OY.some_e]
     go_wp2_with fail
     go_meet
     exact ⟨rfl, rfl, rfl, rfl, rfl, rfl⟩
   case rest =>
    obtain ⟨rfl, rfl, rfl, rfl, rfl, rfl⟩ := hcut
    have k0 := cell_kept j0 HMW.out hbw (not_nil _)
    have k1 := cell_kept j1 HMW.out hbw (not_nil _)
    have k2 := cell_kept j2 HMW.out hbw (not_nil _)
    have k3 := cell_kept j3 HMW.out hbw (not_nil _)
    have k4 := cell_kept j4 HMW.out hbw (not_nil _)
    obtain ⟨X, hX⟩ : ∃ X, wr.heap.size = X := ⟨_, rfl⟩
    have HX := Lib.hid hX
    clear j0 j1 j2 j3 j4 r1 r2 hcc ho hbB hX hbo
    go_upto_region 18 with (fail)
    (try rw [HX.out])
    generalize hwx : World.alloc wr _ = wx
    have hxx : wx.heap[X]? = some (.cells #[.int .i64 kind, .int .i64 fn, .int .i64 kz, .slice pb nb cb, .slice pk nk ck] 45 (0, 0)) := by rw [← hwx, ← HX.out]; exact heap_alloc_new _ _
    have hmx : Mod nil wr wx := by rw [← hwx]; exact (Mod.refl _ _).alloc _
    have HT0 : Hid (PairG (LA tb db bl bm o D) (RB xb o D) tb (fun k => w.heap.size ≤ k ∧ k ≠ X) wx) := Lib.hid (lrNil (HW.out.mono (H := (fun k => w.heap.size ≤ k ∧ k ≠ X)) (fun k hk h => ⟨h.1, by have := HX.out; omega⟩)) hmx)
    have HMX := Lib.hid (HMW.out.thenNil hmx)
    have hsx : wx.heap.size = X + 1 := by rw [← hwx, World.size_alloc, HX.out]
    have HXS : Hid (X < wx.heap.size) := Lib.hid (by omega)
    have u0 := cell_of hxx 0
    simp only [List.getElem?_toArray, List.getElem?_cons_zero, List.getElem?_cons_succ] at u0
    have HXw : Hid (w.heap.size ≤ X) := Lib.hid (by rw [← HX.out]; exact HMW.out.size)
    have HKX : Hid (∀ W, Mod (fun k => w.heap.size ≤ k ∧ k ≠ X) wx W → (fun w' => w'.cell? ⟨X, 1, none⟩ = some (.int .i64 fn) ∧ w'.cell? ⟨X, 2, none⟩ = some (.int .i64 kz) ∧ w'.cell? ⟨X, 3, none⟩ = some (.slice pb nb cb) ∧ w'.cell? ⟨X, 4, none⟩ = some (.slice pk nk ck)) W) := Lib.hid (fun W mm => by
     have e := (mm.block X (heap_lt hxx) (fun h => h.2 rfl)).trans hxx
     exact ⟨cell_of e 1, cell_of e 2, cell_of e 3, cell_of e 4⟩)
    have HM0 : Hid (Mod (fun k => w.heap.size ≤ k ∧ k ≠ X) wx wx) := Lib.hid (Mod.refl _ _)
    clear hwx hxx hmx hsx k0 k1 k2 k3 k4 HW HMW
    go_upto_block 2 with (fail)
    go_cut [10, 11, 12, 13] from 227 (fun s10 s11 s12 s13 wc => ∃ (o' : OY) (D' : DS), s10 = o'.y ∧ s11 = o'.e ∧ s12 = o'.z ∧ s13 = o'.e ∧ Hid (o'.Ok D') ∧ Hid (PairG (LA tb db bl bm o' D') (RB xb o' D') tb (fun k => w.heap.size ≤ k ∧ k < wc.heap.size) wc) ∧ Hid (D'.lasts.length = n) ∧ Hid (Mod nil w wc))
    case first =>
     rcases (show kind = 0 ∨ kind = 1 ∨ kind = 2 ∨ kind = 3 ∨ (kind ≠ 0 ∧ kind ≠ 1 ∧ kind ≠ 2 ∧ kind ≠ 3) by omega) with rfl | rfl | rfl | rfl | ⟨q0, q1, q2, q3⟩
     ·rcases o with _ | ⟨yb, zb, s, l⟩
      ·simp only [OY.none_y, OY.none_z, OY.none_e, OY.some_y, OY.some_z, OY.some_e]
       go_upto_region 20 with (fail)
       refine wp_region_held_drew (S := (fun w' => w'.cell? ⟨X, 1, none⟩ = some (.int .i64 fn) ∧ w'.cell? ⟨X, 2, none⟩ = some (.int .i64 kz) ∧ w'.cell? ⟨X, 3, none⟩ = some (.slice pb nb cb) ∧ w'.cell? ⟨X, 4, none⟩ = some (.slice pk nk ck))) (by kernel_rfl) (HKX.out _ (by first | exact HM2.out | exact HM2.out.drew | exact HM1.out | exact HM1.out.drew | exact HM0.out | exact HM0.out.drew)) (fun hHeld => ?_)
       refine tH 0 ?_
       (try simp only [Act.put, pT])
       refine tH 1 ?_
       (try simp only [Act.put, pT])
       refine tH 2 ?_
       (try simp only [Act.put, pT])
       refine wpAnyH_take (i := 3) (v := undef) rfl (by kernel_rfl) (by kernel_rfl) (by kernel_rfl) (fun _ _ _ h => h) (Or.inr ⟨by kernel_rfl, rfl⟩) (by assumption) ?_
       (try simp only [Act.put, pT])
       refine wpAnyH_take (i := 4) (v := undef) rfl (by kernel_rfl) (by kernel_rfl) (by kernel_rfl) (fun _ _ _ h => h) (Or.inr ⟨by kernel_rfl, rfl⟩) (by assumption) ?_
       (try simp only [Act.put, pT])
       refine wpAnyH_take (i := 5) (v := undef) rfl (by kernel_rfl) (by kernel_rfl) (by kernel_rfl) (fun _ _ _ h => h) (Or.inr ⟨by kernel_rfl, rfl⟩) (by assumption) ?_
       (try simp only [Act.put, pT])
       refine wpAnyH_take (i := 6) (v := undef) rfl (by kernel_rfl) (by kernel_rfl) (by kernel_rfl) (fun _ _ _ h => h) (Or.inr ⟨by kernel_rfl, rfl⟩) (by assumption) ?_
       (try simp only [Act.put, pT])
       refine wpAnyH_take (i := 7) (v := undef) rfl (by kernel_rfl) (by kernel_rfl) (by kernel_rfl) (fun _ _ _ h => h) (Or.inr ⟨by kernel_rfl, rfl⟩) (by assumption) ?_
       (try simp only [Act.put, pT])
       refine wpAnyH_take (i := 8) (v := undef) rfl (by kernel_rfl) (by kernel_rfl) (by kernel_rfl) (fun _ _ _ h => h) (Or.inr ⟨by kernel_rfl, rfl⟩) (by assumption) ?_
       (try simp only [Act.put, pT])
       refine wpAnyH_take (i := 9) (v := undef) rfl (by kernel_rfl) (by kernel_rfl) (by kernel_rfl) (fun _ _ _ h => h) (Or.inr ⟨by kernel_rfl, rfl⟩) (by assumption) ?_
       (try simp only [Act.put, pT])
       refine wpAnyH_take (i := 10) (v := undef) rfl (by kernel_rfl) (by kernel_rfl) (by kernel_rfl) (fun _ _ _ h => h) (Or.inr ⟨by kernel_rfl, rfl⟩) (by assumption) ?_
       (try simp only [Act.put, pT])
       refine wpAnyH_take (i := 11) (v := undef) rfl (by kernel_rfl) (by kernel_rfl) (by kernel_rfl) (fun _ _ _ h => h) (Or.inr ⟨by kernel_rfl, rfl⟩) (by assumption) ?_
       (try simp only [Act.put, pT])
       refine tH 12 ?_
       (try simp only [Act.put, pT])
       refine wpAnyH_done (by kernel_rfl) ?_ _
       have HT1 : Hid (PairG (LA tb db bl bm Option.none D) (RB xb Option.none D) tb (fun k => w.heap.size ≤ k ∧ k ≠ X) wx.drew) := Lib.hid (lrNil HT0.out (Mod.refl nil wx).drew)
       have HM1 : Hid (Mod (fun k => w.heap.size ≤ k ∧ k ≠ X) wx wx.drew) := Lib.hid HM0.out.drew
       go_wp2_with fail
       go_meet
       exact ⟨none, D, rfl, rfl, rfl, rfl, HOK, Lib.hid (HT1.out.mono (fun k hk h => ⟨h.1, hk⟩)), Lib.hid HLN.out, Lib.hid (HMX.out.new HM1.out (fun k h => h.1))⟩
      ·simp only [OY.none_y, OY.none_z, OY.none_e, OY.some_y, OY.some_z, OY.some_e]
       have HOK2 : Hid (YS.Ok ⟨s, D, l⟩) := Lib.hid (HOK.out yb zb s l rfl)
       have HLN2 : Hid (D.lasts.length ≤ 8192) := Lib.hid (by have := HLN.out; omega)
       have HT0y : Hid (PairG (YA tb db bl bm yb ⟨s, D, l⟩) (YB xb zb ⟨s, D, l⟩) tb (fun k => w.heap.size ≤ k ∧ k ≠ X) wx) := HT0
       clear HT0
       have HT0 := HT0y
       clear HT0y
       go_upto_region 20 with (fail)
       refine wp_region_held_drew (S := (fun w' => w'.cell? ⟨X, 1, none⟩ = some (.int .i64 fn) ∧ w'.cell? ⟨X, 2, none⟩ = some (.int .i64 kz) ∧ w'.cell? ⟨X, 3, none⟩ = some (.slice pb nb cb) ∧ w'.cell? ⟨X, 4, none⟩ = some (.slice pk nk ck))) (by kernel_rfl) (HKX.out _ (by first | exact HM2.out | exact HM2.out.drew | exact HM1.out | exact HM1.out.drew | exact HM0.out | exact HM0.out.drew)) (fun hHeld => ?_)
       refine tH 0 ?_
       (try simp only [Act.put, pT])
       refine tH 1 ?_
       (try simp only [Act.put, pT])
       refine tH 2 ?_
       (try simp only [Act.put, pT])
       refine tH 3 ?_
       (try simp only [Act.put, pT])
       refine tH 4 ?_
       (try simp only [Act.put, pT])
       refine tH 5 ?_
       (try simp only [Act.put, pT])
       refine tH 7 ?_
       (try simp only [Act.put, pT])
       refine tH 8 ?_
       (try simp only [Act.put, pT])
       refine tH 9 ?_
       (try simp only [Act.put, pT])
       refine rH 6 (fun K hK => ?_)
       go_simp
       (first | refine (pyAdd (YB.keeps _ _ _) HT0.out HOK2.out HLN2.out kz pb nb cb eb (HRE.out _ (by first | exact (HMX.out.new HM0.out (fun k h => h.1)) | exact (HMX.out.new HM0.out (fun k h => h.1)).drew)) (fun k (hk : k < w.heap.size) => ⟨fun hg => absurd hg.1 (Nat.not_le.2 hk), Nat.lt_of_lt_of_le hk (HMX.out.new HM0.out (fun k h => h.1)).size⟩) hnbm).mono ?_ | refine (pyAdd (YB.keeps _ _ _) (PairG.modNil (YA.keeps _ _ _ _ _ _) (YB.keeps _ _ _) HT0.out (Mod.refl nil _).drew) HOK2.out HLN2.out kz pb nb cb eb (HRE.out _ (by first | exact (HMX.out.new HM0.out (fun k h => h.1)) | exact (HMX.out.new HM0.out (fun k h => h.1)).drew)) (fun k (hk : k < w.heap.size) => ⟨fun hg => absurd hg.1 (Nat.not_le.2 hk), Nat.lt_of_lt_of_le hk (HMX.out.new HM0.out (fun k h => h.1)).size⟩) hnbm).mono ?_)
       rintro e wz1 ⟨rfl, htw, hmw⟩
       have HM1 : Hid (Mod (fun k => w.heap.size ≤ k ∧ k ≠ X) wx wz1) := Lib.hid (by first | exact HM0.out.trans hmw (fun _ _ h => h) | exact HM0.out.drew.trans hmw (fun _ _ h => h))
       have HT1 := Lib.hid (htw.mono (H := (fun k => w.heap.size ≤ k ∧ k ≠ X)) (fun k _ h => by
        rcases h with h | h
        ·exact h
        ·have hx : X < k := Nat.lt_of_lt_of_le HXS.out (Nat.le_trans HM0.out.size h)
         exact ⟨Nat.le_of_lt (Nat.lt_of_le_of_lt HXw.out hx), fun e => by rw [e] at hx; exact Nat.lt_irrefl _ hx⟩))
       clear htw hmw
       refine hK.out _ _ (HKX.out _ (by first | exact HM2.out | exact HM2.out.drew | exact HM1.out | exact HM1.out.drew | exact HM0.out | exact HM0.out.drew)) (fun hHeld => ?_)
       clear hK K
       (try simp only [Act.put, pT])
       refine rH 10 (fun K hK => ?_)
       go_simp
       (first | refine (pxAdd (YA.keeps _ _ _ _ _ _) HT1.out HOK2.out HLN2.out kz pb nb cb eb (HRE.out _ (by first | exact (HMX.out.new HM1.out (fun k h => h.1)) | exact (HMX.out.new HM1.out (fun k h => h.1)).drew)) (fun k (hk : k < w.heap.size) => ⟨fun hg => absurd hg.1 (Nat.not_le.2 hk), Nat.lt_of_lt_of_le hk (HMX.out.new HM1.out (fun k h => h.1)).size⟩)).mono ?_ | refine (pxAdd (YA.keeps _ _ _ _ _ _) (PairG.modNil (YA.keeps _ _ _ _ _ _) (YB.keeps _ _ _) HT1.out (Mod.refl nil _).drew) HOK2.out HLN2.out kz pb nb cb eb (HRE.out _ (by first | exact (HMX.out.new HM1.out (fun k h => h.1)) | exact (HMX.out.new HM1.out (fun k h => h.1)).drew)) (fun k (hk : k < w.heap.size) => ⟨fun hg => absurd hg.1 (Nat.not_le.2 hk), Nat.lt_of_lt_of_le hk (HMX.out.new HM1.out (fun k h => h.1)).size⟩)).mono ?_)
       rintro e wz2 ⟨rfl, htw, hmw⟩
       have HM2 : Hid (Mod (fun k => w.heap.size ≤ k ∧ k ≠ X) wx wz2) := Lib.hid (by first | exact HM1.out.trans hmw (fun _ _ h => h) | exact HM1.out.drew.trans hmw (fun _ _ h => h))
       have HT2 := Lib.hid (htw.mono (H := (fun k => w.heap.size ≤ k ∧ k ≠ X)) (fun k _ h => by
        rcases h with h | h
        ·exact h
        ·have hx : X < k := Nat.lt_of_lt_of_le HXS.out (Nat.le_trans HM1.out.size h)
         exact ⟨Nat.le_of_lt (Nat.lt_of_le_of_lt HXw.out hx), fun e => by rw [e] at hx; exact Nat.lt_irrefl _ hx⟩))
       clear htw hmw
       refine hK.out _ _ (HKX.out _ (by first | exact HM2.out | exact HM2.out.drew | exact HM1.out | exact HM1.out.drew | exact HM0.out | exact HM0.out.drew)) (fun hHeld => ?_)
       clear hK K
       (try simp only [Act.put, pT])
       refine tH 11 ?_
       (try simp only [Act.put, pT])
       refine tH 12 ?_
       (try simp only [Act.put, pT])
       refine wpAnyH_done (by kernel_rfl) ?_ _
       obtain ⟨y2, hy2⟩ : ∃ y2, (YS.add ⟨s, D, l⟩ ⟨kz, eb⟩).1 = y2 := ⟨_, rfl⟩
       have HOK3 : Hid (YS.Ok y2) := Lib.hid (by rw [← hy2]; exact YS.add_ok HOK2.out _)
       have HLN3 : Hid (y2.d.lasts.length = n) := Lib.hid (by rw [← hy2, YS.add_len]; exact HLN.out)
       rw [hy2] at HT2
       clear hy2
       go_wp2_with fail
       go_meet
       exact ⟨some (yb, zb, y2.s, y2.l), y2.d, rfl, rfl, rfl, rfl, Lib.hid (fun _ _ _ _ he => by simp only [Option.some.injEq, Prod.mk.injEq] at he; obtain ⟨-, -, rfl, rfl⟩ := he; exact HOK3.out), Lib.hid (HT2.out.mono (fun k hk h => ⟨h.1, hk⟩)), Lib.hid HLN3.out, Lib.hid (HMX.out.new HM2.out (fun k h => h.1))⟩
     ·have HT0d : Hid (PairG (DA tb db bl bm D) (DB xb D) tb (fun k => w.heap.size ≤ k ∧ k ≠ X) wx) := Lib.hid (HT0.out.imp (fun _ h => LA.disk h) (fun _ h => RB.disk h))
      clear HT0
      have HT0 := HT0d
      clear HT0d
      have uo := (HKX.out _ HM0.out)
      obtain ⟨uo1, uo2, uo3, uo4⟩ := uo
      go_wp2_with fail
      refine (pdCrash (DB.keeps _ _) HT0.out (.slice pk nk ck) keep (HRK.out _ (by first | exact (HMX.out.new HM0.out (fun k h => h.1)) | exact (HMX.out.new HM0.out (fun k h => h.1)).drew)) (fun k (hk : k < w.heap.size) => ⟨fun hg => absurd hg.1 (Nat.not_le.2 hk), Nat.lt_of_lt_of_le hk (HMX.out.new HM0.out (fun k h => h.1)).size⟩) hkl).mono ?_
      rintro e wz1 ⟨rfl, htw, hmw⟩
      have HM1 : Hid (Mod (fun k => w.heap.size ≤ k ∧ k ≠ X) wx wz1) := Lib.hid (by first | exact HM0.out.trans hmw (fun _ _ h => h) | exact HM0.out.drew.trans hmw (fun _ _ h => h))
      have HT1 := Lib.hid (htw.mono (H := (fun k => w.heap.size ≤ k ∧ k ≠ X)) (fun k _ h => by
       rcases h with h | h
       ·exact h
       ·have hx : X < k := Nat.lt_of_lt_of_le HXS.out (Nat.le_trans HM0.out.size h)
        exact ⟨Nat.le_of_lt (Nat.lt_of_le_of_lt HXw.out hx), fun e => by rw [e] at hx; exact Nat.lt_irrefl _ hx⟩))
      clear htw hmw
      clear uo1 uo2 uo3 uo4
      have uo := (HKX.out _ HM1.out)
      obtain ⟨uo1, uo2, uo3, uo4⟩ := uo
      go_wp2_with fail
      refine (rdCrash (DA.keeps _ _ _ _ _) HT1.out (.slice pk nk ck) keep (HRK.out _ (by first | exact (HMX.out.new HM1.out (fun k h => h.1)) | exact (HMX.out.new HM1.out (fun k h => h.1)).drew)) (fun k (hk : k < w.heap.size) => ⟨fun hg => absurd hg.1 (Nat.not_le.2 hk), Nat.lt_of_lt_of_le hk (HMX.out.new HM1.out (fun k h => h.1)).size⟩) hkl).mono ?_
      rintro e wz2 ⟨rfl, htw, hmw⟩
      have HM2 : Hid (Mod (fun k => w.heap.size ≤ k ∧ k ≠ X) wx wz2) := Lib.hid (by first | exact HM1.out.trans hmw (fun _ _ h => h) | exact HM1.out.drew.trans hmw (fun _ _ h => h))
      have HT2 := Lib.hid (htw.mono (H := (fun k => w.heap.size ≤ k ∧ k ≠ X)) (fun k _ h => by
       rcases h with h | h
       ·exact h
       ·have hx : X < k := Nat.lt_of_lt_of_le HXS.out (Nat.le_trans HM1.out.size h)
        exact ⟨Nat.le_of_lt (Nat.lt_of_le_of_lt HXw.out hx), fun e => by rw [e] at hx; exact Nat.lt_irrefl _ hx⟩))
      clear htw hmw
      clear uo1 uo2 uo3 uo4
      go_wp2_with fail
      refine (pyOpen HT2.out (by rw [crash_lasts]; have := HLN.out; omega)).mono ?_
      rintro e wz3 ⟨v1, v2, rfl, htw, hmw⟩
      have HM3 : Hid (Mod (fun k => w.heap.size ≤ k ∧ k ≠ X) wx wz3) := Lib.hid (by first | exact HM2.out.trans hmw (fun _ _ h => h) | exact HM2.out.drew.trans hmw (fun _ _ h => h))
      have HT3 := Lib.hid (htw.mono (H := (fun k => w.heap.size ≤ k ∧ k ≠ X)) (fun k _ h => by
       rcases h with h | h
       ·exact h
       ·have hx : X < k := Nat.lt_of_lt_of_le HXS.out (Nat.le_trans HM2.out.size h)
        exact ⟨Nat.le_of_lt (Nat.lt_of_le_of_lt HXw.out hx), fun e => by rw [e] at hx; exact Nat.lt_irrefl _ hx⟩))
      clear htw hmw
      go_wp2_with fail
      refine (pxOpen HT3.out (by rw [crash_lasts]; have := HLN.out; omega)).mono ?_
      rintro e wz4 ⟨o', rfl, rfl, rfl, hok4, htw, hmw⟩
      have HM4 : Hid (Mod (fun k => w.heap.size ≤ k ∧ k ≠ X) wx wz4) := Lib.hid (by first | exact HM3.out.trans hmw (fun _ _ h => h) | exact HM3.out.drew.trans hmw (fun _ _ h => h))
      have HT4 := Lib.hid (htw.mono (H := (fun k => w.heap.size ≤ k ∧ k ≠ X)) (fun k _ h => by
       rcases h with h | h
       ·exact h
       ·have hx : X < k := Nat.lt_of_lt_of_le HXS.out (Nat.le_trans HM3.out.size h)
        exact ⟨Nat.le_of_lt (Nat.lt_of_le_of_lt HXw.out hx), fun e => by rw [e] at hx; exact Nat.lt_irrefl _ hx⟩))
      clear htw hmw
      have HOK4 := Lib.hid hok4
      clear hok4
      go_wp2_with fail
      go_meet
      exact ⟨o', D.crash keep, rfl, rfl, rfl, rfl, HOK4, Lib.hid (HT4.out.mono (fun k hk h => ⟨h.1, hk⟩)), Lib.hid (by rw [crash_lasts]; exact HLN.out), Lib.hid (HMX.out.new HM4.out (fun k h => h.1))⟩
     ·have uo := (HKX.out _ HM0.out)
      obtain ⟨uo1, uo2, uo3, uo4⟩ := uo
      go_wp2_with fail
      refine (lFuse (RB.keeps _ _ _) HT0.out fn hfn2).mono ?_
      rintro e wz1 ⟨rfl, htw, hmw⟩
      have HM1 : Hid (Mod (fun k => w.heap.size ≤ k ∧ k ≠ X) wx wz1) := Lib.hid (by first | exact HM0.out.trans hmw (fun _ _ h => h) | exact HM0.out.drew.trans hmw (fun _ _ h => h))
      have HT1 := Lib.hid (htw.mono (H := (fun k => w.heap.size ≤ k ∧ k ≠ X)) (fun k _ h => by
       rcases h with h | h
       ·exact h
       ·have hx : X < k := Nat.lt_of_lt_of_le HXS.out (Nat.le_trans HM0.out.size h)
        exact ⟨Nat.le_of_lt (Nat.lt_of_le_of_lt HXw.out hx), fun e => by rw [e] at hx; exact Nat.lt_irrefl _ hx⟩))
      clear htw hmw
      clear uo1 uo2 uo3 uo4
      have uo := (HKX.out _ HM1.out)
      obtain ⟨uo1, uo2, uo3, uo4⟩ := uo
      go_wp2_with fail
      refine (rFuse (LA.keeps _ _ _ _ _ _) HT1.out fn hfn2).mono ?_
      rintro e wz2 ⟨rfl, htw, hmw⟩
      have HM2 : Hid (Mod (fun k => w.heap.size ≤ k ∧ k ≠ X) wx wz2) := Lib.hid (by first | exact HM1.out.trans hmw (fun _ _ h => h) | exact HM1.out.drew.trans hmw (fun _ _ h => h))
      have HT2 := Lib.hid (htw.mono (H := (fun k => w.heap.size ≤ k ∧ k ≠ X)) (fun k _ h => by
       rcases h with h | h
       ·exact h
       ·have hx : X < k := Nat.lt_of_lt_of_le HXS.out (Nat.le_trans HM1.out.size h)
        exact ⟨Nat.le_of_lt (Nat.lt_of_le_of_lt HXw.out hx), fun e => by rw [e] at hx; exact Nat.lt_irrefl _ hx⟩))
      clear htw hmw
      clear uo1 uo2 uo3 uo4
      go_wp2_with fail
      go_meet
      exact ⟨o, { D with fuse := max fn (-1) }, rfl, rfl, rfl, rfl, (Lib.hid (fun yb zb s l he => by have h := HOK.out yb zb s l he; exact ⟨h.1, h.2⟩)), Lib.hid (HT2.out.mono (fun k hk h => ⟨h.1, hk⟩)), Lib.hid HLN.out, Lib.hid (HMX.out.new HM2.out (fun k h => h.1))⟩
     ·go_upto_region 31 with (fail)
      refine wp_region_held_drew (S := (fun w' => w'.cell? ⟨X, 1, none⟩ = some (.int .i64 fn) ∧ w'.cell? ⟨X, 2, none⟩ = some (.int .i64 kz) ∧ w'.cell? ⟨X, 3, none⟩ = some (.slice pb nb cb) ∧ w'.cell? ⟨X, 4, none⟩ = some (.slice pk nk ck))) (by kernel_rfl) (HKX.out _ (by first | exact HM2.out | exact HM1s.out | exact HM1.out | exact HM0s.out | exact HM0.out | exact HM0.out.drew)) (fun hHeld => ?_)
      refine tH 0 ?_
      (try simp only [Act.put, pT])
      refine tH 1 ?_
      (try simp only [Act.put, pT])
      refine tH 2 ?_
      (try simp only [Act.put, pT])
      refine tH 3 ?_
      (try simp only [Act.put, pT])
      refine tH 4 ?_
      (try simp only [Act.put, pT])
      refine tH 5 ?_
      (try simp only [Act.put, pT])
      refine tH 8 ?_
      (try simp only [Act.put, pT])
      refine tH 9 ?_
      (try simp only [Act.put, pT])
      refine tH 10 ?_
      (try simp only [Act.put, pT])
      refine tH 11 ?_
      (try simp only [Act.put, pT])
      refine tH 12 ?_
      (try simp only [Act.put, pT])
      refine tH 13 ?_
      (try simp only [Act.put, pT])
      refine rH 6 (fun K hK => ?_)
      go_simp
      (first | refine (lawSector _ pb nb cb eb _ (HRE.out _ (HMX.out.new HM0.out (fun k h => h.1)))).mono ?_ | refine (lawSector _ pb nb cb eb _ (HRE.out _ (HMX.out.new HM0.out (fun k h => h.1)).drew)).mono ?_)
      rintro e ws0 ⟨rfl, hrw, hms, hsz⟩
      have HM0s : Hid (Mod (fun k => w.heap.size ≤ k ∧ k ≠ X) wx ws0) := Lib.hid (by first | exact HM0.out.trans hms.ofNil (fun _ _ h => h) | exact HM0.out.drew.trans hms.ofNil (fun _ _ h => h))
      have HT0s : Hid (PairG (LA tb db bl bm o D) (RB xb o D) tb (fun k => (fun k => w.heap.size ≤ k ∧ k ≠ X) k ∧ k ≠ wx.heap.size) ws0) := Lib.hid (by first | exact lrNil (HT0.out.mono (H := (fun k => (fun k => w.heap.size ≤ k ∧ k ≠ X) k ∧ k ≠ wx.heap.size)) (fun k hk h => ⟨h, Nat.ne_of_lt hk⟩)) hms | exact lrNil (lrNil (HT0.out.mono (H := (fun k => (fun k => w.heap.size ≤ k ∧ k ≠ X) k ∧ k ≠ wx.heap.size)) (fun k hk h => ⟨h, Nat.ne_of_lt hk⟩)) (Mod.refl nil _).drew) hms)
      have HRW0 := Lib.hid hrw
      have HSZ0 := Lib.hid hsz
      clear hrw hms hsz
      refine hK.out _ _ (HKX.out _ (by first | exact HM2.out | exact HM1s.out | exact HM1.out | exact HM0s.out | exact HM0.out | exact HM0.out.drew)) (fun hHeld => ?_)
      clear hK K
      (try simp only [Act.put, pT])
      refine rH 7 (fun K hK => ?_)
      go_simp
      refine (lWrite (RB.keeps _ _ _) HT0s.out fn _ (sect64 eb) HRW0.out (fun k hk => ⟨fun hg => hg.2 hk, by rw [hk]; have h := HSZ0.out; exact Nat.lt_of_lt_of_le (Nat.lt_succ_self _) (Nat.le_of_eq h.symm)⟩) (by rw [sect64_length]; decide)).mono ?_
      rintro e wz1 ⟨rfl, htw, hmw⟩
      have HM1 : Hid (Mod (fun k => w.heap.size ≤ k ∧ k ≠ X) wx wz1) := Lib.hid (HM0s.out.trans hmw (fun _ _ h => h.1))
      have HT1 := Lib.hid (htw.mono (H := (fun k => w.heap.size ≤ k ∧ k ≠ X)) (fun k _ h => by
       rcases h with h | h
       ·exact h.1
       ·have hx : X < k := Nat.lt_of_lt_of_le HXS.out (Nat.le_trans HM0s.out.size h)
        exact ⟨Nat.le_of_lt (Nat.lt_of_le_of_lt HXw.out hx), fun e => by rw [e] at hx; exact Nat.lt_irrefl _ hx⟩))
      clear htw hmw
      refine hK.out _ _ (HKX.out _ (by first | exact HM2.out | exact HM1s.out | exact HM1.out | exact HM0s.out | exact HM0.out | exact HM0.out.drew)) (fun hHeld => ?_)
      clear hK K
      (try simp only [Act.put, pT])
      refine rH 14 (fun K hK => ?_)
      go_simp
      (first | refine (lawSector _ pb nb cb eb _ (HRE.out _ (HMX.out.new HM1.out (fun k h => h.1)))).mono ?_ | refine (lawSector _ pb nb cb eb _ (HRE.out _ (HMX.out.new HM1.out (fun k h => h.1)).drew)).mono ?_)
      rintro e ws1 ⟨rfl, hrw, hms, hsz⟩
      have HM1s : Hid (Mod (fun k => w.heap.size ≤ k ∧ k ≠ X) wx ws1) := Lib.hid (by first | exact HM1.out.trans hms.ofNil (fun _ _ h => h) | exact HM1.out.drew.trans hms.ofNil (fun _ _ h => h))
      have HT1s : Hid (PairG (LA tb db bl bm o (D.write fn (sect64 eb)).1) (RB xb o D) tb (fun k => (fun k => w.heap.size ≤ k ∧ k ≠ X) k ∧ k ≠ wz1.heap.size) ws1) := Lib.hid (by first | exact lrNil (HT1.out.mono (H := (fun k => (fun k => w.heap.size ≤ k ∧ k ≠ X) k ∧ k ≠ wz1.heap.size)) (fun k hk h => ⟨h, Nat.ne_of_lt hk⟩)) hms | exact lrNil (lrNil (HT1.out.mono (H := (fun k => (fun k => w.heap.size ≤ k ∧ k ≠ X) k ∧ k ≠ wz1.heap.size)) (fun k hk h => ⟨h, Nat.ne_of_lt hk⟩)) (Mod.refl nil _).drew) hms)
      have HRW1 := Lib.hid hrw
      have HSZ1 := Lib.hid hsz
      clear hrw hms hsz
      refine hK.out _ _ (HKX.out _ (by first | exact HM2.out | exact HM1s.out | exact HM1.out | exact HM0s.out | exact HM0.out | exact HM0.out.drew)) (fun hHeld => ?_)
      clear hK K
      (try simp only [Act.put, pT])
      refine rH 15 (fun K hK => ?_)
      go_simp
      refine (rWrite (LA.keeps _ _ _ _ _ _) HT1s.out fn _ (sect64 eb) HRW1.out (fun k hk => ⟨fun hg => hg.2 hk, by rw [hk]; have h := HSZ1.out; exact Nat.lt_of_lt_of_le (Nat.lt_succ_self _) (Nat.le_of_eq h.symm)⟩) (by rw [sect64_length]; decide)).mono ?_
      rintro e wz2 ⟨rfl, htw, hmw⟩
      have HM2 : Hid (Mod (fun k => w.heap.size ≤ k ∧ k ≠ X) wx wz2) := Lib.hid (HM1s.out.trans hmw (fun _ _ h => h.1))
      have HT2 := Lib.hid (htw.mono (H := (fun k => w.heap.size ≤ k ∧ k ≠ X)) (fun k _ h => by
       rcases h with h | h
       ·exact h.1
       ·have hx : X < k := Nat.lt_of_lt_of_le HXS.out (Nat.le_trans HM1s.out.size h)
        exact ⟨Nat.le_of_lt (Nat.lt_of_le_of_lt HXw.out hx), fun e => by rw [e] at hx; exact Nat.lt_irrefl _ hx⟩))
      clear htw hmw
      refine hK.out _ _ (HKX.out _ (by first | exact HM2.out | exact HM1s.out | exact HM1.out | exact HM0s.out | exact HM0.out | exact HM0.out.drew)) (fun hHeld => ?_)
      clear hK K
      (try simp only [Act.put, pT])
      refine tH 16 ?_
      (try simp only [Act.put, pT])
      refine wpAnyH_done (by kernel_rfl) ?_ _
      go_wp2_with fail
      go_meet
      exact ⟨o, (D.write fn (sect64 eb)).1, rfl, rfl, rfl, rfl, (Lib.hid (fun yb zb s l he => by have h := HOK.out yb zb s l he; exact ⟨(by rw [DS.write_len]; exact h.1), h.2⟩)), Lib.hid (HT2.out.mono (fun k hk h => ⟨h.1, hk⟩)), Lib.hid (by rw [DS.write_len]; exact HLN.out), Lib.hid (HMX.out.new HM2.out (fun k h => h.1))⟩
     ·have p0 : (kind == 0) = false := by simpa using q0
      have p1 : (kind == 1) = false := by simpa using q1
      have p2 : (kind == 2) = false := by simpa using q2
      have p3 : (kind == 3) = false := by simpa using q3
      go_wp2_with fail
      go_meet
      exact ⟨o, D, rfl, rfl, rfl, rfl, HOK, Lib.hid (HT0.out.mono (fun k hk h => ⟨h.1, hk⟩)), Lib.hid HLN.out, Lib.hid (HMX.out.new HM0.out (fun k h => h.1))⟩
    case rest =>
     clear u0 HKX HM0 HT0 HMX HRE HRK HX HXw HXS hkl hfn2 hnbm HOK HLN
     obtain ⟨o', D', rfl, rfl, rfl, rfl, HOK', HTC, HLN', HMC⟩ := hcut
     obtain ⟨o, rfl⟩ : ∃ q : OY, q = o' := ⟨_, rfl⟩
     obtain ⟨D, rfl⟩ : ∃ q : DS, q = D' := ⟨_, rfl⟩
     have HOK := HOK'
     have HLN := HLN'
     clear HOK' HLN'
     go_upto_region 33 with (fail)
     go_cut [10, 11, 12, 13, 158] from 227 (fun s10 s11 s12 s13 s77 wd => wc = wd ∧ s10 = o.y ∧ s11 = o.e ∧ s12 = o.z ∧ s13 = o.e ∧ s77 = .bool false)
     case first =>
      rcases o with _ | ⟨yb, zb, s, l⟩
      ·simp only [OY.none_y, OY.none_z, OY.none_e, OY.some_y, OY.some_z, OY.some_e]
       go_wp2_with fail
       go_meet
       exact ⟨rfl, rfl, rfl, rfl, rfl, rfl⟩
      ·simp only [OY.none_y, OY.none_z, OY.none_e, OY.some_y, OY.some_z, OY.some_e]
       go_wp2_with fail
       go_meet
       exact ⟨rfl, rfl, rfl, rfl, rfl, rfl⟩
     case rest =>
      obtain ⟨rfl, rfl, rfl, rfl, rfl, rfl⟩ := hcut
      rcases o with _ | ⟨yb, zb, s, l⟩
      ·simp only [OY.none_y, OY.none_z, OY.none_e, OY.some_y, OY.some_z, OY.some_e]
       go_wp2_with fail
       exact ⟨⟨i + 1, none, D, by omega, by go_num, rfl, rfl, rfl, rfl, HOK, HTC, HLN, HMC⟩, by simp [intOf]; omega⟩
      ·simp only [OY.none_y, OY.none_z, OY.none_e, OY.some_y, OY.some_z, OY.some_e]
       have HOK2 : Hid (YS.Ok ⟨s, D, l⟩) := Lib.hid (HOK.out yb zb s l rfl)
       have HLN2 : Hid (D.lasts.length ≤ 8192) := Lib.hid (by have := HLN.out; omega)
       have HTY : Hid (PairG (YA tb db bl bm yb ⟨s, D, l⟩) (YB xb zb ⟨s, D, l⟩) tb (fun k => w.heap.size ≤ k ∧ k < wc.heap.size) wc) := HTC
       have HLL9 : Hid (l.length ≤ 8192) := Lib.hid (by have := HOK2.out.few; have := HLN2.out; exact Nat.le_trans HOK2.out.few HLN2.out)
       have HEOK : Hid (∀ e ∈ l, 0 ≤ e.k ∧ e.k ≤ 255 ∧ e.b.length ≤ 60000) := Lib.hid HOK2.out.ents
       clear HTC
       obtain ⟨gb, hg0, hbun⟩ := pyBundle (YB.keeps _ _ _) HTY.out HOK2.out HLN2.out
       simp only at hbun
       have HBUN := Lib.hid hbun
       clear hbun
       go_wp2_with fail
       refine HBUN.out.mono ?_
       rintro e wu ⟨pu, cu, rfl, hvu, htu, hmu⟩
       have HTU := Lib.hid htu
       have HVU := Lib.hid hvu
       have HMU : Hid (Mod nil w wu) := Lib.hid (HMC.out.new hmu (fun k h => h.1))
       clear htu hvu hmu hg0 HBUN
       obtain ⟨px, nx, cx, SX0, hz1, hzl, hnx, hex⟩ := pxEnts HTU.out
       simp only at hnx hex
       have HEX := Lib.hid (refExport SX0 px nx cx l wu hex HEOK.out (by have := HLL9.out; omega))
       have HEXR := Lib.hid hex
       have HNX := Lib.hid hnx
       have HZ1 := Lib.hid hz1
       have HZL := Lib.hid hzl
       clear hex hnx hzl
       go_wp2_with fail
       refine HEX.out.mono ?_
       rintro e wb ⟨pv, cv, rfl, hvv, hmv⟩
       have HTB : Hid (PairG (YA tb db bl bm yb ⟨s, D, l⟩) (YB xb zb ⟨s, D, l⟩) tb (fun k => w.heap.size ≤ k) wb) := Lib.hid ((HTU.out.modNil (YA.keeps _ _ _ _ _ _) (YB.keeps _ _ _) hmv).mono (fun k hk h => h.elim (fun h => h.1) (fun h => Nat.le_trans HMC.out.size h)))
       have HMB : Hid (Mod nil w wb) := Lib.hid (HMU.out.thenNil hmv)
       have HVV := Lib.hid hvv
       have HVUB := Lib.hid (HVU.out.modNil hmv)
       have HEXB := Lib.hid (HEXR.out.modNil hmv)
       have hz1b := cell_kept HZ1.out hmv HZL.out (not_nil _)
       have HZLB : Hid (zb < wb.heap.size) := Lib.hid (Nat.lt_of_lt_of_le HZL.out hmv.size)
       obtain ⟨gb, LL, hy0, hyl, hlog⟩ := pyLog HTB.out
       simp only at hlog
       have HLOG := Lib.hid hlog
       have HBY : Hid (∀ (S T : Nat → Prop) (va vb : Value) (la : List UInt8) (W : World), IsRow S W va (bys la) → IsRow T W vb (bys la) → Calls Tryz.prog 25 #[va, vb] W fun e w' => e = .returned (.bool true) ∧ W = w') := Lib.hid (fun S T va vb la W ha hb => by
        have h := refBytesW S T va vb la la W ha hb
        rwa [decide_eq_true rfl] at h)
       obtain ⟨nl, hnl⟩ : ∃ q, l.length = q := ⟨_, rfl⟩
       have hnxl : nx = nl := by rw [HNX.out, hnl]
       have hnl8 : nl ≤ 8192 := by rw [← hnl]; exact HLL9.out
       have HENT : Hid (∀ W, Mod nil wb W → Calls Tryz.prog 23 #[.pointer (some ⟨gb, 0, none⟩)] W fun e w' => ∃ p c, e = .returned (.slice p nl c) ∧ IsEnts (fun k => W.heap.size ≤ k) w' (.slice p nl c) nl l ∧ Mod nil W w') := Lib.hid (fun W m => by
        have h := logEntries LL gb tb l W (HLOG.out.modNil m) (fun e he => (HEOK.out e he).2.2) (by have := HLL9.out; omega)
        rwa [hnl] at h)
       have HSM0 : Hid (∀ (we : World) (pe : Option Addr) (ce : Nat) {B2 : Nat → Prop}, Mod nil wb we → IsEnts B2 we (.slice pe nl ce) nl l → ∀ W, Mod nil we W → Calls Tryz.prog 22 #[.slice pe nl ce, .slice px nx cx] W fun e w' => e = .returned (.bool true) ∧ Mod nil W w') := Lib.hid (fun we pe ce B2 m hv W m2 => by
        have h := refSameEnts _ _ pe px nl ce nx cx l l W (hv.read.modNil m2) (HEXB.out.modNil (m.thenNil m2)) (by omega)
        rwa [decide_eq_true rfl] at h)
       have HLEN : Hid (∀ W, Mod nil wb W → Calls Tryz.prog 24 #[.pointer (some ⟨gb, 0, none⟩)] W fun e w' => e = .returned (.int .i64 (nx : Nat)) ∧ W = w') := Lib.hid (fun W m => by
        have h := logLen LL gb tb l W (HLOG.out.modNil m)
        rwa [hnl, ← hnxl] at h)
       have HHD : Hid (∀ W, Mod nil wb W → Calls Tryz.prog 26 #[.pointer (some ⟨gb, 0, none⟩)] W fun e w' => ∃ p c, e = .returned (.slice p 32 c) ∧ IsVec (fun k => W.heap.size ≤ k) w' 5 1 (.slice p 32 c) 32 (bys (headH l)) ∧ Mod nil W w') := Lib.hid (fun W m => logHead LL gb tb l W (HLOG.out.modNil m))
       have HRH : Hid (∀ W, Mod nil wb W → Calls Tryz.prog 27 #[.slice px nx cx] W fun e w' => ∃ p c, e = .returned (.slice p 32 c) ∧ IsVec (fun k => W.heap.size ≤ k) w' 5 1 (.slice p 32 c) 32 (bys (headH l)) ∧ Mod nil W w') := Lib.hid (fun W m => refHeadOf _ px nx cx l W (HEXB.out.modNil m) HEOK.out (by omega))
       have HBX : Hid (∀ W, Mod nil wb W → Calls Tryz.prog 25 #[.slice pu (exportF l).length cu, .slice pv (exportF l).length cv] W fun e w' => e = .returned (.bool true) ∧ W = w') := Lib.hid (fun W m => HBY.out _ _ _ _ (exportF l) W (HVUB.out.row.modNil m) (HVV.out.row.modNil m))
       obtain ⟨nex, hnex⟩ : ∃ q, (exportF l).length = q := ⟨_, rfl⟩
       rw [hnex] at HBX
       have HK38 : Hid (∀ W, Mod nil wb W → (fun w' => w'.cell? ⟨yb, 0, none⟩ = some (.pointer (some ⟨gb, 0, none⟩)) ∧ w'.cell? ⟨zb, 1, none⟩ = some (.slice px nx cx)) W) := Lib.hid (fun W m => ⟨cell_kept hy0 m hyl (not_nil _), cell_kept hz1b m HZLB.out (not_nil _)⟩)
       have hbb : Mod nil wb wb := Mod.refl _ _
       rw [hnex]
       clear hvv hmv hz1 hz1b hy0 hyl hlog hnl hnxl hnex HVU HVV HVUB HEXR HEX HTU
       go_upto_region 38 with (fail)
       refine wp_region_held_drew (S := (fun w' => w'.cell? ⟨yb, 0, none⟩ = some (.pointer (some ⟨gb, 0, none⟩)) ∧ w'.cell? ⟨zb, 1, none⟩ = some (.slice px nx cx))) (by kernel_rfl) (HK38.out _ mD) (fun hHeld => ?_)
       refine tH 0 ?_
       (try simp only [Act.put, pT])
       refine tH 1 ?_
       (try simp only [Act.put, pT])
       refine tH 2 ?_
       (try simp only [Act.put, pT])
       refine tH 3 ?_
       (try simp only [Act.put, pT])
       refine tH 5 ?_
       (try simp only [Act.put, pT])
       refine tH 6 ?_
       (try simp only [Act.put, pT])
       refine tH 7 ?_
       (try simp only [Act.put, pT])
       refine tH 8 ?_
       (try simp only [Act.put, pT])
       refine rH 4 (fun K hK => ?_)
       go_simp
       refine (HENT.out _ ?_).mono ?_
       ·exact mD
       rintro e we ⟨pe, ce, rfl, hve, hme0⟩
       have hme : Mod nil wb _ := (show Mod nil wb _ from mD).thenNil hme0
       have HSM := Lib.hid (fun W (m : Mod nil we W) => HSM0.out we pe ce hme hve W m)
       have hee : Mod nil we we := Mod.refl _ _
       clear hve hme0
       refine hK.out _ _ (HK38.out _ mD) (fun hHeld => ?_)
       clear hK K
       (try simp only [Act.put, pT])
       refine rH 9 (fun K hK => ?_)
       go_simp
       refine (HSM.out _ ?_).mono ?_
       ·exact mD
       rintro e wf ⟨rfl, hmf0⟩
       have hmf : Mod nil wb _ := (show Mod nil wb _ from mD).thenNil hmf0
       clear hmf0
       refine hK.out _ _ (HK38.out _ mD) (fun hHeld => ?_)
       clear hK K
       (try simp only [Act.put, pT])
       refine tH 10 ?_
       (try simp only [Act.put, pT])
       refine tH 11 ?_
       (try simp only [Act.put, pT])
       refine tH 12 ?_
       (try simp only [Act.put, pT])
       refine tH 13 ?_
       (try simp only [Act.put, pT])
       refine tH 14 ?_
       (try simp only [Act.put, pT])
       refine tH 15 ?_
       (try simp only [Act.put, pT])
       refine tH 17 ?_
       (try simp only [Act.put, pT])
       refine tH 18 ?_
       (try simp only [Act.put, pT])
       refine tH 19 ?_
       (try simp only [Act.put, pT])
       refine tH 20 ?_
       (try simp only [Act.put, pT])
       refine tH 21 ?_
       (try simp only [Act.put, pT])
       refine rH 16 (fun K hK => ?_)
       go_simp
       refine (HLEN.out _ ?_).mono ?_
       ·exact mD
       rintro e w' ⟨rfl, rfl⟩
       refine hK.out _ _ (HK38.out _ mD) (fun hHeld => ?_)
       clear hK K
       (try simp only [Act.put, pT])
       refine tH 22 ?_
       (try simp only [Act.put, pT])
       refine tH 23 ?_
       (try simp only [Act.put, pT])
       refine tH 24 ?_
       (try simp only [Act.put, pT])
       refine tH 25 ?_
       (try simp only [Act.put, pT])
       refine tH 26 ?_
       (try simp only [Act.put, pT])
       refine tH 27 ?_
       (try simp only [Act.put, pT])
       refine tH 28 ?_
       (try simp only [Act.put, pT])
       refine tH 30 ?_
       (try simp only [Act.put, pT])
       refine tH 31 ?_
       (try simp only [Act.put, pT])
       refine tH 32 ?_
       (try simp only [Act.put, pT])
       refine tH 33 ?_
       (try simp only [Act.put, pT])
       refine rH 29 (fun K hK => ?_)
       go_simp
       refine (HHD.out _ ?_).mono ?_
       ·exact mD
       rintro e wh ⟨ph, ch, rfl, hvh, hmh0⟩
       have hmh : Mod nil wb _ := (show Mod nil wb _ from mD).thenNil hmh0
       have HVH := Lib.hid hvh
       have hhh : Mod nil wh wh := Mod.refl _ _
       clear hvh hmh0
       refine hK.out _ _ (HK38.out _ mD) (fun hHeld => ?_)
       clear hK K
       (try simp only [Act.put, pT])
       refine rH 34 (fun K hK => ?_)
       go_simp
       refine (HRH.out _ ?_).mono ?_
       ·exact mD
       rintro e wq ⟨pq, cq, rfl, hvq, hmq0⟩
       have hmq : Mod nil wb _ := (show Mod nil wb _ from mD).thenNil hmq0
       have hhq : Mod nil wh wq := (show Mod nil wh _ from mD).thenNil hmq0
       have HBH := Lib.hid (fun W (m : Mod nil wq W) => HBY.out _ _ (.slice ph 32 ch) (.slice pq 32 cq) (headH l) W (HVH.out.row.modNil (hhq.thenNil m)) (hvq.row.modNil m))
       have hqq : Mod nil wq wq := Mod.refl _ _
       clear hvq hmq0
       refine hK.out _ _ (HK38.out _ mD) (fun hHeld => ?_)
       clear hK K
       (try simp only [Act.put, pT])
       refine rH 35 (fun K hK => ?_)
       go_simp
       refine (HBH.out _ ?_).mono ?_
       ·exact mD
       rintro e w' ⟨rfl, rfl⟩
       refine hK.out _ _ (HK38.out _ mD) (fun hHeld => ?_)
       clear hK K
       (try simp only [Act.put, pT])
       refine tH 36 ?_
       (try simp only [Act.put, pT])
       refine tH 37 ?_
       (try simp only [Act.put, pT])
       refine tH 38 ?_
       (try simp only [Act.put, pT])
       refine tH 39 ?_
       (try simp only [Act.put, pT])
       refine tH 40 ?_
       (try simp only [Act.put, pT])
       refine tH 41 ?_
       (try simp only [Act.put, pT])
       refine tH 42 ?_
       (try simp only [Act.put, pT])
       refine tH 43 ?_
       (try simp only [Act.put, pT])
       refine tH 44 ?_
       (try simp only [Act.put, pT])
       refine tH 45 ?_
       (try simp only [Act.put, pT])
       refine rH 46 (fun K hK => ?_)
       go_simp
       refine (HBX.out _ ?_).mono ?_
       ·exact mD
       rintro e w' ⟨rfl, rfl⟩
       refine hK.out _ _ (HK38.out _ mD) (fun hHeld => ?_)
       clear hK K
       (try simp only [Act.put, pT])
       refine tH 47 ?_
       (try simp only [Act.put, pT])
       refine tH 48 ?_
       (try simp only [Act.put, pT])
       refine wpAnyH_done (by kernel_rfl) ?_ _
       have HM9 : Hid (Mod nil w _) := Lib.hid (HMB.out.thenNil (show Mod nil wb _ from mD))
       have HT9 := Lib.hid ((HTB.out.modNil (YA.keeps _ _ _ _ _ _) (YB.keeps _ _ _) (show Mod nil wb _ from mD)).mono (H := fun k => w.heap.size ≤ k ∧ k < _) (fun k hk h => ⟨h, hk⟩))
       go_wp2_with fail
       exact ⟨⟨i + 1, some (yb, zb, s, l), D, by omega, by go_num, rfl, rfl, rfl, rfl, HOK, HT9, HLN, HM9⟩, by simp [intOf]; omega⟩
  ·obtain rfl : i = len := by omega
   go_wp2_with fail
   refine (yFirst wr).mono ?_
   rintro e w2 ⟨rfl, hm2⟩
   have HE := Lib.hid (HPOST.out _ w2 ⟨rfl, HMW.out.thenNil hm2⟩)
   clear hm2
   go_wp2_with fail
   exact HE.out
set_option maxRecDepth 100000 in
theorem lawYPlays_bad (ps : Option Addr) (len cs : Nat) (n : Int) (l0 : List OpY) (w : World) (hl : IsOps (· < w.heap.size) w (.slice ps len cs) l0) (hlm : len ≤ 9223372036854775807)
  (hbo : ∀ o ∈ l0, o.e.b.length ≤ maxLen ∧ o.keep.length ≤ maxLen) (h : n < 1 ∨ (1 ≤ n ∧ 300 < n) ∨ (1 ≤ n ∧ n ≤ 300 ∧ fewY l0 = false)) :
  Calls Tryz.prog 3 #[.int .i64 n, .slice ps len cs] w fun e w' => e = .returned (.bool true) ∧ Mod nil w w' := by
 have HL := Lib.hid hl
 have HFEW : Hid (∀ W, Mod nil w W → Calls Tryz.prog 5 #[.slice ps len cs] W fun e w' => e = .returned (.bool (fewY l0)) ∧ Mod nil W w') := Lib.hid (fun W m => by
  obtain ⟨p', c', h1, h2⟩ := HL.out.modNil m
  exact yFew ps len cs l0 W ⟨p', c', h1, fun i hi => by obtain ⟨b, off, pb, nb, cb, pk, nk, ck, a, hb, c, k0, k1, k2, k3, k4, r1, r2⟩ := h2 i hi; exact ⟨b, off, pb, nb, cb, pk, nk, ck, a, c, c, k0, k1, k2, k3, k4, r1.mono (fun k hk _ => hk), r2.mono (fun k hk _ => hk)⟩⟩ hlm hbo)
 clear hl hbo
 rcases h with t1 | ⟨t1, t2⟩ | ⟨t1, t2, t3⟩
 ·go_enter Tryz.func3, Tryz.ntmps3
  go_wp2_with fail
  refine (yFirst w).mono ?_
  rintro e w1 ⟨rfl, hm1⟩
  go_wp2_with fail
  refine (yFirst w1).mono ?_
  rintro e w2 ⟨rfl, hm2⟩
  go_wp2_with fail
  go_ret
  exact ⟨rfl, hm1.thenNil hm2⟩
 ·go_enter Tryz.func3, Tryz.ntmps3
  go_wp2_with fail
  refine (yFirst w).mono ?_
  rintro e w1 ⟨rfl, hm1⟩
  go_wp2_with fail
  refine (yFirst w1).mono ?_
  rintro e w2 ⟨rfl, hm2⟩
  go_wp2_with fail
  go_ret
  exact ⟨rfl, hm1.thenNil hm2⟩
 ·rw [t3] at HFEW
  clear t3
  go_enter Tryz.func3, Tryz.ntmps3
  go_wp2_with fail
  refine (yFirst w).mono ?_
  rintro e w1 ⟨rfl, hm1⟩
  go_wp2_with fail
  refine (HFEW.out w1 hm1).mono ?_
  rintro e w2 ⟨rfl, hm2⟩
  go_wp2_with fail
  refine (yFirst w2).mono ?_
  rintro e w3 ⟨rfl, hm3⟩
  go_wp2_with fail
  go_ret
  exact ⟨rfl, (hm1.thenNil hm2).thenNil hm3⟩
set_option maxRecDepth 100000 in
theorem walkDiaryPlays (v0 v1 : Value) (W : World) (r0 : Rd W 3 v0) (r1 : Rd W 22 v1) :
  Calls Tryz.prog 3 #[v0, v1] W fun e w' => e = .returned (.bool true) ∧ Below W.heap.size W w' := by
 obtain ⟨n, rfl, hn⟩ := r0.int Tryz.underlying3
 obtain ⟨p, len, cap, l, rfl, hll, hm, hl, hb⟩ := r1.opsY
 unfold maxLen at hm
 by_cases h : 1 ≤ n ∧ n ≤ 300 ∧ fewY l = true
 ·obtain ⟨h1, h2, h3⟩ := h
  obtain ⟨k, rfl⟩ := Int.eq_ofNat_of_zero_le (show 0 ≤ n by omega)
  exact (lawYPlays p len cap k l W hl (by omega) hb (by omega) (by omega) h3).mono fun e w' ⟨h1, h2⟩ => ⟨h1, h2.below⟩
 ·refine (lawYPlays_bad p len cap n l W hl (by omega) (fun o ho => ⟨(hb o ho).1, (hb o ho).2.1⟩) ?_).mono fun e w' ⟨h1, h2⟩ => ⟨h1, h2.below⟩
  by_cases a : n < 1
  ·exact .inl a
  ·by_cases b : 300 < n
   ·exact .inr (.inl ⟨by omega, b⟩)
   ·refine .inr (.inr ⟨by omega, by omega, ?_⟩)
    cases hf : fewY l with
    | false => rfl
    | true => exact absurd ⟨by omega, by omega, hf⟩ h
end Go.Proofs.YtdfahddpkkeldaaGreat

/- cfllaw8.JournalPlays. (Printed by wip/tools/gen_lawjplays.py.) -/
import Derived.Test.YtjilbnpehgigjaaGreatShort
import Derived.Test.YtjilbnpehgigjaaGreatJSame
import Derived.Laws.CopyRow
import Derived.Laws.IdiomCopy
namespace Go.Proofs.YtjilbnpehgigjaaGreat
open Go.ChangeShapes Go.WideShapes Go.ChangeAt Go.RowKit
def sect64 (b : List UInt8) : List UInt8 := b.take 64 ++ List.replicate (64 - min 64 b.length) 0
theorem sect64_length (b : List UInt8) : (sect64 b).length = 64 := by unfold sect64; rw [List.length_append, List.length_take, List.length_replicate]; omega
set_option maxRecDepth 100000 in
theorem lawSector (T : Nat → Prop) (pb : Option Addr) (nb cb : Nat) (b : List UInt8) (w : World) (hrow : IsRow T w (.slice pb nb cb) (bys b)) :
    Calls Tryz.prog 25 #[.slice pb nb cb] w fun e w' => e = .returned (.slice (some ⟨w.heap.size, 0, none⟩) 64 64) ∧ IsRow (· = w.heap.size) w' (.slice (some ⟨w.heap.size, 0, none⟩) 64 64) (bys (sect64 b)) ∧ Mod nil w w' ∧ w'.heap.size = w.heap.size + 1 := by
  refine (?_ : ∀ Post : Ending → World → Prop, Hid (∀ e w', (e = .returned (.slice (some ⟨w.heap.size, 0, none⟩) 64 64) ∧ IsRow (· = w.heap.size) w' (.slice (some ⟨w.heap.size, 0, none⟩) 64 64) (bys (sect64 b)) ∧ Mod nil w w' ∧ w'.heap.size = w.heap.size + 1) → Post e w') → Calls Tryz.prog 25 #[.slice pb nb cb] w Post) _ (Lib.hid (fun _ _ h => h))
  intro Post HPOST
  have hbl : b.length = nb := by
    obtain ⟨_, _, h, _⟩ := hrow
    simp only [Value.slice.injEq, bys_length] at h
    exact h.2.1.symm
  obtain ⟨i0, hi0, hz0, hz1, hz2⟩ := info_parts info_u8
  have hmk : (Instr.makeSlice 22 (.int .i64 64) (.int .i64 64)).run Tryz.prog w = .ok (.slice (some ⟨w.heap.size, 0, none⟩) 64 64) (w.alloc (.cells (List.replicate 64 (.int .u8 0)).toArray 5)) := run_make_one 22 5 i0 _ 1 Tryz.underlying22 hi0 hz0 hz1 hz2 rfl 64 (by omega) (by unfold maxLen; omega) w
  obtain ⟨g, hg⟩ : ∃ x, w.heap.size = x := ⟨_, rfl⟩
  obtain ⟨w1, hw1⟩ : ∃ x, w.alloc (.cells (List.replicate 64 (.int .u8 0)).toArray 5) = x := ⟨_, rfl⟩
  have hm1 : Mod nil w w1 := by rw [← hw1]; exact (Mod.refl _ _).alloc _
  have hb1 : w1.heap[g]? = some (.cells (List.replicate 64 (Value.int .u8 0)).toArray 5 (0, 0)) := by rw [← hw1, ← hg]; exact heap_alloc_new _ _
  have hs1 : w1.heap.size = g + 1 := by rw [← hw1, World.size_alloc, hg]
  rw [hw1, hg] at hmk
  have hsz : (Tryz.prog.info? 5).map (·.size) = some 1 := by kernel_rfl
  have hrow1 := hrow.modNil hm1
  have hcopy : ∃ m w2, (Builtin.copy_ #[22, 22] 3 #[.slice (some ⟨g, 0, none⟩) 64 64, .slice pb nb cb]).run Tryz.prog w1 = .ok m w2 ∧ w2.heap[g]? = some (.cells (bys (sect64 b)).toArray 5 (0, 0)) ∧ Mod nil w w2 ∧ w2.heap.size = g + 1 := by
    rcases Nat.eq_zero_or_pos nb with h0 | h0
    · refine ⟨_, _, run_copy_none w1 22 22 3 5 _ _ 64 64 nb cb Tryz.underlying22 hsz (by rw [h0]; rfl), ?_, hm1, hs1⟩
      rw [hb1]
      have : b = [] := List.eq_nil_of_length_eq_zero (by omega)
      subst this
      rfl
    · obtain ⟨p0, c0, he, hc⟩ := hrow1
      simp only [Value.slice.injEq] at he
      obtain ⟨rfl, -, -⟩ := he
      obtain ⟨gb, ob, rfl, -⟩ := hc 0 (by rw [bys_length]; omega)
      have hcl : (bys (b.take 64)).length = Nat.min nb 64 := by rw [bys_length, List.length_take, hbl]; exact Nat.min_comm _ _
      have hcp := run_copy_row (P := Tryz.prog) w1 22 22 3 5 g 0 64 64 ⟨gb, ob, none⟩ nb cb (List.replicate 64 (Value.int .u8 0)).toArray 5 (bys (b.take 64)) Tryz.underlying22 hsz hb1 hcl (fun i v hv => by
        have hi : i < (bys (b.take 64)).length := by
          rcases Nat.lt_or_ge i (bys (b.take 64)).length with h | h
          · exact h
          · rw [List.getElem?_eq_none h] at hv; cases hv
        rw [bys_length, List.length_take] at hi
        obtain ⟨gb', ob', e1, -, -, e2⟩ := hc i (by rw [bys_length]; omega)
        simp only [Option.some.injEq, Addr.mk.injEq] at e1
        obtain ⟨rfl, rfl, -⟩ := e1
        have e : (⟨gb, ob, none⟩ : Addr).add i = ⟨gb, ob + i, none⟩ := by unfold Addr.add; split <;> simp_all
        rw [e, e2, ← hv]
        simp [bys, List.getElem?_take, show i < 64 by omega, show i < b.length by omega]) (by rw [hcl]; simp; exact Nat.min_le_right _ _) (bys_one _)
      refine ⟨_, _, hcp, ?_, ?_, ?_⟩
      · rw [setRow_heap w1 g _ _ _ _ hb1]
        congr 2
        simp only [List.take_zero, List.nil_append, Nat.zero_add]
        rw [hcl]
        unfold sect64
        rw [bys_append, hbl]
        congr 2
        simp only [List.drop_replicate, bys, List.map_replicate]
        rw [show Nat.min nb 64 = min 64 nb from Nat.min_comm _ _]
        rfl
      · exact hm1.rowSet g _ (fun h => by rw [hg] at h; omega)
      · rw [size_setRow, hs1]
  obtain ⟨mm, w2, hcopy, hb2, hm2, hs2⟩ := hcopy
  have HE := Lib.hid (HPOST.out _ w2 ⟨rfl, by rw [hg]; exact (IsRow.ofBlock (b := g) (S := (· = g)) hb2 rfl 64 64 (by rw [bys_length, sect64_length])), hm2, by rw [hs2, hg]⟩)
  rw [hg] at HE
  clear hrow hrow1 hbl hi0 hz0 hz1 hz2 hw1 hm1 hb1 hs1 hsz hb2 hm2 hs2 hg
  go_enter Tryz.func25, Tryz.ntmps25
  go_wp2_with fail
  exact HE.out
theorem IsDisk.footLt {C : Nat → Prop} {w : World} {d bl bm : Nat} {D : DS} (h : IsDisk w d bl bm C D) : d < w.heap.size ∧ bl < w.heap.size ∧ bm < w.heap.size := by
  obtain ⟨vl, h1, _⟩ := h.lasts
  obtain ⟨vm, h4, _⟩ := h.pend
  exact ⟨heap_lt h.obj, heap_lt h1, h4.lt⟩
theorem crash_lasts (d : DS) (keep : List Bool) : (d.crash keep).lasts.length = d.lasts.length := DS.layTo_length _ _ _
theorem appends_len (s : JS) (d : DS) (b : List UInt8) : (s.appends d b).2.1.lasts.length = d.lasts.length := by
  unfold JS.appends
  repeat' split
  all_goals first | rfl | exact DS.lays_len _ _ _ _
theorem compacts_len (s : JS) (d : DS) (b : List UInt8) : (s.compacts d b).2.1.lasts.length = d.lasts.length := by
  unfold JS.compacts
  generalize (if s.gen < 4294967295 then s.gen + 1 else 4294967295) = G1
  repeat' split
  all_goals first | rfl | exact DS.lays_len _ _ _ _
set_option maxRecDepth 100000 in
set_option maxHeartbeats 8000000 in
theorem lawJPlays (ps : Option Addr) (len cs n : Nat) (l0 : List OpJ) (w : World) (hl : IsOpJs (· < w.heap.size) w (.slice ps len cs) l0) (hlm : len ≤ 9223372036854775807)
    (hbo : ∀ o ∈ l0, o.b.length ≤ maxLen ∧ o.keep.length ≤ maxLen ∧ (-9223372036854775808 ≤ o.n ∧ o.n ≤ 9223372036854775807) ∧ -9223372036854775808 ≤ o.i ∧ o.i ≤ 9223372036854775807) (h1 : 1 ≤ n) (h2 : n ≤ 200) (hf : fewJ l0 = true) :
    Calls Tryz.prog 4 #[.int .i64 (n : Nat), .slice ps len cs] w fun e w' => e = .returned (.bool true) ∧ Mod nil w w' := by
  refine (?_ : ∀ Post : Ending → World → Prop, Hid (∀ e w', (e = .returned (.bool true) ∧ Mod nil w w') → Post e w') → Calls Tryz.prog 4 #[.int .i64 (n : Nat), .slice ps len cs] w Post) _ (Lib.hid (fun _ _ h => h))
  intro Post HPOST
  have hll : l0.length = len := by obtain ⟨_, _, h, _⟩ := hl; simp only [Value.slice.injEq] at h; exact h.2.1.symm
  have HFEW := Lib.hid (fun W (m : Mod nil w W) => jFew ps len cs l0 W _ (hl.modNil m) hlm (fun o ho => ⟨(hbo o ho).1, (hbo o ho).2.1⟩))
  rw [hf] at HFEW
  have HLL := Lib.hid hll
  have HL := Lib.hid hl
  have HBO := Lib.hid hbo
  have t1 : ¬ ((n : Int) < 1) := by omega
  have t2 : ¬ (200 < (n : Int)) := by omega
  clear hl hll hbo hf
  go_enter Tryz.func4, Tryz.ntmps4
  go_wp2_with fail
  refine (jFirst w).mono ?_
  rintro e w1 ⟨rfl, hm1⟩
  have HM1 := Lib.hid hm1
  clear hm1
  go_wp2_with fail
  refine (HFEW.out w1 HM1.out).mono ?_
  rintro e w2 ⟨rfl, hm2⟩
  have HM2 := Lib.hid (HM1.out.thenNil hm2)
  clear hm2 t1 t2
  go_wp2_with fail
  refine (shaNewTable w2).mono ?_
  rintro e w3 ⟨tb, rfl, ht3, htb, hm3⟩
  have HTB3 := Lib.hid ht3
  have HM3 := Lib.hid (HM2.out.thenNil hm3)
  have HS23 : Hid (w.heap.size ≤ tb ∧ tb < w3.heap.size) := Lib.hid ⟨Nat.le_trans HM2.out.size htb, ht3.lt⟩
  clear ht3 htb hm3
  go_wp2_with fail
  refine (diskNew n w3 h1 (by omega)).mono ?_
  rintro e w4 ⟨db, bl, bm, C, rfl, hd4, hfo, hm4⟩
  have HD4 := Lib.hid hd4
  have HFO := Lib.hid hfo
  have HM4 := Lib.hid hm4
  clear hd4 hfo hm4
  go_wp2_with fail
  refine (refNew n w4 h1 (by omega)).mono ?_
  rintro e w5 ⟨yb, rfl, hy5, hm5⟩
  have HY5 := Lib.hid hy5
  have HM5 := Lib.hid hm5
  clear hy5 hm5
  obtain ⟨D0, hD0⟩ : ∃ x, freshDisk n = x := ⟨_, rfl⟩
  rw [hD0] at HD4 HY5
  have HL0 : Hid (D0.lasts.length = n) := Lib.hid (by rw [← hD0]; exact (freshDisk_good n).len)
  clear hD0
  have HDT : Hid (IsDT (fun k => w3.heap.size ≤ k ∧ k < w4.heap.size) w5 tb db bl bm D0) := Lib.hid (IsDT.of (HD4.out.here.mod HM5.out (fun _ _ _ f => f)) ((HTB3.out.mod HM4.out (not_nil _)).mod HM5.out (not_nil _)) (fun k hk _ => by
    have hfk : foot db bl bm C k ∧ k < w4.heap.size := by
      rcases hk with h | h | h | h
      · exact ⟨.inl h, by rw [h]; exact heap_lt HD4.out.obj⟩
      · exact ⟨.inr (.inl h), by rw [h]; exact HD4.out.footLt.2.1⟩
      · exact ⟨.inr (.inr (.inl h)), by rw [h]; exact HD4.out.footLt.2.2⟩
      · exact ⟨.inr (.inr (.inr h.1)), h.2⟩
    have h3 := HFO.out k hfk.1
    exact ⟨⟨h3, hfk.2⟩, by have := HS23.out; omega⟩))
  go_wp2_with fail
  refine (jOpen _ tb db bl bm D0 w5 HDT.out).mono ?_
  rintro e w6 ⟨jb, rfl, -, hj6, hm6⟩
  have HJ6 := Lib.hid hj6
  have HM6 := Lib.hid hm6
  have HHF : Hid (D0.down = false → ∀ hf, hf ≤ 1 → (halfOf D0 hf).length = 64 * (D0.lasts.length / 2)) := Lib.hid (fun hd hf hh => isDisk_half HD4.out hd hf hh)
  have HY6 : Hid (IsRefIn w6 (fun k => w4.heap.size ≤ k ∧ k < w5.heap.size) yb D0) := Lib.hid (HY5.out.here.mod HM6.out (fun k _ h e => by have := HS23.out; have := HM4.out.size; omega))
  clear hj6 hm6
  go_wp2_with fail
  refine (sixOpen (fun k => w4.heap.size ≤ k ∧ k < w5.heap.size) _ yb D0 w6 HY6.out (fun _ h => h) (disk_read64 HD4.out) (fun hd i hi => read_64 w4 db bl bm C D0 HD4.out i hd hi)).mono ?_
  rintro e w7 ⟨xb, rfl, -, hx7, hm7⟩
  have HTW : Hid (Two (fun k => w.heap.size ≤ k ∧ k < w7.heap.size) w7 jb tb db bl bm D0.opens D0 xb yb D0.opens D0) := Lib.hid (by
    have s1 := HM4.out.size; have s2 := HM5.out.size; have s3 := HM6.out.size; have s4 := hm7.size; have s5 := HS23.out; have s6 := HM3.out.size
    have hok := DS.opens_ok D0 HHF.out
    obtain ⟨S, C1, q1, q2, q3, q4⟩ := HJ6.out.ex
    obtain ⟨S2, B2, r1, r2, r3, r4⟩ := hx7
    refine ⟨⟨fun k => (((w3.heap.size ≤ k ∧ k < w4.heap.size) ∨ w5.heap.size ≤ k)) ∧ k < w6.heap.size, fun k => ((w4.heap.size ≤ k ∧ k < w5.heap.size) ∨ w6.heap.size ≤ k) ∧ k < w7.heap.size,
      IsJD.mod ⟨HJ6.out.tab, S, C1, q1, q2, q3, fun k hk => ⟨⟨(q4 k hk).1, (q4 k hk).2.2⟩, (q4 k hk).2⟩⟩ hm7 (fun _ _ _ f => f), ⟨S2, B2, r1, r2, r3, fun k hk => ⟨⟨(r4 k hk).1, (r4 k hk).2⟩, (r4 k hk).2⟩⟩, fun k hk => ⟨⟨by omega, by omega⟩, by omega⟩, fun k hk => ⟨⟨by omega, by omega⟩, hk.2, by omega, by omega⟩, ⟨by omega, by omega⟩⟩, hok, hok⟩)
  have HM7 : Hid (Mod nil w w7) := Lib.hid ((((HM3.out.thenNil HM4.out).thenNil HM5.out).new HM6.out (fun k h => by rw [h]; exact HS23.out.1)).thenNil hm7)
  clear hx7 hm7 HJ6 HY6 HDT HY5 HD4 HFO HTB3 HHF
  obtain ⟨s0, hs0⟩ : ∃ x, D0.opens = x := ⟨_, rfl⟩
  rw [hs0] at HTW
  clear hs0
  go_wp2_with fail
  go_loopw [10, 11, 12] (fun v10 v11 v12 wr => ∃ (i jb xb : Nat) (s : JS) (D : DS), i ≤ len ∧ v12 = .int .i64 i ∧ v10 = .pointer (some ⟨jb, 0, none⟩) ∧ v11 = .pointer (some ⟨xb, 0, none⟩) ∧ Hid (Two (fun k => w.heap.size ≤ k ∧ k < wr.heap.size) wr jb tb db bl bm s D xb yb s D) ∧ Hid (D.lasts.length = n) ∧ Hid (Mod nil w wr)) (fun _ _ v _ => len - (intOf v).toNat)
  case atStart => exact ⟨0, jb, xb, s0, D0, by omega, rfl, rfl, rfl, HTW, HL0, HM7⟩
  case round =>
    clear HTW HM7 HL0
    obtain ⟨i, jb, xb, s, D, hi, rfl, rfl, rfl, HW, HLN, HMW⟩ := hrel
    by_cases hlt : i < len
    · have hil : i < l0.length := by rw [HLL.out]; exact hlt
      obtain ⟨_, _, he, hcc⟩ := HL.out
      simp only [Value.slice.injEq] at he
      obtain ⟨rfl, -, -⟩ := he
      obtain ⟨bo, oo, pb, nb, cb, pk, nk, ck, rfl, hbB, hbw, j0, j1, j2, j3, j4, hbc, hbm, r1, r2⟩ := hcc i hil
      have hbo := HBO.out _ (List.getElem_mem hil)
      obtain ⟨o, ho⟩ : ∃ o, l0[i] = o := ⟨_, rfl⟩
      rw [ho] at j0 j1 j2 r1 r2 hbo
      obtain ⟨kind, oi, fn, ob, keep⟩ := o
      simp only at j0 j1 j2 r1 r2 hbo
      have k0 := cell_kept j0 HMW.out hbw (not_nil _)
      have k1 := cell_kept j1 HMW.out hbw (not_nil _)
      have k2 := cell_kept j2 HMW.out hbw (not_nil _)
      have k3 := cell_kept j3 HMW.out hbw (not_nil _)
      have k4 := cell_kept j4 HMW.out hbw (not_nil _)
      have hkl : keep.length ≤ 9223372036854775807 := by have := hbo.2.1; unfold maxLen at this; omega
      have hfn2 := hbo.2.2.1.2
      have hobl : ob.length ≤ maxLen := hbo.1
      have HRE : Hid (∀ W, Mod nil w W → IsRow (· < w.heap.size) W (.slice pb nb cb) (bys ob)) := Lib.hid (fun W mm => r1.modNil mm)
      have HRK : Hid (∀ W, Mod nil w W → IsRow (· < w.heap.size) W (.slice pk nk ck) (keep.map Value.bool)) := Lib.hid (fun W mm => r2.modNil mm)
      obtain ⟨X, hX⟩ : ∃ X, wr.heap.size = X := ⟨_, rfl⟩
      have HX := Lib.hid hX
      clear j0 j1 j2 j3 j4 r1 r2 hcc ho hbB hX hbo
      go_upto_region 17 with (fail)
      (try rw [HX.out])
      generalize hwx : World.alloc wr _ = wx
      have hxx : wx.heap[X]? = some (.cells #[.int .i64 kind, .int .i64 oi, .int .i64 fn, .slice pb nb cb, .slice pk nk ck] 54 (0, 0)) := by rw [← hwx, ← HX.out]; exact heap_alloc_new _ _
      have hmx : Mod nil wr wx := by rw [← hwx]; exact (Mod.refl _ _).alloc _
      have HT0 : Hid (Two (fun k => w.heap.size ≤ k ∧ k ≠ X) wx jb tb db bl bm s D xb yb s D) := Lib.hid ((HW.out.mono (H := (fun k => w.heap.size ≤ k ∧ k ≠ X)) (fun k hk h => ⟨h.1, by have := HX.out; omega⟩)).modNil hmx)
      have HMX := Lib.hid (HMW.out.thenNil hmx)
      have hsx : wx.heap.size = X + 1 := by rw [← hwx, World.size_alloc, HX.out]
      have HXS : Hid (X < wx.heap.size) := Lib.hid (by omega)
      have u0 := cell_of hxx 0
      simp only [List.getElem?_toArray, List.getElem?_cons_zero, List.getElem?_cons_succ] at u0
      have HXw : Hid (w.heap.size ≤ X) := Lib.hid (by rw [← HX.out]; exact HMW.out.size)
      have HKX : Hid (∀ W, Mod (fun k => w.heap.size ≤ k ∧ k ≠ X) wx W → (fun w' => w'.cell? ⟨X, 1, none⟩ = some (.int .i64 oi) ∧ w'.cell? ⟨X, 2, none⟩ = some (.int .i64 fn) ∧ w'.cell? ⟨X, 3, none⟩ = some (.slice pb nb cb) ∧ w'.cell? ⟨X, 4, none⟩ = some (.slice pk nk ck)) W) := Lib.hid (fun W mm => by
        have e := (mm.block X (heap_lt hxx) (fun h => h.2 rfl)).trans hxx
        exact ⟨cell_of e 1, cell_of e 2, cell_of e 3, cell_of e 4⟩)
      have HM0 : Hid (Mod (fun k => w.heap.size ≤ k ∧ k ≠ X) wx wx) := Lib.hid (Mod.refl _ _)
      clear hwx hxx hmx hsx k0 k1 k2 k3 k4 HW HMW
      go_upto_block 2 with (fail)
      go_cut [10, 11, 14] from 171 (fun s10 s11 s14 wc => ∃ (jb' xb' : Nat) (s' : JS) (D' : DS), s10 = .pointer (some ⟨jb', 0, none⟩) ∧ s11 = .pointer (some ⟨xb', 0, none⟩) ∧ s14 = .bool true ∧ Hid (Two (fun k => w.heap.size ≤ k ∧ k < wc.heap.size) wc jb' tb db bl bm s' D' xb' yb s' D') ∧ Hid (D'.lasts.length = n) ∧ Hid (Mod nil w wc))
      case first =>
        obtain ⟨N6, hN6⟩ : ∃ x : Nat, 6 = x := ⟨_, rfl⟩
        clear hN6
        rcases (show kind = 0 ∨ kind = 1 ∨ kind = 2 ∨ kind = 3 ∨ kind = 4 ∨ kind = 5 ∨ (kind ≠ 0 ∧ kind ≠ 1 ∧ kind ≠ 2 ∧ kind ≠ 3 ∧ kind ≠ 4 ∧ kind ≠ 5) by omega) with rfl | rfl | rfl | rfl | rfl | rfl | ⟨q0, q1, q2, q3, q4, q5⟩
        · go_upto_region 20 with (fail)
          refine wp_region_held_drew (S := (fun w' => w'.cell? ⟨X, 1, none⟩ = some (.int .i64 oi) ∧ w'.cell? ⟨X, 2, none⟩ = some (.int .i64 fn) ∧ w'.cell? ⟨X, 3, none⟩ = some (.slice pb nb cb) ∧ w'.cell? ⟨X, 4, none⟩ = some (.slice pk nk ck))) (by kernel_rfl) (HKX.out _ (by first | exact HM2.out | exact HM2.out.drew | exact HM1.out | exact HM1.out.drew | exact HM0.out | exact HM0.out.drew)) (fun hHeld => ?_)
          refine tH 0 ?_
          (try simp only [Act.put, pT])
          refine tH 1 ?_
          (try simp only [Act.put, pT])
          refine tH 2 ?_
          (try simp only [Act.put, pT])
          refine tH 4 ?_
          (try simp only [Act.put, pT])
          refine tH 5 ?_
          (try simp only [Act.put, pT])
          refine tH 6 ?_
          (try simp only [Act.put, pT])
          refine wpAnyH_ready (rs := [3]) (by kernel_rfl) (by simp) ?_
          refine AllReadyH.cons (i := 3) rfl (fun K hK => ?_) AllReadyH.nil
          (try dsimp (config := { proj := false }) only [g0, g1, g2])
          go_simp
          (first | refine (twoAppend (HT0.out) pb nb cb ob (HRE.out _ (by first | exact HMX.out | exact HMX.out.drew)) (fun k (hk : k < w.heap.size) => ⟨fun hg => absurd hg.1 (Nat.not_le.2 hk), Nat.lt_of_lt_of_le hk HMX.out.size⟩) hbc).mono ?_ | refine (twoAppend (HT0.out.modNil (Mod.refl _ _).drew) pb nb cb ob (HRE.out _ (by first | exact HMX.out | exact HMX.out.drew)) (fun k (hk : k < w.heap.size) => ⟨fun hg => absurd hg.1 (Nat.not_le.2 hk), Nat.lt_of_lt_of_le hk HMX.out.size⟩) hbc).mono ?_)
          rintro e wz1 ⟨rfl, htw, hmw⟩
          have HM1 : Hid (Mod (fun k => w.heap.size ≤ k ∧ k ≠ X) wx wz1) := Lib.hid (by first | exact HM0.out.trans hmw (fun _ _ h => h) | exact HM0.out.drew.trans hmw (fun _ _ h => h))
          have HT1 := Lib.hid (htw.mono (H := (fun k => w.heap.size ≤ k ∧ k ≠ X)) (fun k _ h => by
            rcases h with h | h
            · exact h
            · have hx : X < k := Nat.lt_of_lt_of_le HXS.out (Nat.le_trans HM0.out.size h)
              exact ⟨Nat.le_of_lt (Nat.lt_of_le_of_lt HXw.out hx), fun e => by rw [e] at hx; exact Nat.lt_irrefl _ hx⟩))
          clear htw hmw
          refine hK.out _ _ (HKX.out _ (by first | exact HM2.out | exact HM2.out.drew | exact HM1.out | exact HM1.out.drew | exact HM0.out | exact HM0.out.drew)) (fun hHeld => ?_)
          clear hK K
          (try simp only [Act.put, pT])
          refine wpAnyH_ready (rs := [7]) (by kernel_rfl) (by simp) ?_
          refine AllReadyH.cons (i := 7) rfl (fun K hK => ?_) AllReadyH.nil
          (try dsimp (config := { proj := false }) only [g0, g1, g2])
          go_simp
          (first | refine (twoRefAppend (HT1.out) pb nb cb ob (HRE.out _ (by first | exact (HMX.out.new HM1.out (fun k h => h.1)) | exact (HMX.out.new HM1.out (fun k h => h.1)).drew)) (fun k (hk : k < w.heap.size) => ⟨fun hg => absurd hg.1 (Nat.not_le.2 hk), Nat.lt_of_lt_of_le hk (HMX.out.new HM1.out (fun k h => h.1)).size⟩) hbc hbm).mono ?_ | refine (twoRefAppend (HT1.out.modNil (Mod.refl _ _).drew) pb nb cb ob (HRE.out _ (by first | exact (HMX.out.new HM1.out (fun k h => h.1)) | exact (HMX.out.new HM1.out (fun k h => h.1)).drew)) (fun k (hk : k < w.heap.size) => ⟨fun hg => absurd hg.1 (Nat.not_le.2 hk), Nat.lt_of_lt_of_le hk (HMX.out.new HM1.out (fun k h => h.1)).size⟩) hbc hbm).mono ?_)
          rintro e wz2 ⟨rfl, htw, hmw⟩
          have HM2 : Hid (Mod (fun k => w.heap.size ≤ k ∧ k ≠ X) wx wz2) := Lib.hid (by first | exact HM1.out.trans hmw (fun _ _ h => h) | exact HM1.out.drew.trans hmw (fun _ _ h => h))
          have HT2 := Lib.hid (htw.mono (H := (fun k => w.heap.size ≤ k ∧ k ≠ X)) (fun k _ h => by
            rcases h with h | h
            · exact h
            · have hx : X < k := Nat.lt_of_lt_of_le HXS.out (Nat.le_trans HM1.out.size h)
              exact ⟨Nat.le_of_lt (Nat.lt_of_le_of_lt HXw.out hx), fun e => by rw [e] at hx; exact Nat.lt_irrefl _ hx⟩))
          clear htw hmw
          refine hK.out _ _ (HKX.out _ (by first | exact HM2.out | exact HM2.out.drew | exact HM1.out | exact HM1.out.drew | exact HM0.out | exact HM0.out.drew)) (fun hHeld => ?_)
          clear hK K
          (try simp only [Act.put, pT])
          refine tH 8 ?_
          (try simp only [Act.put, pT])
          refine tH 9 ?_
          (try simp only [Act.put, pT])
          refine wpAnyH_done (by kernel_rfl) ?_ _
          go_wp2_with fail
          go_meet
          exact ⟨_, _, _, _, rfl, rfl, rfl, Lib.hid (HT2.out.mono (fun k hk h => ⟨h.1, hk⟩)), Lib.hid (by rw [appends_len]; exact HLN.out), Lib.hid (HMX.out.new HM2.out (fun k h => h.1))⟩
        · go_upto_region 22 with (fail)
          refine wp_region_held_drew (S := (fun w' => w'.cell? ⟨X, 1, none⟩ = some (.int .i64 oi) ∧ w'.cell? ⟨X, 2, none⟩ = some (.int .i64 fn) ∧ w'.cell? ⟨X, 3, none⟩ = some (.slice pb nb cb) ∧ w'.cell? ⟨X, 4, none⟩ = some (.slice pk nk ck))) (by kernel_rfl) (HKX.out _ (by first | exact HM2.out | exact HM2.out.drew | exact HM1.out | exact HM1.out.drew | exact HM0.out | exact HM0.out.drew)) (fun hHeld => ?_)
          refine tH 0 ?_
          (try simp only [Act.put, pT])
          refine tH 1 ?_
          (try simp only [Act.put, pT])
          refine tH 2 ?_
          (try simp only [Act.put, pT])
          refine tH 4 ?_
          (try simp only [Act.put, pT])
          refine tH 5 ?_
          (try simp only [Act.put, pT])
          refine tH 6 ?_
          (try simp only [Act.put, pT])
          refine wpAnyH_ready (rs := [3]) (by kernel_rfl) (by simp) ?_
          refine AllReadyH.cons (i := 3) rfl (fun K hK => ?_) AllReadyH.nil
          (try dsimp (config := { proj := false }) only [g0, g1, g2])
          go_simp
          (first | refine (twoCompact (HT0.out) pb nb cb ob (HRE.out _ (by first | exact HMX.out | exact HMX.out.drew)) (fun k (hk : k < w.heap.size) => ⟨fun hg => absurd hg.1 (Nat.not_le.2 hk), Nat.lt_of_lt_of_le hk HMX.out.size⟩) hbc).mono ?_ | refine (twoCompact (HT0.out.modNil (Mod.refl _ _).drew) pb nb cb ob (HRE.out _ (by first | exact HMX.out | exact HMX.out.drew)) (fun k (hk : k < w.heap.size) => ⟨fun hg => absurd hg.1 (Nat.not_le.2 hk), Nat.lt_of_lt_of_le hk HMX.out.size⟩) hbc).mono ?_)
          rintro e wz1 ⟨rfl, htw, hmw⟩
          have HM1 : Hid (Mod (fun k => w.heap.size ≤ k ∧ k ≠ X) wx wz1) := Lib.hid (by first | exact HM0.out.trans hmw (fun _ _ h => h) | exact HM0.out.drew.trans hmw (fun _ _ h => h))
          have HT1 := Lib.hid (htw.mono (H := (fun k => w.heap.size ≤ k ∧ k ≠ X)) (fun k _ h => by
            rcases h with h | h
            · exact h
            · have hx : X < k := Nat.lt_of_lt_of_le HXS.out (Nat.le_trans HM0.out.size h)
              exact ⟨Nat.le_of_lt (Nat.lt_of_le_of_lt HXw.out hx), fun e => by rw [e] at hx; exact Nat.lt_irrefl _ hx⟩))
          clear htw hmw
          refine hK.out _ _ (HKX.out _ (by first | exact HM2.out | exact HM2.out.drew | exact HM1.out | exact HM1.out.drew | exact HM0.out | exact HM0.out.drew)) (fun hHeld => ?_)
          clear hK K
          (try simp only [Act.put, pT])
          refine wpAnyH_ready (rs := [7]) (by kernel_rfl) (by simp) ?_
          refine AllReadyH.cons (i := 7) rfl (fun K hK => ?_) AllReadyH.nil
          (try dsimp (config := { proj := false }) only [g0, g1, g2])
          go_simp
          (first | refine (twoRefCompact (HT1.out) pb nb cb ob (HRE.out _ (by first | exact (HMX.out.new HM1.out (fun k h => h.1)) | exact (HMX.out.new HM1.out (fun k h => h.1)).drew)) (fun k (hk : k < w.heap.size) => ⟨fun hg => absurd hg.1 (Nat.not_le.2 hk), Nat.lt_of_lt_of_le hk (HMX.out.new HM1.out (fun k h => h.1)).size⟩) hbc hbm).mono ?_ | refine (twoRefCompact (HT1.out.modNil (Mod.refl _ _).drew) pb nb cb ob (HRE.out _ (by first | exact (HMX.out.new HM1.out (fun k h => h.1)) | exact (HMX.out.new HM1.out (fun k h => h.1)).drew)) (fun k (hk : k < w.heap.size) => ⟨fun hg => absurd hg.1 (Nat.not_le.2 hk), Nat.lt_of_lt_of_le hk (HMX.out.new HM1.out (fun k h => h.1)).size⟩) hbc hbm).mono ?_)
          rintro e wz2 ⟨rfl, htw, hmw⟩
          have HM2 : Hid (Mod (fun k => w.heap.size ≤ k ∧ k ≠ X) wx wz2) := Lib.hid (by first | exact HM1.out.trans hmw (fun _ _ h => h) | exact HM1.out.drew.trans hmw (fun _ _ h => h))
          have HT2 := Lib.hid (htw.mono (H := (fun k => w.heap.size ≤ k ∧ k ≠ X)) (fun k _ h => by
            rcases h with h | h
            · exact h
            · have hx : X < k := Nat.lt_of_lt_of_le HXS.out (Nat.le_trans HM1.out.size h)
              exact ⟨Nat.le_of_lt (Nat.lt_of_le_of_lt HXw.out hx), fun e => by rw [e] at hx; exact Nat.lt_irrefl _ hx⟩))
          clear htw hmw
          refine hK.out _ _ (HKX.out _ (by first | exact HM2.out | exact HM2.out.drew | exact HM1.out | exact HM1.out.drew | exact HM0.out | exact HM0.out.drew)) (fun hHeld => ?_)
          clear hK K
          (try simp only [Act.put, pT])
          refine tH 8 ?_
          (try simp only [Act.put, pT])
          refine tH 9 ?_
          (try simp only [Act.put, pT])
          refine wpAnyH_done (by kernel_rfl) ?_ _
          go_wp2_with fail
          go_meet
          exact ⟨_, _, _, _, rfl, rfl, rfl, Lib.hid (HT2.out.mono (fun k hk h => ⟨h.1, hk⟩)), Lib.hid (by rw [compacts_len]; exact HLN.out), Lib.hid (HMX.out.new HM2.out (fun k h => h.1))⟩
        · go_wp2_with fail
          (first | refine (twoOpen (HT0.out)).mono ?_ | refine (twoOpen (HT0.out.modNil (Mod.refl _ _).drew)).mono ?_)
          rintro e wz1 ⟨_, rfl, htw, hmw⟩
          have HM1 : Hid (Mod (fun k => w.heap.size ≤ k ∧ k ≠ X) wx wz1) := Lib.hid (by first | exact HM0.out.trans hmw (fun _ _ h => h) | exact HM0.out.drew.trans hmw (fun _ _ h => h))
          have HT1 := Lib.hid (htw.mono (H := (fun k => w.heap.size ≤ k ∧ k ≠ X)) (fun k _ h => by
            rcases h with h | h
            · exact h
            · have hx : X < k := Nat.lt_of_lt_of_le HXS.out (Nat.le_trans HM0.out.size h)
              exact ⟨Nat.le_of_lt (Nat.lt_of_le_of_lt HXw.out hx), fun e => by rw [e] at hx; exact Nat.lt_irrefl _ hx⟩))
          clear htw hmw
          go_wp2_with fail
          (first | refine (twoRefOpen (HT1.out)).mono ?_ | refine (twoRefOpen (HT1.out.modNil (Mod.refl _ _).drew)).mono ?_)
          rintro e wz2 ⟨_, rfl, htw, hmw⟩
          have HM2 : Hid (Mod (fun k => w.heap.size ≤ k ∧ k ≠ X) wx wz2) := Lib.hid (by first | exact HM1.out.trans hmw (fun _ _ h => h) | exact HM1.out.drew.trans hmw (fun _ _ h => h))
          have HT2 := Lib.hid (htw.mono (H := (fun k => w.heap.size ≤ k ∧ k ≠ X)) (fun k _ h => by
            rcases h with h | h
            · exact h
            · have hx : X < k := Nat.lt_of_lt_of_le HXS.out (Nat.le_trans HM1.out.size h)
              exact ⟨Nat.le_of_lt (Nat.lt_of_le_of_lt HXw.out hx), fun e => by rw [e] at hx; exact Nat.lt_irrefl _ hx⟩))
          clear htw hmw
          go_wp2_with fail
          go_meet
          exact ⟨_, _, _, _, rfl, rfl, rfl, Lib.hid (HT2.out.mono (fun k hk h => ⟨h.1, hk⟩)), Lib.hid HLN.out, Lib.hid (HMX.out.new HM2.out (fun k h => h.1))⟩
        · have uo := (HKX.out _ HM0.out)
          obtain ⟨uo1, uo2, uo3, uo4⟩ := uo
          go_wp2_with fail
          (first | refine (twoCrash (HT0.out) (.slice pk nk ck) keep (HRK.out _ (by first | exact HMX.out | exact HMX.out.drew)) (fun k (hk : k < w.heap.size) => ⟨fun hg => absurd hg.1 (Nat.not_le.2 hk), Nat.lt_of_lt_of_le hk HMX.out.size⟩) hkl (crash_lasts _ _)).mono ?_ | refine (twoCrash (HT0.out.modNil (Mod.refl _ _).drew) (.slice pk nk ck) keep (HRK.out _ (by first | exact HMX.out | exact HMX.out.drew)) (fun k (hk : k < w.heap.size) => ⟨fun hg => absurd hg.1 (Nat.not_le.2 hk), Nat.lt_of_lt_of_le hk HMX.out.size⟩) hkl (crash_lasts _ _)).mono ?_)
          rintro e wz1 ⟨rfl, htw, hmw⟩
          have HM1 : Hid (Mod (fun k => w.heap.size ≤ k ∧ k ≠ X) wx wz1) := Lib.hid (by first | exact HM0.out.trans hmw (fun _ _ h => h) | exact HM0.out.drew.trans hmw (fun _ _ h => h))
          have HT1 := Lib.hid (htw.mono (H := (fun k => w.heap.size ≤ k ∧ k ≠ X)) (fun k _ h => by
            rcases h with h | h
            · exact h
            · have hx : X < k := Nat.lt_of_lt_of_le HXS.out (Nat.le_trans HM0.out.size h)
              exact ⟨Nat.le_of_lt (Nat.lt_of_le_of_lt HXw.out hx), fun e => by rw [e] at hx; exact Nat.lt_irrefl _ hx⟩))
          clear htw hmw
          clear uo1 uo2 uo3 uo4
          have uo := (HKX.out _ HM1.out)
          obtain ⟨uo1, uo2, uo3, uo4⟩ := uo
          go_wp2_with fail
          (first | refine (twoRefCrash (HT1.out) (.slice pk nk ck) keep (HRK.out _ (by first | exact (HMX.out.new HM1.out (fun k h => h.1)) | exact (HMX.out.new HM1.out (fun k h => h.1)).drew)) (fun k (hk : k < w.heap.size) => ⟨fun hg => absurd hg.1 (Nat.not_le.2 hk), Nat.lt_of_lt_of_le hk (HMX.out.new HM1.out (fun k h => h.1)).size⟩) hkl (crash_lasts _ _)).mono ?_ | refine (twoRefCrash (HT1.out.modNil (Mod.refl _ _).drew) (.slice pk nk ck) keep (HRK.out _ (by first | exact (HMX.out.new HM1.out (fun k h => h.1)) | exact (HMX.out.new HM1.out (fun k h => h.1)).drew)) (fun k (hk : k < w.heap.size) => ⟨fun hg => absurd hg.1 (Nat.not_le.2 hk), Nat.lt_of_lt_of_le hk (HMX.out.new HM1.out (fun k h => h.1)).size⟩) hkl (crash_lasts _ _)).mono ?_)
          rintro e wz2 ⟨rfl, htw, hmw⟩
          have HM2 : Hid (Mod (fun k => w.heap.size ≤ k ∧ k ≠ X) wx wz2) := Lib.hid (by first | exact HM1.out.trans hmw (fun _ _ h => h) | exact HM1.out.drew.trans hmw (fun _ _ h => h))
          have HT2 := Lib.hid (htw.mono (H := (fun k => w.heap.size ≤ k ∧ k ≠ X)) (fun k _ h => by
            rcases h with h | h
            · exact h
            · have hx : X < k := Nat.lt_of_lt_of_le HXS.out (Nat.le_trans HM1.out.size h)
              exact ⟨Nat.le_of_lt (Nat.lt_of_le_of_lt HXw.out hx), fun e => by rw [e] at hx; exact Nat.lt_irrefl _ hx⟩))
          clear htw hmw
          clear uo1 uo2 uo3 uo4
          go_wp2_with fail
          (first | refine (twoOpen (HT2.out)).mono ?_ | refine (twoOpen (HT2.out.modNil (Mod.refl _ _).drew)).mono ?_)
          rintro e wz3 ⟨_, rfl, htw, hmw⟩
          have HM3 : Hid (Mod (fun k => w.heap.size ≤ k ∧ k ≠ X) wx wz3) := Lib.hid (by first | exact HM2.out.trans hmw (fun _ _ h => h) | exact HM2.out.drew.trans hmw (fun _ _ h => h))
          have HT3 := Lib.hid (htw.mono (H := (fun k => w.heap.size ≤ k ∧ k ≠ X)) (fun k _ h => by
            rcases h with h | h
            · exact h
            · have hx : X < k := Nat.lt_of_lt_of_le HXS.out (Nat.le_trans HM2.out.size h)
              exact ⟨Nat.le_of_lt (Nat.lt_of_le_of_lt HXw.out hx), fun e => by rw [e] at hx; exact Nat.lt_irrefl _ hx⟩))
          clear htw hmw
          go_wp2_with fail
          (first | refine (twoRefOpen (HT3.out)).mono ?_ | refine (twoRefOpen (HT3.out.modNil (Mod.refl _ _).drew)).mono ?_)
          rintro e wz4 ⟨_, rfl, htw, hmw⟩
          have HM4 : Hid (Mod (fun k => w.heap.size ≤ k ∧ k ≠ X) wx wz4) := Lib.hid (by first | exact HM3.out.trans hmw (fun _ _ h => h) | exact HM3.out.drew.trans hmw (fun _ _ h => h))
          have HT4 := Lib.hid (htw.mono (H := (fun k => w.heap.size ≤ k ∧ k ≠ X)) (fun k _ h => by
            rcases h with h | h
            · exact h
            · have hx : X < k := Nat.lt_of_lt_of_le HXS.out (Nat.le_trans HM3.out.size h)
              exact ⟨Nat.le_of_lt (Nat.lt_of_le_of_lt HXw.out hx), fun e => by rw [e] at hx; exact Nat.lt_irrefl _ hx⟩))
          clear htw hmw
          go_wp2_with fail
          go_meet
          exact ⟨_, _, _, _, rfl, rfl, rfl, Lib.hid (HT4.out.mono (fun k hk h => ⟨h.1, hk⟩)), Lib.hid (by rw [crash_lasts]; exact HLN.out), Lib.hid (HMX.out.new HM4.out (fun k h => h.1))⟩
        · have uo := (HKX.out _ HM0.out)
          obtain ⟨uo1, uo2, uo3, uo4⟩ := uo
          go_wp2_with fail
          (first | refine (twoFuse (HT0.out) fn hfn2).mono ?_ | refine (twoFuse (HT0.out.modNil (Mod.refl _ _).drew) fn hfn2).mono ?_)
          rintro e wz1 ⟨rfl, htw, hmw⟩
          have HM1 : Hid (Mod (fun k => w.heap.size ≤ k ∧ k ≠ X) wx wz1) := Lib.hid (by first | exact HM0.out.trans hmw (fun _ _ h => h) | exact HM0.out.drew.trans hmw (fun _ _ h => h))
          have HT1 := Lib.hid (htw.mono (H := (fun k => w.heap.size ≤ k ∧ k ≠ X)) (fun k _ h => by
            rcases h with h | h
            · exact h
            · have hx : X < k := Nat.lt_of_lt_of_le HXS.out (Nat.le_trans HM0.out.size h)
              exact ⟨Nat.le_of_lt (Nat.lt_of_le_of_lt HXw.out hx), fun e => by rw [e] at hx; exact Nat.lt_irrefl _ hx⟩))
          clear htw hmw
          clear uo1 uo2 uo3 uo4
          have uo := (HKX.out _ HM1.out)
          obtain ⟨uo1, uo2, uo3, uo4⟩ := uo
          go_wp2_with fail
          (first | refine (twoRefFuse (HT1.out) fn hfn2).mono ?_ | refine (twoRefFuse (HT1.out.modNil (Mod.refl _ _).drew) fn hfn2).mono ?_)
          rintro e wz2 ⟨rfl, htw, hmw⟩
          have HM2 : Hid (Mod (fun k => w.heap.size ≤ k ∧ k ≠ X) wx wz2) := Lib.hid (by first | exact HM1.out.trans hmw (fun _ _ h => h) | exact HM1.out.drew.trans hmw (fun _ _ h => h))
          have HT2 := Lib.hid (htw.mono (H := (fun k => w.heap.size ≤ k ∧ k ≠ X)) (fun k _ h => by
            rcases h with h | h
            · exact h
            · have hx : X < k := Nat.lt_of_lt_of_le HXS.out (Nat.le_trans HM1.out.size h)
              exact ⟨Nat.le_of_lt (Nat.lt_of_le_of_lt HXw.out hx), fun e => by rw [e] at hx; exact Nat.lt_irrefl _ hx⟩))
          clear htw hmw
          clear uo1 uo2 uo3 uo4
          go_wp2_with fail
          go_meet
          exact ⟨_, _, _, _, rfl, rfl, rfl, Lib.hid (HT2.out.mono (fun k hk h => ⟨h.1, hk⟩)), Lib.hid HLN.out, Lib.hid (HMX.out.new HM2.out (fun k h => h.1))⟩
        · go_upto_region 33 with (fail)
          refine wp_region_held_drew (S := (fun w' => w'.cell? ⟨X, 1, none⟩ = some (.int .i64 oi) ∧ w'.cell? ⟨X, 2, none⟩ = some (.int .i64 fn) ∧ w'.cell? ⟨X, 3, none⟩ = some (.slice pb nb cb) ∧ w'.cell? ⟨X, 4, none⟩ = some (.slice pk nk ck))) (by kernel_rfl) (HKX.out _ (by first | exact HM2.out | exact HM1s.out | exact HM1.out | exact HM0s.out | exact HM0.out | exact HM0.out.drew)) (fun hHeld => ?_)
          refine tH 0 ?_
          (try simp only [Act.put, pT])
          refine tH 1 ?_
          (try simp only [Act.put, pT])
          refine tH 2 ?_
          (try simp only [Act.put, pT])
          refine tH 3 ?_
          (try simp only [Act.put, pT])
          refine tH 4 ?_
          (try simp only [Act.put, pT])
          refine tH 7 ?_
          (try simp only [Act.put, pT])
          refine tH 8 ?_
          (try simp only [Act.put, pT])
          refine tH 9 ?_
          (try simp only [Act.put, pT])
          refine tH 10 ?_
          (try simp only [Act.put, pT])
          refine tH 11 ?_
          (try simp only [Act.put, pT])
          refine wpAnyH_ready (rs := [5]) (by kernel_rfl) (by simp) ?_
          refine AllReadyH.cons (i := 5) rfl (fun K hK => ?_) AllReadyH.nil
          (try dsimp (config := { proj := false }) only [g0, g1, g2])
          go_simp
          (first | refine (lawSector _ pb nb cb ob _ (HRE.out _ HMX.out)).mono ?_ | refine (lawSector _ pb nb cb ob _ (HRE.out _ HMX.out.drew)).mono ?_)
          rintro e ws0 ⟨rfl, hrw, hms, hsz⟩
          have HM0s : Hid (Mod (fun k => w.heap.size ≤ k ∧ k ≠ X) wx ws0) := Lib.hid (by first | exact HM0.out.trans hms.ofNil (fun _ _ h => h) | exact HM0.out.drew.trans hms.ofNil (fun _ _ h => h))
          have HT0s : Hid (Two (fun k => (fun k => w.heap.size ≤ k ∧ k ≠ X) k ∧ k ≠ wx.heap.size) ws0 jb tb db bl bm s D xb yb s D) := Lib.hid (by first | exact (HT0.out.mono (H := fun k => (fun k => w.heap.size ≤ k ∧ k ≠ X) k ∧ k ≠ wx.heap.size) (fun k hk h => ⟨h, Nat.ne_of_lt hk⟩)).modNil hms | exact ((HT0.out.mono (H := fun k => (fun k => w.heap.size ≤ k ∧ k ≠ X) k ∧ k ≠ wx.heap.size) (fun k hk h => ⟨h, Nat.ne_of_lt hk⟩)).modNil (Mod.refl _ _).drew).modNil hms)
          have HRW0 := Lib.hid hrw
          have HSZ0 := Lib.hid hsz
          clear hrw hms hsz
          refine hK.out _ _ (HKX.out _ (by first | exact HM2.out | exact HM1s.out | exact HM1.out | exact HM0s.out | exact HM0.out | exact HM0.out.drew)) (fun hHeld => ?_)
          clear hK K
          (try simp only [Act.put, pT])
          refine wpAnyH_ready (rs := [6]) (by kernel_rfl) (by simp) ?_
          refine AllReadyH.cons (i := 6) rfl (fun K hK => ?_) AllReadyH.nil
          (try dsimp (config := { proj := false }) only [g0, g1, g2])
          go_simp
          refine (twoWrite HT0s.out oi _ (sect64 ob) HRW0.out (fun k hk => ⟨fun hg => hg.2 hk, by rw [hk]; have h := HSZ0.out; exact Nat.lt_of_lt_of_le (Nat.lt_succ_self _) (Nat.le_of_eq h.symm)⟩) (by rw [sect64_length]; decide)).mono ?_
          rintro e wz1 ⟨rfl, htw, hmw⟩
          have HM1 : Hid (Mod (fun k => w.heap.size ≤ k ∧ k ≠ X) wx wz1) := Lib.hid (HM0s.out.trans hmw (fun _ _ h => h.1))
          have HT1 := Lib.hid (htw.mono (H := (fun k => w.heap.size ≤ k ∧ k ≠ X)) (fun k _ h => by
            rcases h with h | h
            · exact h.1
            · have hx : X < k := Nat.lt_of_lt_of_le HXS.out (Nat.le_trans HM0s.out.size h)
              exact ⟨Nat.le_of_lt (Nat.lt_of_le_of_lt HXw.out hx), fun e => by rw [e] at hx; exact Nat.lt_irrefl _ hx⟩))
          clear htw hmw
          refine hK.out _ _ (HKX.out _ (by first | exact HM2.out | exact HM1s.out | exact HM1.out | exact HM0s.out | exact HM0.out | exact HM0.out.drew)) (fun hHeld => ?_)
          clear hK K
          (try simp only [Act.put, pT])
          refine wpAnyH_ready (rs := [12]) (by kernel_rfl) (by simp) ?_
          refine AllReadyH.cons (i := 12) rfl (fun K hK => ?_) AllReadyH.nil
          (try dsimp (config := { proj := false }) only [g0, g1, g2])
          go_simp
          (first | refine (lawSector _ pb nb cb ob _ (HRE.out _ (HMX.out.new HM1.out (fun k h => h.1)))).mono ?_ | refine (lawSector _ pb nb cb ob _ (HRE.out _ (HMX.out.new HM1.out (fun k h => h.1)).drew)).mono ?_)
          rintro e ws1 ⟨rfl, hrw, hms, hsz⟩
          have HM1s : Hid (Mod (fun k => w.heap.size ≤ k ∧ k ≠ X) wx ws1) := Lib.hid (by first | exact HM1.out.trans hms.ofNil (fun _ _ h => h) | exact HM1.out.drew.trans hms.ofNil (fun _ _ h => h))
          have HT1s : Hid (Two (fun k => (fun k => w.heap.size ≤ k ∧ k ≠ X) k ∧ k ≠ wz1.heap.size) ws1 jb tb db bl bm s (D.write oi (sect64 ob)).1 xb yb s D) := Lib.hid (by first | exact (HT1.out.mono (H := fun k => (fun k => w.heap.size ≤ k ∧ k ≠ X) k ∧ k ≠ wz1.heap.size) (fun k hk h => ⟨h, Nat.ne_of_lt hk⟩)).modNil hms | exact ((HT1.out.mono (H := fun k => (fun k => w.heap.size ≤ k ∧ k ≠ X) k ∧ k ≠ wz1.heap.size) (fun k hk h => ⟨h, Nat.ne_of_lt hk⟩)).modNil (Mod.refl _ _).drew).modNil hms)
          have HRW1 := Lib.hid hrw
          have HSZ1 := Lib.hid hsz
          clear hrw hms hsz
          refine hK.out _ _ (HKX.out _ (by first | exact HM2.out | exact HM1s.out | exact HM1.out | exact HM0s.out | exact HM0.out | exact HM0.out.drew)) (fun hHeld => ?_)
          clear hK K
          (try simp only [Act.put, pT])
          refine wpAnyH_ready (rs := [13]) (by kernel_rfl) (by simp) ?_
          refine AllReadyH.cons (i := 13) rfl (fun K hK => ?_) AllReadyH.nil
          (try dsimp (config := { proj := false }) only [g0, g1, g2])
          go_simp
          refine (twoRefWrite HT1s.out oi _ (sect64 ob) HRW1.out (fun k hk => ⟨fun hg => hg.2 hk, by rw [hk]; have h := HSZ1.out; exact Nat.lt_of_lt_of_le (Nat.lt_succ_self _) (Nat.le_of_eq h.symm)⟩) (by rw [sect64_length]; decide)).mono ?_
          rintro e wz2 ⟨rfl, htw, hmw⟩
          have HM2 : Hid (Mod (fun k => w.heap.size ≤ k ∧ k ≠ X) wx wz2) := Lib.hid (HM1s.out.trans hmw (fun _ _ h => h.1))
          have HT2 := Lib.hid (htw.mono (H := (fun k => w.heap.size ≤ k ∧ k ≠ X)) (fun k _ h => by
            rcases h with h | h
            · exact h.1
            · have hx : X < k := Nat.lt_of_lt_of_le HXS.out (Nat.le_trans HM1s.out.size h)
              exact ⟨Nat.le_of_lt (Nat.lt_of_le_of_lt HXw.out hx), fun e => by rw [e] at hx; exact Nat.lt_irrefl _ hx⟩))
          clear htw hmw
          refine hK.out _ _ (HKX.out _ (by first | exact HM2.out | exact HM1s.out | exact HM1.out | exact HM0s.out | exact HM0.out | exact HM0.out.drew)) (fun hHeld => ?_)
          clear hK K
          (try simp only [Act.put, pT])
          refine tH 14 ?_
          (try simp only [Act.put, pT])
          refine tH 15 ?_
          (try simp only [Act.put, pT])
          refine wpAnyH_done (by kernel_rfl) ?_ _
          go_wp2_with fail
          go_meet
          exact ⟨_, _, _, _, rfl, rfl, rfl, Lib.hid (HT2.out.mono (fun k hk h => ⟨h.1, hk⟩)), Lib.hid (by rw [DS.write_len]; exact HLN.out), Lib.hid (HMX.out.new HM2.out (fun k h => h.1))⟩
        · have p0 : (kind == 0) = false := by simpa using q0
          have p1 : (kind == 1) = false := by simpa using q1
          have p2 : (kind == 2) = false := by simpa using q2
          have p3 : (kind == 3) = false := by simpa using q3
          have p4 : (kind == 4) = false := by simpa using q4
          have p5 : (kind == 5) = false := by simpa using q5
          go_wp2_with fail
          go_meet
          exact ⟨_, _, _, _, rfl, rfl, rfl, Lib.hid (HT0.out.mono (fun k hk h => ⟨h.1, hk⟩)), Lib.hid HLN.out, Lib.hid HMX.out⟩
      case rest =>
        clear u0 HKX HM0 HT0 HMX HRE HRK HX HXw HXS hkl hfn2 hobl hbc hbm
        obtain ⟨jb', xb', s', D', rfl, rfl, rfl, HTC, HLC, HMC⟩ := hcut
        have HSM := Lib.hid (fun W (m : Mod nil wc W) => twoSame (HTC.out.modNil m))
        obtain ⟨P9, R9, a1, a2, -⟩ := HTC.out.ex
        obtain ⟨S9, C9, -, b2, -⟩ := a1.ex
        obtain ⟨S8, B8, -, b3, -⟩ := a2
        obtain ⟨P1, P2, P3, v1, v2, v3, hda, -, -⟩ := b3
        have hyl := heap_lt hda.obj
        have hy4 : wc.cell? ⟨yb, 4, none⟩ = some (.bool D'.down) := cell_of hda.obj 4
        have HDN := Lib.hid (fun W (m : Mod nil wc W) => diskDown db bl bm C9 D' W (b2.modNil m))
        obtain ⟨dn, hdn⟩ : ∃ x, D'.down = x := ⟨_, rfl⟩
        rw [hdn] at hy4 HDN
        clear a1 b2 hda hdn
        cases dn with
        | true =>
          have HY4 : Hid (∀ W, Mod nil wc W → (fun w' => w'.cell? ⟨yb, 4, none⟩ = some (.bool true)) W) := Lib.hid (fun W m => cell_kept hy4 m hyl (not_nil _))
          clear hy4
          go_upto_region 34 with (fail)
          refine wp_region_held_drew (S := (fun w' => w'.cell? ⟨yb, 4, none⟩ = some (.bool true))) (by kernel_rfl) (HY4.out _ (by (repeat (first | assumption | exact Mod.refl _ _ | refine Mod.drew ?_)))) (fun hHeld => ?_)
          refine tH 0 ?_
          (try simp only [Act.put, pT])
          refine tH 1 ?_
          (try simp only [Act.put, pT])
          refine tH 2 ?_
          (try simp only [Act.put, pT])
          refine tH 3 ?_
          (try simp only [Act.put, pT])
          refine tH 4 ?_
          (try simp only [Act.put, pT])
          refine tH 5 ?_
          (try simp only [Act.put, pT])
          refine tH 6 ?_
          (try simp only [Act.put, pT])
          refine tH 7 ?_
          (try simp only [Act.put, pT])
          refine tH 9 ?_
          (try simp only [Act.put, pT])
          refine tH 10 ?_
          (try simp only [Act.put, pT])
          refine tH 11 ?_
          (try simp only [Act.put, pT])
          refine tH 12 ?_
          (try simp only [Act.put, pT])
          refine wpAnyH_ready (rs := [8]) (by kernel_rfl) (by simp) ?_
          refine AllReadyH.cons (i := 8) rfl (fun K hK => ?_) AllReadyH.nil
          (try dsimp (config := { proj := false }) only [g0, g1, g2])
          go_simp
          refine (HDN.out _ (by (repeat (first | assumption | exact Mod.refl _ _ | refine Mod.drew ?_)))).mono ?_
          rintro e wd ⟨rfl, rfl⟩
          refine hK.out _ _ (HY4.out _ (by (repeat (first | assumption | exact Mod.refl _ _ | refine Mod.drew ?_)))) (fun hHeld => ?_)
          clear hK K
          (try simp only [Act.put, pT])
          refine tH 13 ?_
          (try simp only [Act.put, pT])
          refine tH 14 ?_
          (try simp only [Act.put, pT])
          refine tH 15 ?_
          (try simp only [Act.put, pT])
          refine tH 16 ?_
          (try simp only [Act.put, pT])
          refine wpAnyH_ready (rs := [17]) (by kernel_rfl) (by simp) ?_
          refine AllReadyH.cons (i := 17) rfl (fun K hK => ?_) AllReadyH.nil
          (try dsimp (config := { proj := false }) only [g0, g1, g2])
          go_simp
          refine (HDN.out _ (by (repeat (first | assumption | exact Mod.refl _ _ | refine Mod.drew ?_)))).mono ?_
          rintro e wd ⟨rfl, rfl⟩
          refine hK.out _ _ (HY4.out _ (by (repeat (first | assumption | exact Mod.refl _ _ | refine Mod.drew ?_)))) (fun hHeld => ?_)
          clear hK K
          (try simp only [Act.put, pT])
          refine tH 18 ?_
          (try simp only [Act.put, pT])
          refine tH 19 ?_
          (try simp only [Act.put, pT])
          refine wpAnyH_take (i := 20) (v := undef) rfl (by kernel_rfl) (by kernel_rfl) (by kernel_rfl) (fun _ _ _ h => h) (Or.inr ⟨by kernel_rfl, rfl⟩) (by assumption) ?_
          (try simp only [Act.put, pT])
          refine wpAnyH_take (i := 21) (v := undef) rfl (by kernel_rfl) (by kernel_rfl) (by kernel_rfl) (fun _ _ _ h => h) (Or.inr ⟨by kernel_rfl, rfl⟩) (by assumption) ?_
          (try simp only [Act.put, pT])
          refine wpAnyH_take (i := 22) (v := undef) rfl (by kernel_rfl) (by kernel_rfl) (by kernel_rfl) (fun _ _ _ h => h) (Or.inr ⟨by kernel_rfl, rfl⟩) (by assumption) ?_
          (try simp only [Act.put, pT])
          refine wpAnyH_take (i := 23) (v := undef) rfl (by kernel_rfl) (by kernel_rfl) (by kernel_rfl) (fun _ _ _ h => h) (Or.inr ⟨by kernel_rfl, rfl⟩) (by assumption) ?_
          (try simp only [Act.put, pT])
          refine tH 24 ?_
          (try simp only [Act.put, pT])
          refine tH 25 ?_
          (try simp only [Act.put, pT])
          refine wpAnyH_done (by kernel_rfl) ?_ _
          have HT9 := Lib.hid ((HTC.out.modNil (Mod.refl nil wc).drew).mono (H := fun k => w.heap.size ≤ k ∧ k < wc.drew.heap.size) (fun k hk h => ⟨h.1, hk⟩))
          have HM9 := Lib.hid (HMC.out.thenNil (Mod.refl nil wc).drew)
          go_wp2_with fail
          exact ⟨⟨i + 1, jb', xb', s', D', by omega, by go_num, rfl, rfl, HT9, HLC, HM9⟩, by simp [intOf]; omega⟩
        | false =>
          have HY4 : Hid (∀ W, Mod nil wc W → (fun w' => w'.cell? ⟨yb, 4, none⟩ = some (.bool false)) W) := Lib.hid (fun W m => cell_kept hy4 m hyl (not_nil _))
          clear hy4
          go_upto_region 34 with (fail)
          refine wp_region_held_drew (S := (fun w' => w'.cell? ⟨yb, 4, none⟩ = some (.bool false))) (by kernel_rfl) (HY4.out _ (by (repeat (first | assumption | exact Mod.refl _ _ | refine Mod.drew ?_)))) (fun hHeld => ?_)
          refine tH 0 ?_
          (try simp only [Act.put, pT])
          refine tH 1 ?_
          (try simp only [Act.put, pT])
          refine tH 2 ?_
          (try simp only [Act.put, pT])
          refine tH 3 ?_
          (try simp only [Act.put, pT])
          refine tH 4 ?_
          (try simp only [Act.put, pT])
          refine tH 5 ?_
          (try simp only [Act.put, pT])
          refine tH 6 ?_
          (try simp only [Act.put, pT])
          refine tH 7 ?_
          (try simp only [Act.put, pT])
          refine tH 9 ?_
          (try simp only [Act.put, pT])
          refine tH 10 ?_
          (try simp only [Act.put, pT])
          refine tH 11 ?_
          (try simp only [Act.put, pT])
          refine tH 12 ?_
          (try simp only [Act.put, pT])
          refine wpAnyH_ready (rs := [8]) (by kernel_rfl) (by simp) ?_
          refine AllReadyH.cons (i := 8) rfl (fun K hK => ?_) AllReadyH.nil
          (try dsimp (config := { proj := false }) only [g0, g1, g2])
          go_simp
          refine (HDN.out _ (by (repeat (first | assumption | exact Mod.refl _ _ | refine Mod.drew ?_)))).mono ?_
          rintro e wd ⟨rfl, rfl⟩
          refine hK.out _ _ (HY4.out _ (by (repeat (first | assumption | exact Mod.refl _ _ | refine Mod.drew ?_)))) (fun hHeld => ?_)
          clear hK K
          (try simp only [Act.put, pT])
          refine tH 13 ?_
          (try simp only [Act.put, pT])
          refine tH 14 ?_
          (try simp only [Act.put, pT])
          refine tH 15 ?_
          (try simp only [Act.put, pT])
          refine tH 16 ?_
          (try simp only [Act.put, pT])
          refine wpAnyH_ready (rs := [17]) (by kernel_rfl) (by simp) ?_
          refine AllReadyH.cons (i := 17) rfl (fun K hK => ?_) AllReadyH.nil
          (try dsimp (config := { proj := false }) only [g0, g1, g2])
          go_simp
          refine (HDN.out _ (by (repeat (first | assumption | exact Mod.refl _ _ | refine Mod.drew ?_)))).mono ?_
          rintro e wd ⟨rfl, rfl⟩
          refine hK.out _ _ (HY4.out _ (by (repeat (first | assumption | exact Mod.refl _ _ | refine Mod.drew ?_)))) (fun hHeld => ?_)
          clear hK K
          (try simp only [Act.put, pT])
          refine tH 18 ?_
          (try simp only [Act.put, pT])
          refine tH 19 ?_
          (try simp only [Act.put, pT])
          refine tH 20 ?_
          (try simp only [Act.put, pT])
          refine tH 21 ?_
          (try simp only [Act.put, pT])
          refine wpAnyH_ready (rs := [22]) (by kernel_rfl) (by simp) ?_
          refine AllReadyH.cons (i := 22) rfl (fun K hK => ?_) AllReadyH.nil
          (try dsimp (config := { proj := false }) only [g0, g1, g2])
          go_simp
          refine (HSM.out _ (by (repeat (first | assumption | exact Mod.refl _ _ | refine Mod.drew ?_)))).mono ?_
          rintro e wsm ⟨rfl, hmsm0⟩
          have hmsm : Mod nil wc wsm := (show Mod nil wc _ from by (repeat (first | assumption | exact Mod.refl _ _ | refine Mod.drew ?_))).thenNil hmsm0
          refine hK.out _ _ (HY4.out _ (by (repeat (first | assumption | exact Mod.refl _ _ | refine Mod.drew ?_)))) (fun hHeld => ?_)
          clear hK K
          (try simp only [Act.put, pT])
          refine tH 23 ?_
          (try simp only [Act.put, pT])
          refine tH 24 ?_
          (try simp only [Act.put, pT])
          refine tH 25 ?_
          (try simp only [Act.put, pT])
          refine wpAnyH_done (by kernel_rfl) ?_ _
          have HT9 := Lib.hid ((HTC.out.modNil hmsm).mono (H := fun k => w.heap.size ≤ k ∧ k < wsm.heap.size) (fun k hk h => ⟨h.1, hk⟩))
          have HM9 := Lib.hid (HMC.out.thenNil hmsm)
          go_wp2_with fail
          exact ⟨⟨i + 1, jb', xb', s', D', by omega, by go_num, rfl, rfl, HT9, HLC, HM9⟩, by simp [intOf]; omega⟩
    · obtain rfl : i = len := by omega
      go_wp2_with fail
      refine (jFirst wr).mono ?_
      rintro e w2 ⟨rfl, hm2⟩
      have HE := Lib.hid (HPOST.out _ w2 ⟨rfl, HMW.out.thenNil hm2⟩)
      clear hm2
      go_wp2_with fail
      exact HE.out
set_option maxRecDepth 100000 in
theorem lawJPlays_bad (ps : Option Addr) (len cs : Nat) (n : Int) (l0 : List OpJ) (w : World) (hl : IsOpJs (· < w.heap.size) w (.slice ps len cs) l0) (hlm : len ≤ 9223372036854775807)
    (hbo : ∀ o ∈ l0, o.b.length ≤ maxLen ∧ o.keep.length ≤ maxLen) (h : n < 1 ∨ (1 ≤ n ∧ 200 < n) ∨ (1 ≤ n ∧ n ≤ 200 ∧ fewJ l0 = false)) :
    Calls Tryz.prog 4 #[.int .i64 n, .slice ps len cs] w fun e w' => e = .returned (.bool true) ∧ Mod nil w w' := by
  have HFEW := Lib.hid (fun W (m : Mod nil w W) => jFew ps len cs l0 W _ (hl.modNil m) hlm hbo)
  clear hl hbo
  rcases h with t1 | ⟨t1, t2⟩ | ⟨t1, t2, t3⟩
  · go_enter Tryz.func4, Tryz.ntmps4
    go_wp2_with fail
    refine (jFirst w).mono ?_
    rintro e w1 ⟨rfl, hm1⟩
    go_wp2_with fail
    refine (jFirst w1).mono ?_
    rintro e w2 ⟨rfl, hm2⟩
    go_wp2_with fail
    go_ret
    exact ⟨rfl, hm1.thenNil hm2⟩
  · go_enter Tryz.func4, Tryz.ntmps4
    go_wp2_with fail
    refine (jFirst w).mono ?_
    rintro e w1 ⟨rfl, hm1⟩
    go_wp2_with fail
    refine (jFirst w1).mono ?_
    rintro e w2 ⟨rfl, hm2⟩
    go_wp2_with fail
    go_ret
    exact ⟨rfl, hm1.thenNil hm2⟩
  · rw [t3] at HFEW
    clear t3
    go_enter Tryz.func4, Tryz.ntmps4
    go_wp2_with fail
    refine (jFirst w).mono ?_
    rintro e w1 ⟨rfl, hm1⟩
    go_wp2_with fail
    refine (HFEW.out w1 hm1).mono ?_
    rintro e w2 ⟨rfl, hm2⟩
    go_wp2_with fail
    refine (jFirst w2).mono ?_
    rintro e w3 ⟨rfl, hm3⟩
    go_wp2_with fail
    go_ret
    exact ⟨rfl, (hm1.thenNil hm2).thenNil hm3⟩
set_option maxRecDepth 100000 in
theorem walkJournalPlays (v0 v1 : Value) (W : World) (r0 : Rd W 3 v0) (r1 : Rd W 46 v1) :
    Calls Tryz.prog 4 #[v0, v1] W fun e w' => e = .returned (.bool true) ∧ Below W.heap.size W w' := by
  obtain ⟨n, rfl, hn⟩ := r0.int Tryz.underlying3
  obtain ⟨p, len, cap, l, rfl, hll, hm, hl, hb⟩ := r1.opsJ
  unfold maxLen at hm
  by_cases h : 1 ≤ n ∧ n ≤ 200 ∧ fewJ l = true
  · obtain ⟨h1, h2, h3⟩ := h
    obtain ⟨k, rfl⟩ := Int.eq_ofNat_of_zero_le (show 0 ≤ n by omega)
    exact (lawJPlays p len cap k l W hl (by omega) hb (by omega) (by omega) h3).mono fun e w' ⟨h1, h2⟩ => ⟨h1, h2.below⟩
  · refine (lawJPlays_bad p len cap n l W hl (by omega) (fun o ho => ⟨(hb o ho).1, (hb o ho).2.1⟩) ?_).mono fun e w' ⟨h1, h2⟩ => ⟨h1, h2.below⟩
    by_cases a : n < 1
    · exact .inl a
    · by_cases b : 200 < n
      · exact .inr (.inl ⟨by omega, b⟩)
      · refine .inr (.inr ⟨by omega, by omega, ?_⟩)
        cases hf : fewJ l with
        | false => rfl
        | true => exact absurd ⟨by omega, by omega, hf⟩ h
end Go.Proofs.YtjilbnpehgigjaaGreat

/- DiskTwice: the walk. -/
import Derived.Test.YtgfehfkcjgfekaaLawDisk
import Derived.Test.YtgfehfkcjgfekaaRd
namespace Go.Proofs.Ytgfehfkcjgfekaa
open Go.RowKit

theorem write_ok (lasts : List (List UInt8)) (pend : List (Int × List UInt8)) (i : Int) (l : List UInt8) (hi : 0 ≤ i ∧ i < lasts.length) (hl : l.length = 64) :
    DS.write ⟨lasts, pend, -1, false⟩ i l = (⟨lasts, bput pend i l, -1, false⟩, 0) := by
  have hs : DS.sector ⟨lasts, pend, -1, false⟩ i = 0 := by simp [DS.sector]; omega
  simp [DS.write, hs, hl, DS.holds, DS.burn]
theorem sync_ok (lasts : List (List UInt8)) (pend : List (Int × List UInt8)) : DS.sync ⟨lasts, pend, -1, false⟩ = (⟨DS.synced ⟨lasts, pend, -1, false⟩, [], -1, false⟩, 0) := by
  simp [DS.sync, DS.holds, DS.burn]
theorem lawText64 (x y : Int) (b : UInt8) (kv : Value) (w : World) :
    Calls Try.prog 10 #[.agg #[.int .i64 x, .int .i64 y, .int .i64 64, .int .u8 b.toNat, kv]] w fun e w' => ∃ g, e = .returned (.slice (some ⟨g, 0, none⟩) 64 64) ∧ w.heap.size ≤ g ∧ IsRow (· = g) w' (.slice (some ⟨g, 0, none⟩) 64 64) (bys (textOf b 64)) ∧ Mod nil w w' := by
  refine (lawText x y 64 b kv w (by omega)).mono ?_
  rintro e w' ⟨g, rfl, hg, hh, hm⟩
  rw [show (min (max (64 : Int) 0) 100).toNat = 64 from rfl] at hh ⊢
  exact ⟨g, rfl, hg, IsRow.ofBlock (S := (· = g)) hh rfl 64 64 (by simp [bys_length, textOf_length]), hm⟩
theorem bput_one (l m : List UInt8) : bput [(0, l)] 0 m = [(0, m)] := by simp [bput]
theorem synced_one (z l : List UInt8) : DS.synced ⟨[z], [(0, l)], -1, false⟩ = [l] := by simp [DS.synced, laid, List.range_succ]
theorem read_pend (z l : List UInt8) : DS.read ⟨[z], [(0, l)], -1, false⟩ 0 = (l, 0) := by simp [DS.read, DS.sector]
theorem read_last (z : List UInt8) : DS.read ⟨[z], [], -1, false⟩ 0 = (z, 0) := by simp [DS.read, DS.sector]
theorem crash_one (z l : List UInt8) (k : Bool) : DS.crash ⟨[z], [(0, l)], -1, false⟩ [k, true, true] = ⟨[if k then l else z], [], -1, false⟩ := by
  cases k <;> simp [DS.crash, DS.dirt, asc, DS.layTo, DS.at]
theorem make63 (w : World) : (Instr.makeSlice 22 (.int .i64 63) (.int .i64 63)).run Try.prog w = .ok (.slice (some ⟨w.heap.size, 0, none⟩) 63 63) (w.alloc (.cells (bys (List.replicate 63 0)).toArray 5)) := by kernel_rfl
set_option maxHeartbeats 4000000 in
theorem lawDiskTwice (a b c : UInt8) (keep : Bool) (w : World) :
    Calls Try.prog 7 #[.int .u8 a.toNat, .int .u8 b.toNat, .int .u8 c.toNat, .bool keep] w fun e w' => e = .returned (.bool true) ∧ Mod nil w w' := by
  have hmk := make64
  go_enter Try.func7, Try.ntmps7
  go_wp2_with fail
  refine (diskFirst w).mono ?_
  rintro e w1 ⟨rfl, hm1⟩
  go_wp2_with fail
  refine (diskNew 1 w1 (by omega) (by omega)).mono ?_
  rintro e w2 ⟨d, bl, bm, C, rfl, hd2, hfoot, hm2⟩
  go_wp2_with fail
  have hn1 : w.heap.size ≤ w1.heap.size := hm1.size
  have hd := hfoot d (.inl rfl)
  have hbl := hfoot bl (.inr (.inl rfl))
  have hbm := hfoot bm (.inr (.inr (.inl rfl)))
  have hmod2 := hm1.thenNil hm2
  clear hfoot hm1 hm2
  refine (lawText64 0 0 a _ w2).mono ?_
  rintro e w3 ⟨g3, rfl, hg3, hrow3, hm3⟩
  go_wp2_with fail
  have hl3 := heap_lt hd2.obj
  refine (diskWrite d bl bm C (· = g3) _ 0 _ (textOf a 64) _ (hd2.modNil hm3) hrow3 (show ¬ d = g3 by omega) (by simp [textOf_length])).mono ?_
  rw [show DS.write (freshDisk 1) 0 (textOf a 64) = _ from write_ok _ _ 0 _ (by simp) (textOf_length _ _)]
  rintro e w4 ⟨C4, rfl, hd4, hC4, hm4⟩
  have hmod4 := (hmod2.thenNil hm3).new hm4 (fun i hi => by omega)
  clear hd2 hrow3 hm3 hC4 hm4 hmod2 hg3 hl3
  go_wp2_with fail
  refine (diskSync d bl bm C4 _ w4 hd4).mono ?_
  rw [sync_ok]
  rintro e w5 ⟨rfl, hd5, hm5⟩
  have hmod5 := hmod4.new hm5 (fun i hi => by omega)
  clear hd4 hm5 hmod4
  go_wp2_with fail
  rw [show DS.synced ⟨List.replicate 1 zeros64, bput [] 0 (textOf a 64), -1, false⟩ = [textOf a 64] from synced_one _ _] at hd5
  refine (lawText64 0 0 b _ w5).mono ?_
  rintro e w6 ⟨g6, rfl, hg6, hrow6, hm6⟩
  go_wp2_with fail
  have hl6 := heap_lt hd5.obj
  refine (diskWrite d bl bm C4 (· = g6) _ 0 _ (textOf b 64) _ (hd5.modNil hm6) hrow6 (show ¬ d = g6 by omega) (by simp [textOf_length])).mono ?_
  rw [write_ok _ _ 0 (textOf b 64) (by simp) (textOf_length _ _)]
  rintro e w7 ⟨C7, rfl, hd7, hC7, hm7⟩
  have hmod7 := (hmod5.thenNil hm6).new hm7 (fun i hi => by omega)
  clear hd5 hrow6 hm6 hC7 hm7 hmod5 hg6 hl6
  go_wp2_with fail
  refine (lawText64 0 0 c _ w7).mono ?_
  rintro e w8 ⟨g8, rfl, hg8, hrow8, hm8⟩
  go_wp2_with fail
  have hl8 := heap_lt hd7.obj
  refine (diskWrite d bl bm C7 (· = g8) _ 0 _ (textOf c 64) _ (hd7.modNil hm8) hrow8 (show ¬ d = g8 by omega) (by simp [textOf_length])).mono ?_
  rw [write_ok _ _ 0 (textOf c 64) (by simp) (textOf_length _ _)]
  rintro e w9 ⟨C9, rfl, hd9, hC9, hm9⟩
  have hmod9 := (hmod7.thenNil hm8).new hm9 (fun i hi => by omega)
  clear hd7 hrow8 hm8 hC9 hm9 hmod7 hg8 hl8
  rw [show bput (bput [] 0 (textOf b 64)) 0 (textOf c 64) = [(0, textOf c 64)] from bput_one _ _] at hd9
  go_wp2_with fail
  refine (diskRead d bl bm C9 _ 0 w9 hd9).mono ?_
  rw [read_pend]
  rintro e w10 ⟨v10, rfl, hv10, hm10⟩
  have hd10 := hd9.modNil hm10
  have hmod10 := hmod9.thenNil hm10
  have hrow10 := hv10.row
  clear hd9 hm10 hmod9 hv10
  go_wp2_with fail
  refine (diskPending d bl bm C9 _ w10 hd10).mono ?_
  rw [show (([(0, textOf c 64)] : List (Int × List UInt8)).length : Int) = 1 from rfl]
  rintro e w11 ⟨rfl, rfl⟩
  go_wp2_with fail
  refine (lawText64 0 0 c _ w10).mono ?_
  rintro e w12 ⟨g12, rfl, hg12, hrow12, hm12⟩
  have hrow10' := hrow10.modNil hm12
  have hd12 := hd10.modNil hm12
  have hmod12 := hmod10.thenNil hm12
  go_wp2_with fail
  refine (refBytes _ _ _ _ _ _ w12 hrow10' hrow12).mono ?_
  rw [show decide ((textOf c 64, (0 : Int)).1 = textOf c 64) = true from by simp]
  rintro e w13 ⟨rfl, hm13⟩
  have hd13 := hd12.modNil hm13
  have hmod13 := hmod12.thenNil hm13
  clear hrow10 hrow10' hrow12 hd10 hd12 hm12 hm13 hmod10 hmod12 hg12
  go_wp2_with fail
  have hl13 := heap_lt hd13.obj
  obtain ⟨vl13, hb13, _⟩ := hd13.lasts
  have hbl13 := heap_lt hb13
  have ha13 : Mod nil w13 (w13.alloc (.cells #[.bool keep, .bool true, .bool true] 4)) := (Mod.refl nil w13).alloc _
  have hk13 : IsRow (· = w13.heap.size) (w13.alloc (.cells #[.bool keep, .bool true, .bool true] 4)) (.slice (some ⟨w13.heap.size, 0, none⟩) 3 3) ([keep, true, true].map Value.bool) :=
    IsRow.ofBlock (S := (· = w13.heap.size)) (heap_alloc_new w13 (.cells #[.bool keep, .bool true, .bool true] 4)) rfl 3 3 rfl
  refine (diskCrash d bl bm C9 (· = w13.heap.size) _ _ [keep, true, true] _ (hd13.modNil ha13) hk13 ⟨show ¬ d = w13.heap.size by omega, show ¬ bl = w13.heap.size by omega⟩ (by simp)).mono ?_
  rw [crash_one]
  rintro e w14 ⟨rfl, hd14, hm14⟩
  have hmod14 := (hmod13.thenNil ha13).new hm14 (fun i hi => by omega)
  clear hd13 hl13 hb13 hbl13 ha13 hk13 hm14 hmod13
  go_wp2_with fail
  refine (diskRead d bl bm C9 _ 0 w14 hd14).mono ?_
  rw [read_last]
  rintro e w15 ⟨v15, rfl, hv15, hm15⟩
  have hd15 := hd14.modNil hm15
  have hmod15 := hmod14.thenNil hm15
  have hrow15 := hv15.row
  clear hd14 hm15 hmod14 hv15
  cases keep
  · simp only [Bool.false_eq_true, if_false, if_true] at hrow15 hd15
    go_wp2_with fail
    refine (diskFirst w15).mono ?_
    rintro e w16 ⟨rfl, hm16⟩
    have hd16 := hd15.modNil hm16
    have hmod16 := hmod15.thenNil hm16
    have hrow16 := hrow15.modNil hm16
    clear hd15 hm16 hmod15 hrow15
    go_wp2_with fail
    refine (lawText64 0 0 a _ w16).mono ?_
    rintro e w17 ⟨g17, rfl, hg17, hrow17, hm17⟩
    have hrow16' := hrow16.modNil hm17
    have hd17 := hd16.modNil hm17
    have hmod17 := hmod16.thenNil hm17
    go_wp2_with fail
    refine (refBytes _ _ _ _ _ _ w17 hrow16' hrow17).mono ?_
    rw [show decide (textOf a 64 = textOf a 64) = true from by simp]
    rintro e w18 ⟨rfl, hm18⟩
    have hd18 := hd17.modNil hm18
    have hmod18 := hmod17.thenNil hm18
    clear hrow16 hrow16' hrow17 hd16 hd17 hm17 hm18 hmod16 hmod17 hg17
    have hmk2 := make63
    go_wp2_with fail
    have hl18 := heap_lt hd18.obj
    have ha18 : Mod nil w18 (w18.alloc (.cells (bys (List.replicate 63 0)).toArray 5)) := (Mod.refl nil w18).alloc _
    have hk18 : IsRow (· = w18.heap.size) (w18.alloc (.cells (bys (List.replicate 63 0)).toArray 5)) (.slice (some ⟨w18.heap.size, 0, none⟩) 63 63) (bys (List.replicate 63 0)) :=
      IsRow.ofBlock (S := (· = w18.heap.size)) (heap_alloc_new w18 (.cells (bys (List.replicate 63 0)).toArray 5)) rfl 63 63 (by simp [bys_length])
    refine (diskWrite d bl bm C9 (· = w18.heap.size) _ 0 _ (List.replicate 63 0) _ (hd18.modNil ha18) hk18 (show ¬ d = w18.heap.size by omega) (by simp)).mono ?_
    rw [show DS.write ⟨[textOf a 64], [], -1, false⟩ 0 (List.replicate 63 0) = (⟨[textOf a 64], [], -1, false⟩, 2) from by simp [DS.write, DS.sector]]
    rintro e w19 ⟨C19, rfl, hd19, _, hm19⟩
    have hmod19 := (hmod18.thenNil ha18).new hm19 (fun i hi => by omega)
    clear hd18 hl18 ha18 hk18 hm19 hmod18
    go_wp2_with fail
    have hl19 := heap_lt hd19.obj
    have ha19 : Mod nil w19 (w19.alloc (.cells zeroCells64 5)) := (Mod.refl nil w19).alloc _
    have hk19 : IsRow (· = w19.heap.size) (w19.alloc (.cells zeroCells64 5)) (.slice (some ⟨w19.heap.size, 0, none⟩) 64 64) (bys zeros64) :=
      IsRow.ofBlock (S := (· = w19.heap.size)) (heap_alloc_new w19 (.cells zeroCells64 5)) rfl 64 64 (by simp [bys_length, zeros64])
    refine (diskWrite d bl bm C19 (· = w19.heap.size) _ 1 _ zeros64 _ (hd19.modNil ha19) hk19 (show ¬ d = w19.heap.size by omega) (by simp [zeros64])).mono ?_
    rw [show DS.write ⟨[textOf a 64], [], -1, false⟩ 1 zeros64 = (⟨[textOf a 64], [], -1, false⟩, 1) from by simp [DS.write, DS.sector]]
    rintro e w20 ⟨C20, rfl, hd20, _, hm20⟩
    have hmod20 := (hmod19.thenNil ha19).new hm20 (fun i hi => by omega)
    clear hmk hmk2
    go_wp2_with fail
    go_ret
    exact ⟨rfl, hmod20⟩
  · simp only [Bool.false_eq_true, if_false, if_true] at hrow15 hd15
    go_wp2_with fail
    refine (diskFirst w15).mono ?_
    rintro e w16 ⟨rfl, hm16⟩
    have hd16 := hd15.modNil hm16
    have hmod16 := hmod15.thenNil hm16
    have hrow16 := hrow15.modNil hm16
    clear hd15 hm16 hmod15 hrow15
    go_wp2_with fail
    refine (lawText64 0 0 c _ w16).mono ?_
    rintro e w17 ⟨g17, rfl, hg17, hrow17, hm17⟩
    have hrow16' := hrow16.modNil hm17
    have hd17 := hd16.modNil hm17
    have hmod17 := hmod16.thenNil hm17
    go_wp2_with fail
    refine (refBytes _ _ _ _ _ _ w17 hrow16' hrow17).mono ?_
    rw [show decide (textOf c 64 = textOf c 64) = true from by simp]
    rintro e w18 ⟨rfl, hm18⟩
    have hd18 := hd17.modNil hm18
    have hmod18 := hmod17.thenNil hm18
    clear hrow16 hrow16' hrow17 hd16 hd17 hm17 hm18 hmod16 hmod17 hg17
    have hmk2 := make63
    go_wp2_with fail
    have hl18 := heap_lt hd18.obj
    have ha18 : Mod nil w18 (w18.alloc (.cells (bys (List.replicate 63 0)).toArray 5)) := (Mod.refl nil w18).alloc _
    have hk18 : IsRow (· = w18.heap.size) (w18.alloc (.cells (bys (List.replicate 63 0)).toArray 5)) (.slice (some ⟨w18.heap.size, 0, none⟩) 63 63) (bys (List.replicate 63 0)) :=
      IsRow.ofBlock (S := (· = w18.heap.size)) (heap_alloc_new w18 (.cells (bys (List.replicate 63 0)).toArray 5)) rfl 63 63 (by simp [bys_length])
    refine (diskWrite d bl bm C9 (· = w18.heap.size) _ 0 _ (List.replicate 63 0) _ (hd18.modNil ha18) hk18 (show ¬ d = w18.heap.size by omega) (by simp)).mono ?_
    rw [show DS.write ⟨[textOf c 64], [], -1, false⟩ 0 (List.replicate 63 0) = (⟨[textOf c 64], [], -1, false⟩, 2) from by simp [DS.write, DS.sector]]
    rintro e w19 ⟨C19, rfl, hd19, _, hm19⟩
    have hmod19 := (hmod18.thenNil ha18).new hm19 (fun i hi => by omega)
    clear hd18 hl18 ha18 hk18 hm19 hmod18
    go_wp2_with fail
    have hl19 := heap_lt hd19.obj
    have ha19 : Mod nil w19 (w19.alloc (.cells zeroCells64 5)) := (Mod.refl nil w19).alloc _
    have hk19 : IsRow (· = w19.heap.size) (w19.alloc (.cells zeroCells64 5)) (.slice (some ⟨w19.heap.size, 0, none⟩) 64 64) (bys zeros64) :=
      IsRow.ofBlock (S := (· = w19.heap.size)) (heap_alloc_new w19 (.cells zeroCells64 5)) rfl 64 64 (by simp [bys_length, zeros64])
    refine (diskWrite d bl bm C19 (· = w19.heap.size) _ 1 _ zeros64 _ (hd19.modNil ha19) hk19 (show ¬ d = w19.heap.size by omega) (by simp [zeros64])).mono ?_
    rw [show DS.write ⟨[textOf c 64], [], -1, false⟩ 1 zeros64 = (⟨[textOf c 64], [], -1, false⟩, 1) from by simp [DS.write, DS.sector]]
    rintro e w20 ⟨C20, rfl, hd20, _, hm20⟩
    have hmod20 := (hmod19.thenNil ha19).new hm20 (fun i hi => by omega)
    clear hmk hmk2
    go_wp2_with fail
    go_ret
    exact ⟨rfl, hmod20⟩
theorem Rd.byte {w : World} {v : Value} (h : Rd w 5 v) : ∃ b : UInt8, v = .int .u8 b.toNat := by
  obtain ⟨n, rfl, hw⟩ := h.int Try.underlying5
  have hr : 0 ≤ n ∧ n ≤ 255 := by simpa [Lit.wf, IntKind.min, IntKind.max, IntKind.bits, IntKind.signed] using hw
  obtain ⟨m, rfl⟩ := Int.eq_ofNat_of_zero_le hr.1
  exact ⟨UInt8.ofNat m, by rw [UInt8.toNat_ofNat', Nat.mod_eq_of_lt (by omega)]⟩
theorem walkDiskTwice (v0 v1 v2 v3 : Value) (W : World) (r0 : Rd W 5 v0) (r1 : Rd W 5 v1) (r2 : Rd W 5 v2) (r3 : Rd W 4 v3) :
    Calls Try.prog 7 #[v0, v1, v2, v3] W fun e w' => e = .returned (.bool true) ∧ Below W.heap.size W w' := by
  obtain ⟨a, rfl⟩ := r0.byte
  obtain ⟨b, rfl⟩ := r1.byte
  obtain ⟨c, rfl⟩ := r2.byte
  obtain ⟨k, rfl⟩ := r3.bool Try.underlying4
  exact (lawDiskTwice a b c k W).mono fun e w' ⟨h1, h2⟩ => ⟨h1, h2.below⟩
end Go.Proofs.Ytgfehfkcjgfekaa

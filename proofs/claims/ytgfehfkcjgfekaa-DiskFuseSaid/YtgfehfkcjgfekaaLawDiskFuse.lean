/- DiskFuse: the walk. -/
import Derived.Test.YtgfehfkcjgfekaaLawDiskReads
namespace Go.Proofs.Ytgfehfkcjgfekaa
open Go.RowKit

theorem and3_fin : ∀ i : Fin 101, bits .and .i64 ((i.val : Nat) : Int) 3 = ((i.val % 4 : Nat) : Int) := by decide +kernel
theorem and3 (i : Nat) (h : i < 101) : bits .and .i64 (i : Int) 3 = ((i % 4 : Nat) : Int) := and3_fin ⟨i, h⟩
theorem fuse_write_up (lasts : List (List UInt8)) (pend : List (Int × List UInt8)) (F j : Nat) (l : List UInt8) (hj : j < lasts.length) (hl : l.length = 64) (hF : 0 < F) : DS.write ⟨lasts, pend, F, false⟩ j l = (⟨lasts, bput pend j l, F - 1, false⟩, 0) := by
  have hs : DS.sector ⟨lasts, pend, F, false⟩ j = 0 := by simp [DS.sector]; omega
  simp [DS.write, hs, hl, DS.holds, DS.burn, show ¬ (F = 0) by omega, hF]
theorem fuse_write_out (lasts : List (List UInt8)) (pend : List (Int × List UInt8)) (j : Nat) (l : List UInt8) (hj : j < lasts.length) (hl : l.length = 64) : DS.write ⟨lasts, pend, 0, false⟩ j l = (⟨lasts, pend, 0, true⟩, 13) := by
  have hs : DS.sector ⟨lasts, pend, 0, false⟩ j = 0 := by simp [DS.sector]; omega
  simp [DS.write, hs, hl, DS.holds, DS.burn]
theorem down_write (lasts : List (List UInt8)) (pend : List (Int × List UInt8)) (f j : Int) (l : List UInt8) : DS.write ⟨lasts, pend, f, true⟩ j l = (⟨lasts, pend, f, true⟩, 13) := by
  simp [DS.write, DS.sector]
theorem fuse_sync_up (lasts : List (List UInt8)) (pend : List (Int × List UInt8)) (F : Nat) (hF : 0 < F) : DS.sync ⟨lasts, pend, F, false⟩ = (⟨DS.synced ⟨lasts, pend, F, false⟩, [], F - 1, false⟩, 0) := by
  simp [DS.sync, DS.holds, DS.burn, show ¬ (F = 0) by omega, hF]
theorem fuse_sync_out (lasts : List (List UInt8)) (pend : List (Int × List UInt8)) : DS.sync ⟨lasts, pend, 0, false⟩ = (⟨lasts, pend, 0, true⟩, 13) := by
  simp [DS.sync, DS.holds, DS.burn]
theorem down_sync (lasts : List (List UInt8)) (pend : List (Int × List UInt8)) (f : Int) : DS.sync ⟨lasts, pend, f, true⟩ = (⟨lasts, pend, f, true⟩, 13) := by
  simp [DS.sync]
theorem read0 (lasts : List (List UInt8)) (pend : List (Int × List UInt8)) (f : Int) (b : Bool) (h : lasts.length = 4) : (DS.read ⟨lasts, pend, f, b⟩ 0).2 = if b then 13 else 0 := by
  cases b
  · unfold DS.read
    have hs : DS.sector ⟨lasts, pend, f, false⟩ 0 = 0 := by simp [DS.sector, h]
    rw [hs, if_neg (by simp)]
    cases List.find? (fun p => p.1 == 0) pend <;> rfl
  · simp [DS.read, DS.sector]
theorem crash_ok (lasts : List (List UInt8)) (pend : List (Int × List UInt8)) (f : Int) (b : Bool) (h : lasts.length = 4) : ∃ l, l.length = 4 ∧ DS.crash ⟨lasts, pend, f, b⟩ [] = ⟨l, [], -1, false⟩ := ⟨_, (DS.layTo_length _ _ _).trans h, rfl⟩
theorem synced_length (d : DS) : d.synced.length = d.lasts.length := by simp [DS.synced]
theorem lawDiskFuse_bad (F n : Int) (w : World) (h : F < 0 ∨ 100 < F ∨ n < 0 ∨ 100 < n) :
    Calls Try.prog 6 #[.int .i64 F, .int .i64 n] w fun e w' => e = .returned (.bool true) ∧ Mod nil w w' := by
  have hcase : F < 0 ∨ (0 ≤ F ∧ 100 < F) ∨ (0 ≤ F ∧ F ≤ 100 ∧ n < 0) ∨ (0 ≤ F ∧ F ≤ 100 ∧ 0 ≤ n ∧ 100 < n) := by omega
  rcases hcase with h1 | ⟨h1, h2⟩ | ⟨h1, h2, h3⟩ | ⟨h1, h2, h3, h4⟩
  all_goals
    go_enter Try.func6, Try.ntmps6
    go_wp2_with fail
    refine (diskFirst w).mono ?_
    rintro e w1 ⟨rfl, hm1⟩
    go_wp2_with fail
    refine (diskNew 4 w1 (by omega) (by omega)).mono ?_
    rintro e w2 ⟨d, bl, bm, C, rfl, hd2, hfoot, hm2⟩
    clear hd2 hfoot
    go_wp2_with fail
    refine (diskFirst w2).mono ?_
    rintro e w3 ⟨rfl, hm3⟩
    go_wp2_with fail
    go_ret
    exact ⟨rfl, (hm1.thenNil hm2).thenNil hm3⟩
/-- so far a disk whose fuse was set to F stands behind k steps -/
def Fused (wr : World) (d bl bm F k : Nat) : Prop := ∃ (C : Nat → Prop) (lasts : List (List UInt8)) (pend : List (Int × List UInt8)), lasts.length = 4 ∧ (∀ j, C j → j < wr.heap.size) ∧ IsDisk wr d bl bm C ⟨lasts, pend, ((F - k : Nat) : Int), decide (F < k)⟩
theorem Fused.of {wr : World} {d bl bm F k : Nat} {C : Nat → Prop} {lasts : List (List UInt8)} {pend : List (Int × List UInt8)} {f : Int} {dn : Bool} (h : IsDisk wr d bl bm C ⟨lasts, pend, f, dn⟩) (hl : lasts.length = 4) (hf : ((F - k : Nat) : Int) = f) (hd : decide (F < k) = dn) : Fused wr d bl bm F k :=
  ⟨fun j => C j ∧ j < wr.heap.size, lasts, pend, hl, fun _ hj => hj.2, by rw [hf, hd]; exact h.trim⟩
set_option maxRecDepth 100000 in
set_option maxHeartbeats 4000000 in
theorem lawDiskFuse (F n : Nat) (w : World) (hF : F ≤ 100) (hn : n ≤ 100) :
    Calls Try.prog 6 #[.int .i64 F, .int .i64 n] w fun e w' => e = .returned (.bool true) ∧ Mod nil w w' := by
  have hmk := make64
  go_enter Try.func6, Try.ntmps6
  go_wp2_with fail
  refine (diskFirst w).mono ?_
  rintro e w1 ⟨rfl, hm1⟩
  go_wp2_with fail
  refine (diskNew 4 w1 (by omega) (by omega)).mono ?_
  rintro e w2 ⟨d, bl, bm, C, rfl, hd2, hfoot, hm2⟩
  go_wp2_with fail
  have hn1 : w.heap.size ≤ w1.heap.size := hm1.size
  have hd := hfoot d (.inl rfl)
  have hbl := hfoot bl (.inr (.inl rfl))
  have hbm := hfoot bm (.inr (.inr (.inl rfl)))
  have hmod2 := hm1.thenNil hm2
  clear hfoot hm1 hm2
  refine (diskFuse d bl bm C _ F w2 hd2 (by omega)).mono ?_
  rw [show max (F : Int) (-1) = F by omega]
  rintro e w3 ⟨rfl, hd3, hm3⟩
  have hmod3 := hmod2.new hm3 (fun i hi => by omega)
  have HM3 := Lib.hid hmod3
  have HD3 := Lib.hid hd3
  clear hd2 hm3 hmod2 hmod3 hd3
  go_wp2_with fail
  go_loopw [7, 8] (fun u v wr => ∃ (i dn : Nat), i ≤ n ∧ dn ≤ F ∧ dn ≤ i ∧ (i ≤ dn ∨ F ≤ dn) ∧ u = .int .i64 dn ∧ v = .int .i64 i ∧ Fused wr d bl bm F i ∧ Mod nil w wr) (fun u v _ => n - (intOf v).toNat)
  case atStart => exact ⟨0, 0, by omega, by omega, by omega, by omega, rfl, rfl, ⟨_, _, _, by simp [freshDisk], fun j hj => hj.2, HD3.out.trim⟩, HM3.out⟩
  case round =>
    obtain ⟨i, dn, hi, hdF, hdi, hor, rfl, rfl, ⟨C1, lasts, pend, hl4, hC1, hdk⟩, hmod⟩ := hrel
    have HL4 := Lib.hid hl4
    have HC1 := Lib.hid hC1
    clear hl4 hC1
    by_cases hlt : i < n
    · by_cases h3 : (i : Int) % 3 = 2
      · rcases (show i < F ∨ i = F ∨ F < i by omega) with hup | hup | hup
        · obtain ⟨x, hx⟩ : ∃ x : Nat, F - i = x := ⟨_, rfl⟩
          have hdn : dn = i := by omega
          subst hdn
          rw [show decide (F < dn) = false by simp; omega, hx] at hdk
          go_wp2_with fail
          refine (diskSync d bl bm C1 _ wr hdk).mono ?_
          rw [fuse_sync_up _ _ x (by omega)]
          rintro e w4 ⟨rfl, hd4, hm4⟩
          have hmod4 := hmod.new hm4 (fun j hj => by omega)
          clear hdk hm4
          go_wp2_with fail
          exact ⟨⟨dn + 1, dn + 1, by omega, by omega, by omega, by omega, by go_num, by go_num, Fused.of hd4 (by simp [synced_length, HL4.out]) (by omega) (by simp; try omega), hmod4⟩, by simp [intOf]; omega⟩
        · have hdn : dn = F := by omega
          subst hdn
          subst hup
          rw [show decide (i < i) = false by simp, show ((i - i : Nat) : Int) = 0 by omega] at hdk
          go_wp2_with fail
          refine (diskSync d bl bm C1 _ wr hdk).mono ?_
          rw [fuse_sync_out]
          rintro e w4 ⟨rfl, hd4, hm4⟩
          have hmod4 := hmod.new hm4 (fun j hj => by omega)
          clear hdk hm4
          go_wp2_with fail
          exact ⟨⟨i + 1, i, by omega, by omega, by omega, by omega, by go_num, by go_num, Fused.of hd4 (HL4.out) (by omega) (by simp; try omega), hmod4⟩, by simp [intOf]; omega⟩
        · have hdn : dn = F := by omega
          subst hdn
          rw [show decide (dn < i) = true by simp; omega, show ((dn - i : Nat) : Int) = 0 by omega] at hdk
          go_wp2_with fail
          refine (diskSync d bl bm C1 _ wr hdk).mono ?_
          rw [down_sync]
          rintro e w4 ⟨rfl, hd4, hm4⟩
          have hmod4 := hmod.new hm4 (fun j hj => by omega)
          clear hdk hm4
          go_wp2_with fail
          exact ⟨⟨i + 1, dn, by omega, by omega, by omega, by omega, by go_num, by go_num, Fused.of hd4 (HL4.out) (by omega) (by simp; try omega), hmod4⟩, by simp [intOf]; omega⟩
      · have ha := and3 i (by omega)
        rcases (show i < F ∨ i = F ∨ F < i by omega) with hup | hup | hup
        · obtain ⟨x, hx⟩ : ∃ x : Nat, F - i = x := ⟨_, rfl⟩
          have hdn : dn = i := by omega
          subst hdn
          rw [show decide (F < dn) = false by simp; omega, hx] at hdk
          go_wp2_with fail
          clear ha
          have hl3 := heap_lt hdk.obj
          have ha3 : Mod nil wr (wr.alloc (.cells zeroCells64 5)) := (Mod.refl nil wr).alloc _
          have hk3 : IsRow (· = wr.heap.size) (wr.alloc (.cells zeroCells64 5)) (.slice (some ⟨wr.heap.size, 0, none⟩) 64 64) (bys zeros64) :=
            IsRow.ofBlock (S := (· = wr.heap.size)) (heap_alloc_new wr (.cells zeroCells64 5)) rfl 64 64 (by simp [bys_length, zeros64])
          refine (diskWrite d bl bm C1 (· = wr.heap.size) _ ((dn % 4 : Nat) : Int) _ zeros64 _ (hdk.modNil ha3) hk3 (show ¬ d = wr.heap.size by omega) (by simp [zeros64])).mono ?_
          rw [fuse_write_up _ _ x _ _ (by rw [HL4.out]; omega) (by simp [zeros64]) (by omega)]
          rintro e w4 ⟨C4, rfl, hd4, hC4, hm4⟩
          have hmod4 := (hmod.thenNil ha3).new hm4 (fun j hj => by omega)
          clear hdk hm4 hC4 ha3 hk3
          go_wp2_with fail
          exact ⟨⟨dn + 1, dn + 1, by omega, by omega, by omega, by omega, by go_num, by go_num, Fused.of hd4 (HL4.out) (by omega) (by simp; try omega), hmod4⟩, by simp [intOf]; omega⟩
        · have hdn : dn = F := by omega
          subst hdn
          subst hup
          rw [show decide (i < i) = false by simp, show ((i - i : Nat) : Int) = 0 by omega] at hdk
          go_wp2_with fail
          clear ha
          have hl3 := heap_lt hdk.obj
          have ha3 : Mod nil wr (wr.alloc (.cells zeroCells64 5)) := (Mod.refl nil wr).alloc _
          have hk3 : IsRow (· = wr.heap.size) (wr.alloc (.cells zeroCells64 5)) (.slice (some ⟨wr.heap.size, 0, none⟩) 64 64) (bys zeros64) :=
            IsRow.ofBlock (S := (· = wr.heap.size)) (heap_alloc_new wr (.cells zeroCells64 5)) rfl 64 64 (by simp [bys_length, zeros64])
          refine (diskWrite d bl bm C1 (· = wr.heap.size) _ ((i % 4 : Nat) : Int) _ zeros64 _ (hdk.modNil ha3) hk3 (show ¬ d = wr.heap.size by omega) (by simp [zeros64])).mono ?_
          rw [fuse_write_out _ _ _ _ (by rw [HL4.out]; omega) (by simp [zeros64])]
          rintro e w4 ⟨C4, rfl, hd4, hC4, hm4⟩
          have hmod4 := (hmod.thenNil ha3).new hm4 (fun j hj => by omega)
          clear hdk hm4 hC4 ha3 hk3
          go_wp2_with fail
          exact ⟨⟨i + 1, i, by omega, by omega, by omega, by omega, by go_num, by go_num, Fused.of hd4 (HL4.out) (by omega) (by simp; try omega), hmod4⟩, by simp [intOf]; omega⟩
        · have hdn : dn = F := by omega
          subst hdn
          rw [show decide (dn < i) = true by simp; omega, show ((dn - i : Nat) : Int) = 0 by omega] at hdk
          go_wp2_with fail
          clear ha
          have hl3 := heap_lt hdk.obj
          have ha3 : Mod nil wr (wr.alloc (.cells zeroCells64 5)) := (Mod.refl nil wr).alloc _
          have hk3 : IsRow (· = wr.heap.size) (wr.alloc (.cells zeroCells64 5)) (.slice (some ⟨wr.heap.size, 0, none⟩) 64 64) (bys zeros64) :=
            IsRow.ofBlock (S := (· = wr.heap.size)) (heap_alloc_new wr (.cells zeroCells64 5)) rfl 64 64 (by simp [bys_length, zeros64])
          refine (diskWrite d bl bm C1 (· = wr.heap.size) _ ((i % 4 : Nat) : Int) _ zeros64 _ (hdk.modNil ha3) hk3 (show ¬ d = wr.heap.size by omega) (by simp [zeros64])).mono ?_
          rw [down_write]
          rintro e w4 ⟨C4, rfl, hd4, hC4, hm4⟩
          have hmod4 := (hmod.thenNil ha3).new hm4 (fun j hj => by omega)
          clear hdk hm4 hC4 ha3 hk3
          go_wp2_with fail
          exact ⟨⟨i + 1, dn, by omega, by omega, by omega, by omega, by go_num, by go_num, Fused.of hd4 (HL4.out) (by omega) (by simp; try omega), hmod4⟩, by simp [intOf]; omega⟩
    · obtain rfl : i = n := by omega
      obtain ⟨b, hb⟩ : ∃ b, decide (F < i) = b := ⟨_, rfl⟩
      rw [hb] at hdk
      have hrd := read0 lasts pend ((F - i : Nat) : Int) b HL4.out
      have HRD := Lib.hid hrd
      have HB := Lib.hid hb
      clear hrd hb
      cases b
      · have hge : ¬ F < i := by have := HB.out; simpa using this
        go_wp2_with fail
        refine (diskRead d bl bm C1 _ 0 wr hdk).mono ?_
        rw [HRD.out]
        rintro e w5 ⟨v5, rfl, _, hm5⟩
        have hmod5 := hmod.thenNil hm5
        have hd5 := hdk.modNil hm5
        clear hdk hmod hm5
        go_wp2_with fail
        refine (diskDown d bl bm C1 _ w5 hd5).mono ?_
        rintro e w6 ⟨rfl, rfl⟩
        go_wp2_with fail
        obtain ⟨l7, hl7, hcr⟩ := crash_ok lasts pend ((F - i : Nat) : Int) false HL4.out
        refine (diskCrash d bl bm C1 (fun _ => False) _ _ [] w5 hd5 ⟨none, 0, rfl, fun i hi => absurd hi (by simp)⟩ ⟨id, id⟩ (by simp)).mono ?_
        rw [hcr]
        rintro e w7 ⟨rfl, hd7, hm7⟩
        have hmod7 := hmod5.new hm7 (fun j hj => by omega)
        have HL7 := Lib.hid hl7
        clear hd5 hmod5 hm7 hl7 hcr
        go_wp2_with fail
        refine (diskRead d bl bm C1 _ 0 w7 hd7).mono ?_
        rw [read0 l7 [] (-1) false HL7.out, if_neg (by simp)]
        rintro e w8 ⟨v8, rfl, _, hm8⟩
        have hmod8 := hmod7.thenNil hm8
        have hd8 := hd7.modNil hm8
        clear hd7 hmod7 hm8
        go_wp2_with fail
        refine (diskFirst w8).mono ?_
        rintro e w9 ⟨rfl, hm9⟩
        have hmod9 := hmod8.thenNil hm9
        have hd9 := hd8.modNil hm9
        clear hd8 hmod8 hm9
        go_wp2_with fail
        refine (diskDown d bl bm C1 _ w9 hd9).mono ?_
        rintro e w10 ⟨rfl, rfl⟩
        go_wp2_with fail
        refine (diskPending d bl bm C1 _ w9 hd9).mono ?_
        rw [show ((([] : List (Int × List UInt8)).length : Nat) : Int) = 0 from rfl]
        rintro e w11 ⟨rfl, rfl⟩
        have hmk := make64
        go_wp2_with fail
        have hl9 := heap_lt hd9.obj
        have ha9 : Mod nil w9 (w9.alloc (.cells zeroCells64 5)) := (Mod.refl nil w9).alloc _
        have hk9 : IsRow (· = w9.heap.size) (w9.alloc (.cells zeroCells64 5)) (.slice (some ⟨w9.heap.size, 0, none⟩) 64 64) (bys zeros64) :=
          IsRow.ofBlock (S := (· = w9.heap.size)) (heap_alloc_new w9 (.cells zeroCells64 5)) rfl 64 64 (by simp [bys_length, zeros64])
        refine (diskWrite d bl bm C1 (· = w9.heap.size) _ 0 _ zeros64 _ (hd9.modNil ha9) hk9 (show ¬ d = w9.heap.size by omega) (by simp [zeros64])).mono ?_
        rw [write_ok _ _ 0 zeros64 (by rw [HL7.out]; omega) (by simp [zeros64])]
        rintro e w12 ⟨C12, rfl, _, _, hm12⟩
        have hmod12 := (hmod9.thenNil ha9).new hm12 (fun j hj => by omega)
        clear hmk
        go_wp2_with fail
        go_ret
        exact ⟨rfl, hmod12⟩
      · have hge : F < i := by have := HB.out; simpa using this
        go_wp2_with fail
        refine (diskRead d bl bm C1 _ 0 wr hdk).mono ?_
        rw [HRD.out]
        rintro e w5 ⟨v5, rfl, _, hm5⟩
        have hmod5 := hmod.thenNil hm5
        have hd5 := hdk.modNil hm5
        clear hdk hmod hm5
        go_wp2_with fail
        refine (diskDown d bl bm C1 _ w5 hd5).mono ?_
        rintro e w6 ⟨rfl, rfl⟩
        go_wp2_with fail
        obtain ⟨l7, hl7, hcr⟩ := crash_ok lasts pend ((F - i : Nat) : Int) true HL4.out
        refine (diskCrash d bl bm C1 (fun _ => False) _ _ [] w5 hd5 ⟨none, 0, rfl, fun i hi => absurd hi (by simp)⟩ ⟨id, id⟩ (by simp)).mono ?_
        rw [hcr]
        rintro e w7 ⟨rfl, hd7, hm7⟩
        have hmod7 := hmod5.new hm7 (fun j hj => by omega)
        have HL7 := Lib.hid hl7
        clear hd5 hmod5 hm7 hl7 hcr
        go_wp2_with fail
        refine (diskRead d bl bm C1 _ 0 w7 hd7).mono ?_
        rw [read0 l7 [] (-1) false HL7.out, if_neg (by simp)]
        rintro e w8 ⟨v8, rfl, _, hm8⟩
        have hmod8 := hmod7.thenNil hm8
        have hd8 := hd7.modNil hm8
        clear hd7 hmod7 hm8
        go_wp2_with fail
        refine (diskFirst w8).mono ?_
        rintro e w9 ⟨rfl, hm9⟩
        have hmod9 := hmod8.thenNil hm9
        have hd9 := hd8.modNil hm9
        clear hd8 hmod8 hm9
        go_wp2_with fail
        refine (diskDown d bl bm C1 _ w9 hd9).mono ?_
        rintro e w10 ⟨rfl, rfl⟩
        go_wp2_with fail
        refine (diskPending d bl bm C1 _ w9 hd9).mono ?_
        rw [show ((([] : List (Int × List UInt8)).length : Nat) : Int) = 0 from rfl]
        rintro e w11 ⟨rfl, rfl⟩
        have hmk := make64
        go_wp2_with fail
        have hl9 := heap_lt hd9.obj
        have ha9 : Mod nil w9 (w9.alloc (.cells zeroCells64 5)) := (Mod.refl nil w9).alloc _
        have hk9 : IsRow (· = w9.heap.size) (w9.alloc (.cells zeroCells64 5)) (.slice (some ⟨w9.heap.size, 0, none⟩) 64 64) (bys zeros64) :=
          IsRow.ofBlock (S := (· = w9.heap.size)) (heap_alloc_new w9 (.cells zeroCells64 5)) rfl 64 64 (by simp [bys_length, zeros64])
        refine (diskWrite d bl bm C1 (· = w9.heap.size) _ 0 _ zeros64 _ (hd9.modNil ha9) hk9 (show ¬ d = w9.heap.size by omega) (by simp [zeros64])).mono ?_
        rw [write_ok _ _ 0 zeros64 (by rw [HL7.out]; omega) (by simp [zeros64])]
        rintro e w12 ⟨C12, rfl, _, _, hm12⟩
        have hmod12 := (hmod9.thenNil ha9).new hm12 (fun j hj => by omega)
        clear hmk
        go_wp2_with fail
        go_ret
        exact ⟨rfl, hmod12⟩
theorem walkDiskFuse (v0 v1 : Value) (W : World) (r0 : Rd W 3 v0) (r1 : Rd W 3 v1) :
    Calls Try.prog 6 #[v0, v1] W fun e w' => e = .returned (.bool true) ∧ Below W.heap.size W w' := by
  obtain ⟨F, rfl, _⟩ := r0.int Try.underlying3
  obtain ⟨n, rfl, _⟩ := r1.int Try.underlying3
  by_cases hbad : F < 0 ∨ 100 < F ∨ n < 0 ∨ 100 < n
  · exact (lawDiskFuse_bad F n W hbad).mono fun e w' ⟨h1, h2⟩ => ⟨h1, h2.below⟩
  · obtain ⟨F, rfl⟩ := Int.eq_ofNat_of_zero_le (show 0 ≤ F by omega)
    obtain ⟨n, rfl⟩ := Int.eq_ofNat_of_zero_le (show 0 ≤ n by omega)
    exact (lawDiskFuse F n W (by omega) (by omega)).mono fun e w' ⟨h1, h2⟩ => ⟨h1, h2.below⟩
end Go.Proofs.Ytgfehfkcjgfekaa

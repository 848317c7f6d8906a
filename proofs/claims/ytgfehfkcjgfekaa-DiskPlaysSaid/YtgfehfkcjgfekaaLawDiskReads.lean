/- DiskReads: the walk. -/
import Derived.Test.YtgfehfkcjgfekaaLawDiskTwice
namespace Go.Proofs.Ytgfehfkcjgfekaa
open Go.RowKit

theorem IsDisk.trim {C : Nat → Prop} {w : World} {b bl bm : Nat} {d : DS} (h : IsDisk w b bl bm C d) : IsDisk w b bl bm (fun k => C k ∧ k < w.heap.size) d := by
  obtain ⟨vl, h1, h2, h3⟩ := h.lasts
  obtain ⟨vm, h4, h5⟩ := h.pend
  exact { h with
    lasts := ⟨vl, h1, h2, fun i a a' => ⟨(h3 i a a').1.mono (fun k hk hc => ⟨hc, hk⟩), (h3 i a a').2⟩⟩
    pend := ⟨vm, h4, h5.mono (fun k hk hc => ⟨hc, hk⟩)⟩
    c1 := fun hc => h.c1 hc.1, c2 := fun hc => h.c2 hc.1, c3 := fun hc => h.c3 hc.1 }
theorem bytes_of_ints : ∀ (l : List Int), (∀ x ∈ l, (Lit.int .u8 x).wf = true) → ∃ m : List UInt8, l.map (Value.int .u8) = bys m
  | [], _ => ⟨[], rfl⟩
  | x :: l, h => by
    obtain ⟨m, hm⟩ := bytes_of_ints l (fun y hy => h y (List.mem_cons_of_mem _ hy))
    have hx := h x (by simp)
    have hr : 0 ≤ x ∧ x ≤ 255 := by simpa [Lit.wf, IntKind.min, IntKind.max, IntKind.bits, IntKind.signed] using hx
    obtain ⟨n, rfl⟩ := Int.eq_ofNat_of_zero_le hr.1
    refine ⟨UInt8.ofNat n :: m, ?_⟩
    rw [List.map_cons, hm]
    show _ = Value.int .u8 ((UInt8.ofNat n).toNat : Int) :: bys m
    rw [UInt8.toNat_ofNat', Nat.mod_eq_of_lt (by omega)]
theorem Rd.bytes {w : World} {v : Value} (h : Rd w 22 v) : ∃ l : List UInt8, IsRow (· < w.heap.size) w v (bys l) ∧ l.length ≤ maxLen := by
  obtain ⟨l, hl, hn, hw⟩ := h.intRow Try.underlying22 Try.underlying5 (by kernel_rfl)
  obtain ⟨m, hm⟩ := bytes_of_ints l hw
  refine ⟨m, hm ▸ hl, ?_⟩
  have := congrArg List.length hm
  simp [bys_length] at this
  omega
/-- what is pending behind so many writes of texts, in order -/
def pend1 (f : Nat → UInt8) (i : Nat) : Int × List UInt8 := ((i : Int), textOf (f i) 64)
def pends (f : Nat → UInt8) (k : Nat) : List (Int × List UInt8) := (List.range k).map (pend1 f)
theorem pends_succ (f : Nat → UInt8) (k : Nat) : bput (pends f k) k (textOf (f k) 64) = pends f (k + 1) := by
  unfold bput
  rw [if_neg (by simp [pends, pend1]; omega)]
  simp [pends, List.range_succ, pend1]
theorem pends_length (f : Nat → UInt8) (k : Nat) : (pends f k).length = k := by simp [pends]
theorem pends_find (f : Nat → UInt8) (k i : Nat) (h : i < k) : (pends f k).find? (fun p => p.1 == (i : Int)) = some ((i : Int), textOf (f i) 64) := by
  induction k with
  | zero => omega
  | succ k ih =>
    rw [pends, List.range_succ, List.map_append, List.find?_append]
    by_cases hk : i < k
    · rw [← pends, ih hk]; rfl
    · obtain rfl : i = k := by omega
      have : (pends f i).find? (fun p => p.1 == (i : Int)) = none := by
        simp [pends, pend1]; omega
      rw [← pends, this]
      simp [pend1]
theorem read_pends (n : Nat) (f : Nat → UInt8) (k : Nat) (h : k < n) : DS.read ⟨List.replicate n zeros64, pends f n, -1, false⟩ (k : Int) = (textOf (f k) 64, 0) := by
  have hs : DS.sector ⟨List.replicate n zeros64, pends f n, -1, false⟩ (k : Int) = 0 := by simp [DS.sector]; omega
  simp only [DS.read, hs, pends_find f n k h]
  simp
theorem read_range (lasts : List (List UInt8)) (pend : List (Int × List UInt8)) (i : Int) (h : i < 0 ∨ (lasts.length : Int) ≤ i) : DS.read ⟨lasts, pend, -1, false⟩ i = ([], 1) := by
  have hs : DS.sector ⟨lasts, pend, -1, false⟩ i = 1 := by simp only [DS.sector]; rw [if_neg (by simp), if_pos h]
  simp [DS.read, hs]
theorem lawDiskReads_bad (p : Option Addr) (n c : Nat) (w : World) (h : n < 1 ∨ 60 < n) (hn : n ≤ 9223372036854775807) :
    Calls Try.prog 3 #[.slice p n c] w fun e w' => e = .returned (.bool true) ∧ Mod nil w w' := by
  have hcase : n < 1 ∨ (1 ≤ n ∧ 60 < n) := by omega
  rcases hcase with h | ⟨h, h'⟩
  all_goals
    go_enter Try.func3, Try.ntmps3
    go_wp2_with fail
    refine (diskFirst w).mono ?_
    rintro e w1 ⟨rfl, hm1⟩
    go_wp2_with fail
    refine (diskFirst w1).mono ?_
    rintro e w2 ⟨rfl, hm2⟩
    go_wp2_with fail
    go_ret
    exact ⟨rfl, hm1.thenNil hm2⟩
set_option maxRecDepth 100000 in
set_option maxHeartbeats 4000000 in
theorem lawDiskReads (v : Value) (l : List UInt8) (w : World) (hv : IsRow (· < w.heap.size) w v (bys l)) (h1 : 1 ≤ l.length) (h60 : l.length ≤ 60) :
    Calls Try.prog 3 #[v] w fun e w' => e = .returned (.bool true) ∧ Mod nil w w' := by
  obtain ⟨n, hn⟩ : ∃ n, l.length = n := ⟨_, rfl⟩
  rw [hn] at h1 h60
  have HV := Lib.hid hv
  obtain ⟨p, c, rfl, _⟩ := hv
  rw [bys_length] at *
  rw [hn]
  have HN := Lib.hid hn
  clear hn
  have hmk := make64
  go_enter Try.func3, Try.ntmps3
  go_wp2_with fail
  refine (diskFirst w).mono ?_
  rintro e w1 ⟨rfl, hm1⟩
  go_wp2_with fail
  refine (diskNew n w1 (by omega) (by omega)).mono ?_
  rintro e w2 ⟨d, bl, bm, C, rfl, hd2, hfoot, hm2⟩
  go_wp2_with fail
  have hn1 : w.heap.size ≤ w1.heap.size := hm1.size
  have hd := hfoot d (.inl rfl)
  have hbl := hfoot bl (.inr (.inl rfl))
  have hbm := hfoot bm (.inr (.inr (.inl rfl)))
  have hmod2 := hm1.thenNil hm2
  have HM2 := Lib.hid hmod2
  have HD2 := Lib.hid hd2
  clear hfoot hm1 hm2 hmod2 hd2 hmk
  go_loopw [6] (fun v wr => ∃ (k : Nat) (C : Nat → Prop), k ≤ n ∧ v = .int .i64 k ∧ (∀ j, C j → j < wr.heap.size) ∧ IsDisk wr d bl bm C ⟨List.replicate n zeros64, pends (fun i => l.getD i 0) k, -1, false⟩ ∧ Mod nil w wr) (fun v _ => n - (intOf v).toNat)
  case atStart => exact ⟨0, _, by omega, rfl, fun j hj => hj.2, HD2.out.trim, HM2.out⟩
  case round =>
    obtain ⟨k, C1, hk, rfl, hC1, hdk, hmod⟩ := hrel
    by_cases hlt : k < n
    · have hkl : k < l.length := by have := HN.out; omega
      obtain ⟨x, hx⟩ : ∃ x, l.getD k 0 = x := ⟨_, rfl⟩
      obtain ⟨p', c', hp', hck⟩ := HV.out.modNil hmod
      obtain ⟨ba, oa, hpa, hba, hbw, hcell⟩ := hck k (by simpa [bys_length] using hkl)
      simp only [Value.slice.injEq] at hp'
      obtain ⟨rfl, -, rfl⟩ := hp'
      subst hpa
      have hcx : wr.cell? ⟨ba, oa + k, none⟩ = some (.int .u8 x.toNat) := by rw [hcell, bys_getD _ _ hkl, hx]
      have HX := Lib.hid hx
      clear hcell hck hx hkl hba hbw
      go_wp2_with fail
      refine (lawText 0 0 64 x _ wr (by omega)).mono ?_
      rw [show (min (max (64 : Int) 0) 100).toNat = 64 from rfl]
      rintro e w3 ⟨g, rfl, hg, hh, hm3⟩
      have hl3 := heap_lt hdk.obj
      have hrow3 : IsRow (· = g) w3 (.slice (some ⟨g, 0, none⟩) 64 64) (bys (textOf x 64)) := IsRow.ofBlock (S := (· = g)) hh rfl 64 64 (by simp [bys_length, textOf_length])
      have HH := Lib.hid hh
      have hgl := heap_lt hh
      clear hh
      go_wp2_with fail
      refine (diskWrite d bl bm C1 (· = g) _ k _ (textOf x 64) _ (hdk.modNil hm3) hrow3 (show ¬ d = g by omega) (by simp [textOf_length])).mono ?_
      rw [write_ok _ _ (k : Int) (textOf x 64) (by simp; omega) (textOf_length _ _)]
      rintro e w4 ⟨C4, rfl, hd4, hC4, hm4⟩
      have hmod4 := (hmod.thenNil hm3).new hm4 (fun i hi => by omega)
      have hbmk : bm < wr.heap.size := by
        obtain ⟨vm, h4, _⟩ := hdk.pend
        exact h4.lt
      have hblk : bl < wr.heap.size := by
        obtain ⟨vl, h4, _⟩ := hdk.lasts
        exact heap_lt h4
      have hh4 := (hm4.block g hgl (by omega)).trans HH.out
      have c40 : w4.cell? ⟨g, 0, none⟩ = some (.int .u8 ((textOf x 64).getD 0 0).toNat) := by
        rw [cell_of hh4]
        simp [bys, textOf]
      have f40 : w4.frozen? ⟨g, 0, none⟩ = false := free_of hh4 0
      have HC4 := Lib.hid hC4
      have HD4 := Lib.hid hd4
      have hgl4 : g < w4.heap.size := heap_lt hh4
      have hg3 : g < w3.heap.size := hgl
      generalize ((textOf x 64).getD 0 0).toNat = y at c40
      clear hh4 hC4 hd4 hm4 hrow3 hm3 hdk
      go_wp2_with fail
      generalize bits BinOp.xor IntKind.u8 (y : Int) 1 = z
      have ms : Mod (· = g) w4 (w4.setCell ⟨g, 0, none⟩ (.int .u8 z)) := (Mod.refl (· = g) w4).setCell ⟨g, 0, none⟩ _ (fun _ => rfl)
      have hd5 := HD4.out.mod ms (fun j hj hf e => by
        subst e
        rcases hf with h | h | h | h
        · omega
        · omega
        · omega
        · rcases HC4.out _ h with h | h
          · have := hC1 _ h; omega
          · omega)
      rw [← HX.out, pends_succ (fun i => l.getD i 0) k] at hd5
      exact ⟨⟨k + 1, _, by omega, by go_num, fun j hj => hj.2, hd5.trim, hmod4.new ms (fun i hi => by omega)⟩, by simp [intOf]; omega⟩
    · obtain rfl : k = n := by omega
      go_wp2_with fail
      have hsz : wr.heap.size ≤ wr.heap.size := Nat.le_refl _
      have HDK := Lib.hid hdk
      have HMOD := Lib.hid hmod
      have hbmk : bm < wr.heap.size := by
        obtain ⟨vm, h4, _⟩ := hdk.pend
        exact h4.lt
      have hblk : bl < wr.heap.size := by
        obtain ⟨vl, h4, _⟩ := hdk.lasts
        exact heap_lt h4
      have hdlk : d < wr.heap.size := heap_lt hdk.obj
      clear hdk hmod
      generalize hs0 : wr.heap.size = s0 at hC1 hbmk hblk hdlk
      have HS0 := Lib.hid hs0
      clear hs0
      go_loopw [8] (fun v w2 => ∃ j : Nat, j ≤ k ∧ v = .int .i64 j ∧ s0 ≤ w2.heap.size ∧ IsDisk w2 d bl bm C1 ⟨List.replicate k zeros64, pends (fun i => l.getD i 0) k, -1, false⟩ ∧ Mod nil w w2) (fun v _ => k - (intOf v).toNat)
      case atStart => exact ⟨0, by omega, rfl, by have := HS0.out; omega, HDK.out, HMOD.out⟩
      case round =>
        obtain ⟨j, hj, rfl, hs2, hd2, hmod2⟩ := hrel
        by_cases hlt2 : j < k
        · have hkl : j < l.length := by have := HN.out; omega
          obtain ⟨x, hx⟩ : ∃ x, l.getD j 0 = x := ⟨_, rfl⟩
          go_wp2_with fail
          refine (diskRead d bl bm C1 _ j _ hd2).mono ?_
          rw [read_pends k _ j hlt2, hx]
          rintro e w3 ⟨v3, rfl, hv3, hm3⟩
          have hmod3 := hmod2.thenNil hm3
          have hd3 := hd2.modNil hm3
          have hs3 : s0 ≤ w3.heap.size := Nat.le_trans hs2 hm3.size
          obtain ⟨p', c', hp', hck⟩ := HV.out.modNil hmod3
          obtain ⟨ba, oa, hpa, hba, hbw, hcell⟩ := hck j (by simpa [bys_length] using hkl)
          simp only [Value.slice.injEq] at hp'
          obtain ⟨rfl, -, rfl⟩ := hp'
          subst hpa
          have hcx : w3.cell? ⟨ba, oa + j, none⟩ = some (.int .u8 x.toNat) := by rw [hcell, bys_getD _ _ hkl, hx]
          have HX := Lib.hid hx
          clear hcell hck hx hkl
          obtain ⟨pv, cv, rfl⟩ := hv3.form
          rw [textOf_length] at *
          go_wp2_with fail
          refine (lawText64 0 0 x _ w3).mono ?_
          rintro e w4 ⟨g4, rfl, hg4, hrow4, hm4⟩
          go_wp2_with fail
          refine (refBytes _ _ _ _ _ _ w4 (hv3.row.modNil hm4) hrow4).mono ?_
          rw [show decide ((textOf x 64, (0 : Int)).1 = textOf x 64) = true from by simp]
          rintro e w5 ⟨rfl, hm5⟩
          have hv5 := (hv3.modNil hm4).modNil hm5
          have hd5 := (hd3.modNil hm4).modNil hm5
          have hmod5 := (hmod3.thenNil hm4).thenNil hm5
          have hs5 : s0 ≤ w5.heap.size := Nat.le_trans hs3 (Nat.le_trans hm4.size hm5.size)
          have hcx5 := cell_kept (cell_kept hcx hm4 (Nat.lt_of_lt_of_le hbw (Nat.le_refl _)) (not_nil _)) hm5 (Nat.lt_of_lt_of_le hbw hm4.size) (not_nil _)
          clear hrow4 hm4 hm5 hg4 hd3 hmod3 hcx hv3 hm3
          obtain ⟨⟨hvl, hvc⟩, hvS⟩ := hv5
          rcases hvc with ⟨hvn, _⟩ | ⟨g, cap, cur, hve, hg0, hh, hcap, hcm, hcs, htk⟩
          · cases hvn
          have hgS : wr.heap.size ≤ g := hvS g (by rw [hve]; rfl)
          simp only [Value.slice.injEq, true_and] at hve
          obtain ⟨rfl, rfl⟩ := hve
          have cy : w5.cell? ⟨g, 5, none⟩ = some (.int .u8 ((textOf x 64).getD 5 0).toNat) := by
            rw [cell_of hh]
            have h5 := congrArg (fun z => z[5]?) htk
            simp only [Nat.mul_one] at h5
            rw [List.getElem?_take_of_lt (by omega)] at h5
            simp only [Array.getElem?_toList] at h5
            rw [h5]
            simp [bys, textOf]
          have fy : w5.frozen? ⟨g, 5, none⟩ = false := free_of hh 5
          generalize ((textOf x 64).getD 5 0).toNat = y at cy
          have HD5 := Lib.hid hd5
          have hgl := heap_lt hh
          have ms : ∀ z, Mod (· = g) w5 (w5.setCell ⟨g, 5, none⟩ z) := fun z => (Mod.refl (· = g) w5).setCell ⟨g, 5, none⟩ _ (fun _ => rfl)
          have hcx6 : ∀ z, (w5.setCell ⟨g, 5, none⟩ z).cell? ⟨ba, oa + j, none⟩ = some (.int .u8 x.toNat) := fun z => by
            have hsw := hmod2.size
            exact cell_kept hcx5 (ms z) (World.block_lt_of_cell? _ _ hcx5) (show ba ≠ g by omega)
          clear hh hvl htk hcs hcm hcap hg0 hvS hd5 hcx5
          go_wp2_with fail
          have hd6 := fun z => HD5.out.mod (ms z) (fun i hi hf e => by
            subst e
            rcases hf with h | h | h | h
            · omega
            · omega
            · omega
            · have := hC1 _ h; omega)
          have hmod6 := fun z => hmod5.new (ms z) (fun i hi => by have := hmod2.size; omega)
          have hs6 : ∀ z, s0 ≤ (w5.setCell ⟨g, 5, none⟩ z).heap.size := fun z => Nat.le_trans hs5 (ms z).size
          have hbw6 : ∀ z, ba < (w5.setCell ⟨g, 5, none⟩ z).heap.size := fun z => World.block_lt_of_cell? _ _ (hcx6 z)
          generalize bits BinOp.xor IntKind.u8 (y : Int) 7 = z
          have hd6' := hd6 (.int .u8 z)
          have hmod6' := hmod6 (.int .u8 z)
          have hs6' := hs6 (.int .u8 z)
          have hbw6' := hbw6 (.int .u8 z)
          have hcx6' := hcx6 (.int .u8 z)
          clear hd6 hmod6 hs6 hbw6 hcx6 ms cy fy HD5
          generalize w5.setCell ⟨g, 5, none⟩ (.int .u8 z) = w6 at *
          refine (diskRead d bl bm C1 _ j _ hd6').mono ?_
          rw [read_pends k _ j hlt2, HX.out]
          rintro e w7 ⟨v7, rfl, hv7, hm7⟩
          have hmod7 := hmod6'.thenNil hm7
          have hd7 := hd6'.modNil hm7
          have hcx7 := cell_kept hcx6' hm7 hbw6' (not_nil _)
          have hs7 : s0 ≤ w7.heap.size := Nat.le_trans hs6' hm7.size
          obtain ⟨pv7, cv7, rfl⟩ := hv7.form
          rw [textOf_length] at *
          clear hd6' hmod6' hcx6'
          go_wp2_with fail
          refine (lawText64 0 0 x _ w7).mono ?_
          rintro e w8 ⟨g8, rfl, hg8, hrow8, hm8⟩
          go_wp2_with fail
          refine (refBytes _ _ _ _ _ _ w8 (hv7.row.modNil hm8) hrow8).mono ?_
          rw [show decide ((textOf x 64, (0 : Int)).1 = textOf x 64) = true from by simp]
          rintro e w9 ⟨rfl, hm9⟩
          have hd9 := (hd7.modNil hm8).modNil hm9
          have hmod9 := (hmod7.thenNil hm8).thenNil hm9
          have hs9 : s0 ≤ w9.heap.size := Nat.le_trans hs7 (Nat.le_trans hm8.size hm9.size)
          clear hrow8 hm8 hm9 hg8 hd7 hmod7 hcx7 hv7 hm7
          go_wp2_with fail
          exact ⟨⟨j + 1, by omega, by go_num, hs9, hd9, hmod9⟩, by simp [intOf]; omega⟩
        · obtain rfl : j = k := by omega
          go_wp2_with fail
          refine (diskRead d bl bm C1 _ j _ hd2).mono ?_
          rw [read_range _ _ (j : Int) (by simp)]
          rintro e w3 ⟨v3, rfl, _, hm3⟩
          have hmod3 := hmod2.thenNil hm3
          have hd3 := hd2.modNil hm3
          clear hd2 hmod2 hm3
          go_wp2_with fail
          refine (diskRead d bl bm C1 _ (-1) _ hd3).mono ?_
          rw [read_range _ _ (-1) (by simp)]
          rintro e w4 ⟨v4, rfl, _, hm4⟩
          have hmod4 := hmod3.thenNil hm4
          have hd4 := hd3.modNil hm4
          clear hd3 hmod3 hm4
          go_wp2_with fail
          refine (diskFirst w4).mono ?_
          rintro e w5 ⟨rfl, hm5⟩
          have hmod5 := hmod4.thenNil hm5
          have hd5 := hd4.modNil hm5
          clear hd4 hmod4 hm5
          go_wp2_with fail
          refine (diskPending d bl bm C1 _ w5 hd5).mono ?_
          rw [pends_length]
          rintro e w6 ⟨rfl, rfl⟩
          go_wp2_with fail
          go_ret
          exact ⟨rfl, hmod5⟩
theorem walkDiskReads (v0 : Value) (W : World) (r0 : Rd W 22 v0) :
    Calls Try.prog 3 #[v0] W fun e w' => e = .returned (.bool true) ∧ Below W.heap.size W w' := by
  obtain ⟨l, hl, hn⟩ := r0.bytes
  by_cases hbad : l.length < 1 ∨ 60 < l.length
  · obtain ⟨p, c, rfl, _⟩ := hl
    rw [bys_length]
    exact (lawDiskReads_bad p l.length c W hbad (by unfold maxLen at hn; omega)).mono fun e w' ⟨h1, h2⟩ => ⟨h1, h2.below⟩
  · exact (lawDiskReads v0 l W hl (by omega) (by omega)).mono fun e w' ⟨h1, h2⟩ => ⟨h1, h2.below⟩
end Go.Proofs.Ytgfehfkcjgfekaa

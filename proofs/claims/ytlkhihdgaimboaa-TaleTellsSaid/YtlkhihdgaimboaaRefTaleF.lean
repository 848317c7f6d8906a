/- cflref27.Small. (Printed by wip/tools/gen_reftalef.py.) -/
import Derived.Test.YtlkhihdgaimboaaTaleE
import Derived.Test.YtlkhihdgaimboaaRefTale
namespace Go.Proofs.Ytlkhihdgaimboaa
open Go.RowKit
set_option maxRecDepth 100000 in
set_option maxHeartbeats 2000000 in
theorem refSmall (n : Int) (w : World) : Calls Try.prog 13 #[.int .i64 n] w fun e w' => ∃ v0 v1 gs, e = .returned (.agg #[v0, v1, .int .i64 400, .int .i64 4096, .int .i64 2048, .int .i64 200, .slice (some ⟨gs, 0, none⟩) 8 8]) ∧ Starts (w.heap.size ≤ ·) w' v0 (min (max n 2) 16).toNat ∧ Starts (w.heap.size ≤ ·) w' v1 (min (max n 2) 16).toNat ∧ w.heap.size ≤ gs ∧ w'.heap[gs]? = some (.cells (bys [1, 2, 3, 4, 5, 6, 7, 8]).toArray 5 (0, 0)) ∧ Mod nil w w' := by
  refine (?_ : ∀ Post : Ending → World → Prop, Hid (∀ e w', (∃ v0 v1 gs, e = .returned (.agg #[v0, v1, .int .i64 400, .int .i64 4096, .int .i64 2048, .int .i64 200, .slice (some ⟨gs, 0, none⟩) 8 8]) ∧ Starts (w.heap.size ≤ ·) w' v0 (min (max n 2) 16).toNat ∧ Starts (w.heap.size ≤ ·) w' v1 (min (max n 2) 16).toNat ∧ w.heap.size ≤ gs ∧ w'.heap[gs]? = some (.cells (bys [1, 2, 3, 4, 5, 6, 7, 8]).toArray 5 (0, 0)) ∧ Mod nil w w') → Post e w') → Calls Try.prog 13 #[.int .i64 n] w Post) _ (Lib.hid (fun _ _ h => h))
  intro Post HPOST
  obtain ⟨N, hN⟩ : ∃ N, (min (max n 2) 16).toNat = N := ⟨_, rfl⟩
  have hN16 : N ≤ 16 := by omega
  have HNN : Hid (min (max n 2) 16 = (N : Int)) := Lib.hid (by omega)
  rw [hN] at HPOST
  clear hN
  obtain ⟨i0, hi0, hz0, hz1, hz2⟩ := info_parts info_ints
  have HI0 := Lib.hid (And.intro hi0 (And.intro hz0 (And.intro hz1 hz2)))
  clear hi0 hz0 hz1 hz2
  go_enter Try.func13, Try.ntmps13
  go_upto_region 2 with (fail)
  obtain ⟨gt, hgt⟩ : ∃ gt, w.heap.size = gt := ⟨_, rfl⟩
  obtain ⟨gs, hgs⟩ : ∃ gs, w.heap.size + 1 = gs := ⟨_, rfl⟩
  obtain ⟨gc, hgc⟩ : ∃ gc, gs + 1 = gc := ⟨_, rfl⟩
  rw [hgs, hgc]
  generalize hw1 : World.alloc (World.alloc (World.alloc w _) _) _ = w1
  have hbt : w1.heap[gt]? = some (.cells #[.slice none 0 0, .slice none 0 0, .int .i64 0, .int .i64 0, .int .i64 0, .int .i64 0, .slice none 0 0] 44 (0, 0)) := by rw [← hw1, ← hgt]; exact heap_alloc_old (heap_alloc_old (heap_alloc_new _ _))
  have hbs : w1.heap[gs]? = some (.cells (bys [1, 2, 3, 4, 5, 6, 7, 8]).toArray 5 (0, 0)) := by
    rw [← hw1, ← hgs]
    refine heap_alloc_old ?_
    have := heap_alloc_new (World.alloc w (.cells #[.slice none 0 0, .slice none 0 0, .int .i64 0, .int .i64 0, .int .i64 0, .int .i64 0, .slice none 0 0] 44)) (.cells (bys [1, 2, 3, 4, 5, 6, 7, 8]).toArray 5)
    rw [World.size_alloc] at this
    exact this
  have hbc : w1.heap[gc]? = some (.cells #[.slice none 0 0, .slice none 0 0, .int .i64 400, .int .i64 4096, .int .i64 2048, .int .i64 200, .slice (some ⟨gs, 0, none⟩) 8 8] 44 (0, 0)) := by
    rw [← hw1, ← hgc, ← hgs]
    have := heap_alloc_new (World.alloc (World.alloc w (.cells #[.slice none 0 0, .slice none 0 0, .int .i64 0, .int .i64 0, .int .i64 0, .int .i64 0, .slice none 0 0] 44)) (.cells (bys [1, 2, 3, 4, 5, 6, 7, 8]).toArray 5)) (.cells #[.slice none 0 0, .slice none 0 0, .int .i64 400, .int .i64 4096, .int .i64 2048, .int .i64 200, .slice (some ⟨w.heap.size + 1, 0, none⟩) 8 8] 44)
    rw [World.size_alloc, World.size_alloc] at this
    exact this
  have hm1 : Mod nil w w1 := by rw [← hw1]; exact (((Mod.refl _ _).alloc _).alloc _).alloc _
  have hs1 : w1.heap.size = gc + 1 := by rw [← hw1]; simp; omega
  obtain ⟨g0, hg0⟩ : ∃ g0, gc + 1 = g0 := ⟨_, rfl⟩
  have HBT := Lib.hid hbt
  have HBS := Lib.hid hbs
  have HB1 := Lib.hid hbc
  have HM1 := Lib.hid hm1
  have HGC0 : Hid (gc < g0 ∧ gt < gc ∧ gs < gc ∧ w.heap.size ≤ gt ∧ w.heap.size ≤ gs ∧ w1.heap.size = g0 ∧ gt < gs) := Lib.hid (by omega)
  rw [hgt]
  clear hw1 hbt hbs hbc hm1 hs1 hg0 hgc hgs hgt
  go_wp2_with fail
  go_loopw [4] (fun v7 wr => ∃ k : Nat, v7 = .int .i64 k ∧ Hid (Mod (· = gc) w1 wr) ∧ ((k = 0 ∧ Hid (wr.heap[gc]? = some (.cells #[.slice none 0 0, .slice none 0 0, .int .i64 400, .int .i64 4096, .int .i64 2048, .int .i64 200, .slice (some ⟨gs, 0, none⟩) 8 8] 44 (0, 0)))) ∨ (k = 1 ∧ ∃ pa ca, Hid (wr.heap[gc]? = some (.cells #[.slice pa N ca, .slice none 0 0, .int .i64 400, .int .i64 4096, .int .i64 2048, .int .i64 200, .slice (some ⟨gs, 0, none⟩) 8 8] 44 (0, 0))) ∧ Hid (Starts (g0 ≤ ·) wr (.slice pa N ca) N)) ∨ (k = 2 ∧ ∃ pa ca pb cb, Hid (wr.heap[gc]? = some (.cells #[.slice pa N ca, .slice pb N cb, .int .i64 400, .int .i64 4096, .int .i64 2048, .int .i64 200, .slice (some ⟨gs, 0, none⟩) 8 8] 44 (0, 0))) ∧ Hid (Starts (g0 ≤ ·) wr (.slice pa N ca) N) ∧ Hid (Starts (g0 ≤ ·) wr (.slice pb N cb) N)))) (fun v _ => 2 - (intOf v).toNat)
  case atStart => exact ⟨0, rfl, Lib.hid (Mod.refl _ _), .inl ⟨rfl, HB1⟩⟩
  case round =>
    obtain ⟨k, rfl, HM, hcase⟩ := hrel
    obtain ⟨H, hH⟩ : ∃ H, wr.heap.size = H := ⟨_, rfl⟩
    have HH : Hid (wr.heap.size = H) := Lib.hid hH
    have HG0 : Hid (g0 ≤ H) := Lib.hid (by have := HM.out.size; have := HGC0.out; omega)
    have HGC : Hid (gc < H) := Lib.hid (by have := HG0.out; have := HGC0.out; omega)
    clear hH
    rcases hcase with ⟨rfl, HB0⟩ | ⟨rfl, pa, ca, HB0, HSTA⟩ | ⟨rfl, pa, ca, pb, cb, HB0, HSTA, HSTB⟩

    · rw [show (((0 : Nat)) : Int) = (0 : Int) from rfl]
      go_wp2_with fail
      go_loopw [5] (fun v13 wx => ∃ (i : Nat) (p : Option Addr) (q : Nat), v13 = .int .i64 i ∧ i ≤ N ∧ Hid (wx.heap[gc]? = some (.cells #[.slice p i q, .slice none 0 0, .int .i64 400, .int .i64 4096, .int .i64 2048, .int .i64 200, .slice (some ⟨gs, 0, none⟩) 8 8] 44 (0, 0))) ∧ Hid (Starts (H ≤ ·) wx (.slice p i q) i) ∧ Hid (Mod (· = gc) wr wx)) (fun v _ => N - (intOf v).toNat)
      case atStart => exact ⟨0, none, 0, rfl, by omega, HB0, Lib.hid (Starts.nil _ _), Lib.hid (Mod.refl _ _)⟩
      case round =>
        rename World => wx
        obtain ⟨i, p, q, rfl, hi, HBX, HSTX, HMX⟩ := hrel
        by_cases hlt : i < N
        · obtain ⟨xs, hvx, hrx⟩ := HSTX.out
          have HHX : Hid (H ≤ wx.heap.size) := Lib.hid (by have := HMX.out.size; have := HH.out; omega)
          have cld := cell_of HBX.out 0
          simp only [List.getElem?_toArray, List.getElem?_cons_zero, List.getElem?_cons_succ] at cld
          have hmc : Mod nil wx ((wx.alloc (.cells #[.int .i64 1000, .int .i64 1000] 3)).alloc (.cells #[.slice (some ⟨wx.heap.size, 0, none⟩) 2 2] 27)) := ((Mod.refl nil wx).alloc _).alloc _
          have hc1 := cells_at (wx.alloc (.cells #[.int .i64 1000, .int .i64 1000] 3)) 27 [.slice (some ⟨wx.heap.size, 0, none⟩) 2 2] 1 1 (wx.heap.size + 1) (by simp)
          have hbr : ((wx.alloc (.cells #[.int .i64 1000, .int .i64 1000] 3)).alloc (.cells #[.slice (some ⟨wx.heap.size, 0, none⟩) 2 2] 27)).heap[wx.heap.size]? = some (.cells #[.int .i64 1000, .int .i64 1000] 3 (0, 0)) := heap_alloc_old (heap_alloc_new _ _)
          obtain ⟨v8, w8, hrun, hv8, hm8⟩ := vec_append (P := Try.prog) 41 41 27 i0 (.slice none 0 0) 1 24 Try.underlying41 HI0.out.1 HI0.out.2.1 HI0.out.2.2.1 HI0.out.2.2.2 rfl (by omega) (hvx.modNil hmc).own hc1 rfl (by simp [Value.oneCell']) (by unfold maxLen; omega) (by omega)
          obtain ⟨p8, q8, rfl⟩ := hv8.form
          have hst8 : Starts (H ≤ ·) w8 (.slice p8 (i + 1) q8) (i + 1) := starts_snoc hvx hrx hmc hbr (show H ≤ wx.heap.size from HHX.out) hv8 hm8 (fun k hk => Nat.le_trans HHX.out (Nat.le_trans hmc.size hk))
          have hmw8 : Mod (· = gc) wr w8 := (HMX.out.thenNil hmc).trans hm8 (fun k hk h => by have := hvx.2 k h; have := HH.out; omega)
          have hb8 : w8.heap[gc]? = some (.cells #[.slice p i q, .slice none 0 0, .int .i64 400, .int .i64 4096, .int .i64 2048, .int .i64 200, .slice (some ⟨gs, 0, none⟩) 8 8] 44 (0, 0)) := (hm8.block gc (heap_lt (hmc.keep HBX.out)) (fun h => by have := hvx.2 gc h; have := HGC.out; omega)).trans (hmc.keep HBX.out)
          have cl8 := cell_of hb8 0
          have fl8 := free_of hb8 0
          simp only [List.getElem?_toArray, List.getElem?_cons_zero, List.getElem?_cons_succ] at cl8
          have HB9 : Hid ((w8.setCell ⟨gc, 0, none⟩ (.slice p8 (i + 1) q8)).heap[gc]? = some (.cells #[.slice p8 (i + 1) q8, .slice none 0 0, .int .i64 400, .int .i64 4096, .int .i64 2048, .int .i64 200, .slice (some ⟨gs, 0, none⟩) 8 8] 44 (0, 0))) := Lib.hid (heap_setCell_same hb8 _)
          have HM9 : Hid (Mod (· = gc) wr (w8.setCell ⟨gc, 0, none⟩ (.slice p8 (i + 1) q8))) := Lib.hid (hmw8.setCell _ _ (fun _ => rfl))
          have HST9 : Hid (Starts (H ≤ ·) (w8.setCell ⟨gc, 0, none⟩ (.slice p8 (i + 1) q8)) (.slice p8 (i + 1) q8) (i + 1)) := Lib.hid (hst8.mod (T := (· = gc)) ((Mod.refl _ w8).setCell _ _ (fun _ => rfl)) (fun k _ h1 h2 => by have := HGC.out; omega))
          have HRUN := Lib.hid hrun
          clear hst8 hmw8 hb8 hv8 hm8 hmc hc1 hbr hrun hvx hrx
          go_wp2_with fail
          refine (refParties n N HNN.out _).mono ?_
          rintro e w' ⟨rfl, rfl⟩
          go_wp2_with (first | (at_builtin; refine wpList_append_run rfl _ _ _ _ rfl rfl rfl HRUN.out ?_))
          exact ⟨⟨i + 1, p8, q8, by go_num, by omega, HB9, HST9, HM9⟩, by simp [intOf] <;> omega⟩
        · obtain rfl : i = N := by omega
          have HF : Hid (Starts (g0 ≤ ·) wx (.slice p i q) i) := Lib.hid (HSTX.out.mono (fun k _ h => by have := HG0.out; omega))
          have HMF := Lib.hid (HM.out.trans HMX.out (fun _ _ h => h))
          go_wp2_with fail
          refine (refParties n i HNN.out _).mono ?_
          rintro e w' ⟨rfl, rfl⟩
          go_wp2_with fail
          exact ⟨⟨1, rfl, HMF, .inr (.inl ⟨rfl, p, q, HBX, HF⟩)⟩, by simp [intOf]⟩
    · rw [show (((1 : Nat)) : Int) = (1 : Int) from rfl]
      go_wp2_with fail
      go_loopw [5] (fun v13 wx => ∃ (i : Nat) (p : Option Addr) (q : Nat), v13 = .int .i64 i ∧ i ≤ N ∧ Hid (wx.heap[gc]? = some (.cells #[.slice pa N ca, .slice p i q, .int .i64 400, .int .i64 4096, .int .i64 2048, .int .i64 200, .slice (some ⟨gs, 0, none⟩) 8 8] 44 (0, 0))) ∧ Hid (Starts (H ≤ ·) wx (.slice p i q) i) ∧ Hid (Mod (· = gc) wr wx)) (fun v _ => N - (intOf v).toNat)
      case atStart => exact ⟨0, none, 0, rfl, by omega, HB0, Lib.hid (Starts.nil _ _), Lib.hid (Mod.refl _ _)⟩
      case round =>
        rename World => wx
        obtain ⟨i, p, q, rfl, hi, HBX, HSTX, HMX⟩ := hrel
        by_cases hlt : i < N
        · obtain ⟨xs, hvx, hrx⟩ := HSTX.out
          have HHX : Hid (H ≤ wx.heap.size) := Lib.hid (by have := HMX.out.size; have := HH.out; omega)
          have cld := cell_of HBX.out 1
          simp only [List.getElem?_toArray, List.getElem?_cons_zero, List.getElem?_cons_succ] at cld
          have hmc : Mod nil wx ((wx.alloc (.cells #[.int .i64 1000, .int .i64 1000] 3)).alloc (.cells #[.slice (some ⟨wx.heap.size, 0, none⟩) 2 2] 27)) := ((Mod.refl nil wx).alloc _).alloc _
          have hc1 := cells_at (wx.alloc (.cells #[.int .i64 1000, .int .i64 1000] 3)) 27 [.slice (some ⟨wx.heap.size, 0, none⟩) 2 2] 1 1 (wx.heap.size + 1) (by simp)
          have hbr : ((wx.alloc (.cells #[.int .i64 1000, .int .i64 1000] 3)).alloc (.cells #[.slice (some ⟨wx.heap.size, 0, none⟩) 2 2] 27)).heap[wx.heap.size]? = some (.cells #[.int .i64 1000, .int .i64 1000] 3 (0, 0)) := heap_alloc_old (heap_alloc_new _ _)
          obtain ⟨v8, w8, hrun, hv8, hm8⟩ := vec_append (P := Try.prog) 41 41 27 i0 (.slice none 0 0) 1 24 Try.underlying41 HI0.out.1 HI0.out.2.1 HI0.out.2.2.1 HI0.out.2.2.2 rfl (by omega) (hvx.modNil hmc).own hc1 rfl (by simp [Value.oneCell']) (by unfold maxLen; omega) (by omega)
          obtain ⟨p8, q8, rfl⟩ := hv8.form
          have hst8 : Starts (H ≤ ·) w8 (.slice p8 (i + 1) q8) (i + 1) := starts_snoc hvx hrx hmc hbr (show H ≤ wx.heap.size from HHX.out) hv8 hm8 (fun k hk => Nat.le_trans HHX.out (Nat.le_trans hmc.size hk))
          have hmw8 : Mod (· = gc) wr w8 := (HMX.out.thenNil hmc).trans hm8 (fun k hk h => by have := hvx.2 k h; have := HH.out; omega)
          have hb8 : w8.heap[gc]? = some (.cells #[.slice pa N ca, .slice p i q, .int .i64 400, .int .i64 4096, .int .i64 2048, .int .i64 200, .slice (some ⟨gs, 0, none⟩) 8 8] 44 (0, 0)) := (hm8.block gc (heap_lt (hmc.keep HBX.out)) (fun h => by have := hvx.2 gc h; have := HGC.out; omega)).trans (hmc.keep HBX.out)
          have cl8 := cell_of hb8 1
          have fl8 := free_of hb8 1
          simp only [List.getElem?_toArray, List.getElem?_cons_zero, List.getElem?_cons_succ] at cl8
          have HB9 : Hid ((w8.setCell ⟨gc, 1, none⟩ (.slice p8 (i + 1) q8)).heap[gc]? = some (.cells #[.slice pa N ca, .slice p8 (i + 1) q8, .int .i64 400, .int .i64 4096, .int .i64 2048, .int .i64 200, .slice (some ⟨gs, 0, none⟩) 8 8] 44 (0, 0))) := Lib.hid (heap_setCell_same hb8 _)
          have HM9 : Hid (Mod (· = gc) wr (w8.setCell ⟨gc, 1, none⟩ (.slice p8 (i + 1) q8))) := Lib.hid (hmw8.setCell _ _ (fun _ => rfl))
          have HST9 : Hid (Starts (H ≤ ·) (w8.setCell ⟨gc, 1, none⟩ (.slice p8 (i + 1) q8)) (.slice p8 (i + 1) q8) (i + 1)) := Lib.hid (hst8.mod (T := (· = gc)) ((Mod.refl _ w8).setCell _ _ (fun _ => rfl)) (fun k _ h1 h2 => by have := HGC.out; omega))
          have HRUN := Lib.hid hrun
          clear hst8 hmw8 hb8 hv8 hm8 hmc hc1 hbr hrun hvx hrx
          go_wp2_with fail
          refine (refParties n N HNN.out _).mono ?_
          rintro e w' ⟨rfl, rfl⟩
          go_wp2_with (first | (at_builtin; refine wpList_append_run rfl _ _ _ _ rfl rfl rfl HRUN.out ?_))
          exact ⟨⟨i + 1, p8, q8, by go_num, by omega, HB9, HST9, HM9⟩, by simp [intOf] <;> omega⟩
        · obtain rfl : i = N := by omega
          have HF : Hid (Starts (g0 ≤ ·) wx (.slice p i q) i) := Lib.hid (HSTX.out.mono (fun k _ h => by have := HG0.out; omega))
          have HF0 : Hid (Starts (g0 ≤ ·) wx (.slice pa i ca) i) := Lib.hid (HSTA.out.mod HMX.out (fun k _ h1 h2 => by have := HGC0.out; omega))
          have HMF := Lib.hid (HM.out.trans HMX.out (fun _ _ h => h))
          go_wp2_with fail
          refine (refParties n i HNN.out _).mono ?_
          rintro e w' ⟨rfl, rfl⟩
          go_wp2_with fail
          exact ⟨⟨2, rfl, HMF, .inr (.inr ⟨rfl, pa, ca, p, q, HBX, HF0, HF⟩)⟩, by simp [intOf]⟩
    · rw [show (((2 : Nat)) : Int) = (2 : Int) from rfl]
      have hbt : wr.heap[gt]? = some (.cells #[.slice none 0 0, .slice none 0 0, .int .i64 0, .int .i64 0, .int .i64 0, .int .i64 0, .slice none 0 0] 44 (0, 0)) := (HM.out.block gt (heap_lt HBT.out) (by have := HGC0.out; omega)).trans HBT.out
      have hbs : wr.heap[gs]? = some (.cells (bys [1, 2, 3, 4, 5, 6, 7, 8]).toArray 5 (0, 0)) := (HM.out.block gs (heap_lt HBS.out) (by have := HGC0.out; omega)).trans HBS.out
      have hgts : gt ≠ gs ∧ gt < g0 := by have := HGC0.out; omega
      have hEND : ∀ w', Mod (· = gt) wr w' → Post (.returned (.agg #[.slice pa N ca, .slice pb N cb, .int .i64 400, .int .i64 4096, .int .i64 2048, .int .i64 200, .slice (some ⟨gs, 0, none⟩) 8 8])) w' := fun w' m =>
        HPOST.out _ _ ⟨_, _, gs, rfl, (HSTA.out.mod m (fun k _ h1 h2 => by have := HGC0.out; omega)).mono (fun k _ h => by have := HGC0.out; omega), (HSTB.out.mod m (fun k _ h1 h2 => by have := HGC0.out; omega)).mono (fun k _ h => by have := HGC0.out; omega), by have := HGC0.out; omega, (m.block gs (heap_lt hbs) (fun h => hgts.1 h.symm)).trans hbs,
          (HM1.out.trans HM.out (fun k hk h => by have := HGC0.out; omega)).trans m (fun k hk h => by have := HGC0.out; omega)⟩
      have HEND := Lib.hid hEND
      have c0 := cell_of HB0.out 0
      have c1 := cell_of HB0.out 1
      have c2 := cell_of HB0.out 2
      have c3 := cell_of HB0.out 3
      have c4 := cell_of HB0.out 4
      have c5 := cell_of HB0.out 5
      have c6 := cell_of HB0.out 6
      have d0 := cell_of hbt 0
      have d1 := cell_of hbt 1
      have d2 := cell_of hbt 2
      have d3 := cell_of hbt 3
      have d4 := cell_of hbt 4
      have d5 := cell_of hbt 5
      have d6 := cell_of hbt 6
      simp only [List.getElem?_toArray, List.getElem?_cons_zero, List.getElem?_cons_succ] at c0 c1 c2 c3 c4 c5 c6 d0 d1 d2 d3 d4 d5 d6
      have f0 := free_of hbt 0
      have f1 := free_of hbt 1
      have f2 := free_of hbt 2
      have f3 := free_of hbt 3
      have f4 := free_of hbt 4
      have f5 := free_of hbt 5
      have f6 := free_of hbt 6
      have HBTR := Lib.hid hbt
      clear hbt hbs hgts hEND
      go_wp2_with fail
      have h7 := set_cells7 HBTR.out (.slice pa N ca) (.slice pb N cb) (.int .i64 400) (.int .i64 4096) (.int .i64 2048) (.int .i64 200) (.slice (some ⟨gs, 0, none⟩) 8 8)
      generalize World.setCell (World.setCell (World.setCell (World.setCell (World.setCell (World.setCell (World.setCell wr _ _) _ _) _ _) _ _) _ _) _ _) _ _ = w7 at *
      refine bodyPost_ret (results_cell_row rfl _ _ gt 44 #[.slice pa N ca, .slice pb N cb, .int .i64 400, .int .i64 4096, .int .i64 2048, .int .i64 200, .slice (some ⟨gs, 0, none⟩) 8 8] (0, 0) _ rfl h7.1 Try.underlying44 rfl info_conf) rfl ?_
      exact HEND.out _ h7.2
end Go.Proofs.Ytlkhihdgaimboaa

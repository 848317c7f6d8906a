/- The walk over MeterPlays. -/
import Derived.Test.YtcofpkgoblfjdaaLawMeterB
namespace Go.Proofs.Ytcofpkgoblfjdaa
open Go.RowKit

/-- an operation of the statement's: kind, counter, number -/
structure MOp where
  kind : Int
  k : Int
  n : Int
/-- a slice of operations -/
def IsOps (w : World) (v : Value) (l : List MOp) : Prop :=
  ∃ p c, v = .slice p l.length c ∧ ∀ i, (hi : i < l.length) → ∃ b off, p = some ⟨b, off, none⟩ ∧ b < w.heap.size ∧
    w.cell? ⟨b, off + i * 3, none⟩ = some (.int .i64 l[i].kind) ∧ w.cell? ⟨b, off + i * 3 + 1, none⟩ = some (.int .i64 l[i].k) ∧ w.cell? ⟨b, off + i * 3 + 2, none⟩ = some (.int .i64 l[i].n)
theorem Rd.ops {w : World} {v : Value} (h : Rd w 32 v) : ∃ l : List MOp, IsOps w v l ∧ l.length ≤ maxLen := by
  have hsz : Try.prog.cellsOf 34 = 3 := by kernel_rfl
  obtain ⟨p, len, cap, rfl, hl, hm, hall⟩ := h.slice Try.underlying32 (by omega)
  have : ∀ i, i < len → ∃ x : MOp, ∃ b off, p = some ⟨b, off, none⟩ ∧ b < w.heap.size ∧
    w.cell? ⟨b, off + i * 3, none⟩ = some (.int .i64 x.kind) ∧ w.cell? ⟨b, off + i * 3 + 1, none⟩ = some (.int .i64 x.k) ∧ w.cell? ⟨b, off + i * 3 + 2, none⟩ = some (.int .i64 x.n) := by
    intro i hi
    obtain ⟨b, off, cs', hp, hb, hlen, hcell, hrc⟩ := hall i hi
    rw [hsz] at hlen hcell
    obtain ⟨_, hf⟩ := hrc.struct Try.underlying34
    have hi1 : Try.prog.cellsOf 3 = 1 := by kernel_rfl
    match cs', hlen with
    | [c0, c1, c2], _ =>
      have f0 : Rc w 3 [c0] := by simpa [hi1] using hf 0 _ rfl
      have f1 : Rc w 3 [c1] := by simpa [hi1] using hf 1 _ rfl
      have f2 : Rc w 3 [c2] := by simpa [hi1] using hf 2 _ rfl
      obtain ⟨n0, h0, _⟩ := f0.int Try.underlying3
      obtain ⟨n1, h1, _⟩ := f1.int Try.underlying3
      obtain ⟨n2, h2, _⟩ := f2.int Try.underlying3
      simp at h0 h1 h2
      subst h0; subst h1; subst h2
      exact ⟨⟨n0, n1, n2⟩, b, off, hp, hb, by simpa using hcell 0 (by simp), by simpa using hcell 1 (by simp), by simpa using hcell 2 (by simp)⟩
  obtain ⟨l, hlen, hP⟩ := choose_list this
  exact ⟨l, ⟨p, cap, by rw [hlen], hP⟩, by omega⟩
set_option maxHeartbeats 1000000 in
theorem lawPlays_bad (p : Option Addr) (n c : Nat) (w : World) (hbad : 500 < n) (hn : n ≤ 9223372036854775807) :
    Calls Try.prog 4 #[.slice p n c] w fun e w' => e = .returned (.bool true) ∧ Mod nil w w' := by
  go_enter Try.func4, Try.ntmps4
  go_wp2_with fail
  refine (lawFirst _).mono ?_
  rintro e w1 ⟨rfl, hmod1⟩
  go_wp2_with fail
  refine (meterNew _).mono ?_
  rintro e w2 ⟨b2, rfl, hb2, hm, hmod2⟩
  go_wp2_with fail
  refine (lawFirst _).mono ?_
  rintro e w4 ⟨rfl, hmod4⟩
  go_wp2_with fail
  go_ret
  exact ⟨rfl, (hmod1.thenNil hmod2).thenNil hmod4⟩
/-- an operation in a round lies in a block of its own -/
def IsOp (w : World) (b : Nat) (o : MOp) : Prop := w.heap[b]? = some (.cells #[.int .i64 o.kind, .int .i64 o.k, .int .i64 o.n] 34 (0, 0))
set_option maxRecDepth 100000 in
set_option maxHeartbeats 8000000 in
theorem lawPlays (v : Value) (l : List MOp) (w : World) (hl : IsOps w v l) (h0 : l.length ≤ 500) :
    Calls Try.prog 4 #[v] w fun e w' => e = .returned (.bool true) ∧ Mod nil w w' := by
  obtain ⟨p, c, rfl, hc⟩ := hl
  have hmk : ∀ w, (Instr.makeSlice 22 (.int .i64 8) (.int .i64 8)).run Try.prog w = .ok (.slice (some ⟨w.heap.size, 0, none⟩) 8 8) (w.alloc (.cells (ints [0,0,0,0,0,0,0,0]) 3)) := fun _ => by kernel_rfl
  go_enter Try.func4, Try.ntmps4
  go_wp2_with fail
  refine (lawFirst _).mono ?_
  rintro e w1 ⟨rfl, hmod1⟩
  go_wp2_with fail
  refine (meterNew _).mono ?_
  rintro e w2 ⟨b2, rfl, hb2, hm2, hmod2⟩
  have s1 := hmod1.size
  have s2 := hm2.lt
  go_wp2_with fail
  clear hmk
  obtain ⟨bw, hbw⟩ : ∃ bw, bw = w2.heap.size := ⟨_, rfl⟩
  rw [← hbw]
  have hm3 : IsMeter (w2.alloc (.cells (ints [0,0,0,0,0,0,0,0]) 3)) b2 [0,0,0,0,0,0,0,0] := hm2.mod ((Mod.refl nil _).alloc _) (not_nil _)
  have hr3 : (w2.alloc (.cells (ints [0,0,0,0,0,0,0,0]) 3)).heap[bw]? = some (.cells (ints [0,0,0,0,0,0,0,0]) 3 (0, 0)) := by rw [hbw]; exact heap_alloc_new _ _
  have hmod3 := (hmod1.thenNil hmod2).alloc (.cells (ints [0,0,0,0,0,0,0,0]) 3)
  have hne : b2 < bw := by omega
  have hgw : w.heap.size ≤ bw := by omega
  have hg2 : w.heap.size ≤ b2 := by omega
  clear hbw hm2 hmod1 hmod2 s1 s2 hb2
  generalize w2.alloc (.cells (ints [0,0,0,0,0,0,0,0]) 3) = w3 at hm3 hr3 hmod3 ⊢
  go_loopw [5] (fun vi wr => ∃ i : Nat, i ≤ l.length ∧ vi = .int .i64 i ∧ ∃ s : List Int, IsMeter wr b2 s ∧ wr.heap[bw]? = some (.cells (ints s) 3 (0, 0)) ∧ Mod nil w wr) (fun vi _ => l.length - (intOf vi).toNat)
  case atStart => exact ⟨0, by omega, rfl, _, hm3, hr3, hmod3⟩
  case round =>
    obtain ⟨i, hi, rfl, s, hma, hrow, hmod⟩ := hrel
    clear hm3 hr3 hmod3
    by_cases hlt : i < l.length
    · obtain ⟨b, off, rfl, hbw, hx0, hx1, hx2⟩ := hc i hlt
      obtain ⟨⟨kind, k, n⟩, ho⟩ : ∃ o, l[i] = o := ⟨_, rfl⟩
      rw [ho] at hx0 hx1 hx2
      clear ho hc
      have c0 := cell_kept hx0 hmod hbw (not_nil _)
      have c1 := cell_kept hx1 hmod hbw (not_nil _)
      have c2 := cell_kept hx2 hmod hbw (not_nil _)
      clear hx0 hx1 hx2
      simp only at c0 c1 c2
      go_upto_region 11 with (fail)
      obtain ⟨bo, hbo⟩ : ∃ bo, bo = wr.heap.size := ⟨_, rfl⟩
      rw [← hbo]
      have hto : IsOp (wr.alloc (.cells #[.int .i64 kind, .int .i64 k, .int .i64 n] 34)) bo ⟨kind, k, n⟩ := by rw [hbo]; exact heap_alloc_new _ _
      have hmo := hma.mod ((Mod.refl nil _).alloc (.cells #[.int .i64 kind, .int .i64 k, .int .i64 n] 34)) (not_nil _)
      have hro := heap_alloc_old (o := .cells #[.int .i64 kind, .int .i64 k, .int .i64 n] 34) hrow
      have hmodo := hmod.alloc (.cells #[.int .i64 kind, .int .i64 k, .int .i64 n] 34)
      have hn1 : b2 < bo := by have := hma.lt; omega
      have hn2 : bw < bo := by have := heap_lt hrow; omega
      clear hbo c0 c1 c2 hma hrow hmod
      generalize wr.alloc (.cells #[.int .i64 kind, .int .i64 k, .int .i64 n] 34) = wo at hto hmo hro hmodo ⊢
      have q0 : wo.cell? ⟨bo, 0, none⟩ = some (.int .i64 kind) := cell_of hto 0
      have q1 : wo.cell? ⟨bo, 1, none⟩ = some (.int .i64 k) := cell_of hto 1
      have q2 : wo.cell? ⟨bo, 2, none⟩ = some (.int .i64 n) := cell_of hto 2
      have hkind : kind = 0 ∨ kind = 1 ∨ kind = 2 ∨ ((kind == 0) = false ∧ (kind == 1) = false ∧ (kind == 2) = false) := by
        simp only [beq_eq_false_iff_ne]; omega
      by_cases hin : 0 ≤ k ∧ k < 8
      · obtain ⟨hk0, hk8'⟩ := hin
        obtain ⟨k, rfl⟩ := Int.eq_ofNat_of_zero_le hk0
        have hk8 : k < 8 := by omega
        have hlk : k < s.length := by rw [hmo.1]; exact hk8
        have hw0 : wo.cell? ⟨bw, k, none⟩ = some (.int .i64 (s.getD k 0)) := by rw [cell_of hro, ints_get hlk]
        have HN : Hid (∀ x : Int, (s.set k x).getD k 0 = x) := fun x => by simp [hlk]
        obtain ⟨x, hx⟩ : ∃ x, s.getD k 0 = x := ⟨_, rfl⟩
        rw [hx] at hw0
        have HX := Lib.hid hx
        clear hx
        rcases hkind with rfl | rfl | rfl | ⟨hk1, hk2, hk3⟩
        · go_wp2_with fail
          refine (meterAdd _ _ _ (by omega) (by omega) _ _ hmo).mono ?_
          rw [Int.toNat_natCast, HX.out]
          rintro e w5 ⟨rfl, hm5, hmod5⟩
          have hr5 := (hmod5.ne bw (heap_lt hro) (by omega)).trans hro
          have ho5 : IsOp w5 bo _ := (hmod5.ne bo (heap_lt hto) (by omega)).trans hto
          have hf5 : w5.frozen? ⟨bw, k, none⟩ = false := free_of hr5 k
          have hw5 : w5.cell? ⟨bw, k, none⟩ = some (.int .i64 x) := by rw [cell_of hr5, ints_get hlk, HX.out]
          have q1 : w5.cell? ⟨bo, 1, none⟩ = some (.int .i64 k) := cell_of ho5 1
          have q2 : w5.cell? ⟨bo, 2, none⟩ = some (.int .i64 n) := cell_of ho5 2
          have hm6 := hm5.ne ((Mod.refl (· = bw) _).setCell ⟨bw, k, none⟩ (.int .i64 (wrap64 (x + n))) (fun _ => rfl)) (by omega)
          have hr6 : (w5.setCell ⟨bw, k, none⟩ (.int .i64 (wrap64 (x + n)))).heap[bw]? = some (.cells (ints (s.set k (wrap64 (x + n)))) 3 (0, 0)) := by rw [heap_setCell_same hr5, ints_set]
          have hd6 := ((hmodo.new hmod5 (by omega)).setCell ⟨bw, k, none⟩ (.int .i64 (wrap64 (x + n))) (fun h => absurd h (by simp; omega)))
          go_wp2_with fail
          refine (meterGet _ _ _ (by omega) (by omega) _ hm6).mono ?_
          rw [Int.toNat_natCast, HN.out]
          rintro e w' ⟨rfl, rfl⟩
          go_wp2_with fail
          refine (meterAll _ _ _ hm6).mono ?_
          rintro e w9 ⟨b9, rfl, hb9, hr9, hmod9⟩
          have hro9 := hmod9.keep hr6
          have hmo9 := hm6.mod hmod9 (not_nil _)
          go_wp2_with fail
          refine (refInts_blocks _ _ _ _ 8 _ _ _ _ hr9 hro9 hm6.1.symm (by omega)).mono ?_
          rintro e w10 ⟨rfl, hmod10⟩
          go_wp2_with fail
          exact ⟨⟨i + 1, by omega, by go_num, _, hmo9.mod hmod10 (not_nil _), hmod10.keep hro9, (hd6.thenNil hmod9).thenNil hmod10⟩, by simp [intOf]; omega⟩
        · go_wp2_with fail
          refine (meterSwap _ _ _ (by omega) (by omega) _ _ hmo).mono ?_
          rw [Int.toNat_natCast, HX.out]
          rintro e w5 ⟨rfl, hm5, hmod5⟩
          have hr5 := (hmod5.ne bw (heap_lt hro) (by omega)).trans hro
          have ho5 : IsOp w5 bo _ := (hmod5.ne bo (heap_lt hto) (by omega)).trans hto
          have hf5 : w5.frozen? ⟨bw, k, none⟩ = false := free_of hr5 k
          have hw5 : w5.cell? ⟨bw, k, none⟩ = some (.int .i64 x) := by rw [cell_of hr5, ints_get hlk, HX.out]
          have q1 : w5.cell? ⟨bo, 1, none⟩ = some (.int .i64 k) := cell_of ho5 1
          have q2 : w5.cell? ⟨bo, 2, none⟩ = some (.int .i64 n) := cell_of ho5 2
          have hm6 := hm5.ne ((Mod.refl (· = bw) _).setCell ⟨bw, k, none⟩ (.int .i64 (n)) (fun _ => rfl)) (by omega)
          have hr6 : (w5.setCell ⟨bw, k, none⟩ (.int .i64 (n))).heap[bw]? = some (.cells (ints (s.set k (n))) 3 (0, 0)) := by rw [heap_setCell_same hr5, ints_set]
          have hd6 := ((hmodo.new hmod5 (by omega)).setCell ⟨bw, k, none⟩ (.int .i64 (n)) (fun h => absurd h (by simp; omega)))
          go_wp2_with fail
          refine (meterGet _ _ _ (by omega) (by omega) _ hm6).mono ?_
          rw [Int.toNat_natCast, HN.out]
          rintro e w' ⟨rfl, rfl⟩
          go_wp2_with fail
          refine (meterAll _ _ _ hm6).mono ?_
          rintro e w9 ⟨b9, rfl, hb9, hr9, hmod9⟩
          have hro9 := hmod9.keep hr6
          have hmo9 := hm6.mod hmod9 (not_nil _)
          go_wp2_with fail
          refine (refInts_blocks _ _ _ _ 8 _ _ _ _ hr9 hro9 hm6.1.symm (by omega)).mono ?_
          rintro e w10 ⟨rfl, hmod10⟩
          go_wp2_with fail
          exact ⟨⟨i + 1, by omega, by go_num, _, hmo9.mod hmod10 (not_nil _), hmod10.keep hro9, (hd6.thenNil hmod9).thenNil hmod10⟩, by simp [intOf]; omega⟩
        · have hf0 : wo.frozen? ⟨bw, k, none⟩ = false := free_of hro k
          have hm6 : ∀ y, IsMeter (wo.setCell ⟨bw, k, none⟩ (.int .i64 y)) b2 s := fun y => hmo.ne ((Mod.refl (· = bw) _).setCell ⟨bw, k, none⟩ (.int .i64 y) (fun _ => rfl)) (by omega)
          have hr6 : ∀ y, (wo.setCell ⟨bw, k, none⟩ (.int .i64 y)).heap[bw]? = some (.cells (ints (s.set k y)) 3 (0, 0)) := fun y => by rw [heap_setCell_same hro, ints_set]
          have hd6 : ∀ y, Mod nil w (wo.setCell ⟨bw, k, none⟩ (.int .i64 y)) := fun y => (hmodo.setCell ⟨bw, k, none⟩ (.int .i64 y) (fun h => absurd h (by simp; omega)))
          have ho6 : ∀ y, IsOp (wo.setCell ⟨bw, k, none⟩ (.int .i64 y)) bo _ := fun y => (heap_setCell_other _ (by omega)).trans hto
          have Hm6 := Lib.hid hm6
          have Hr6 := Lib.hid hr6
          have Hd6 := Lib.hid hd6
          have Ho6 := Lib.hid ho6
          clear hm6 hr6 hd6 ho6
          rcases Int.lt_or_le x n with h | h
          · have HE : Hid (max x n = n) := by show max x n = n; omega
            go_wp2_with fail
            refine (meterMost _ s _ (by omega) (by omega) _ _ (Hm6.out _)).mono ?_
            rw [Int.toNat_natCast, HX.out, HE.out]
            rintro e w7 ⟨rfl, hm7, hmod7⟩
            have hr7 := (hmod7.ne bw (heap_lt (Hr6.out _)) (by omega)).trans (Hr6.out _)
            have ho7 := (hmod7.ne bo (heap_lt (Ho6.out _)) (by omega)).trans (Ho6.out _)
            have hd7 := (Hd6.out _).new hmod7 (by omega)
            have q1 : w7.cell? ⟨bo, 1, none⟩ = some (.int .i64 k) := cell_of ho7 1
            have hw7 : w7.cell? ⟨bw, k, none⟩ = some (.int .i64 n) := by rw [cell_of hr7, ints_get (by simpa using hlk), HN.out]
            clear ho7
            go_wp2_with fail
            refine (meterGet _ _ _ (by omega) (by omega) _ hm7).mono ?_
            rw [Int.toNat_natCast, HN.out]
            rintro e w' ⟨rfl, rfl⟩
            go_wp2_with fail
            refine (meterAll _ _ _ hm7).mono ?_
            rintro e w9 ⟨b9, rfl, hb9, hr9, hmod9⟩
            have hro9 := hmod9.keep hr7
            have hmo9 := hm7.mod hmod9 (not_nil _)
            go_wp2_with fail
            refine (refInts_blocks _ _ _ _ 8 _ _ _ _ hr9 hro9 hm7.1.symm (by omega)).mono ?_
            rintro e w10 ⟨rfl, hmod10⟩
            go_wp2_with fail
            exact ⟨⟨i + 1, by omega, by go_num, _, hmo9.mod hmod10 (not_nil _), hmod10.keep hro9, (hd7.thenNil hmod9).thenNil hmod10⟩, by simp [intOf]; omega⟩
          · have HE : Hid (max x n = x) := by show max x n = x; omega
            go_wp2_with fail
            refine (meterMost _ s _ (by omega) (by omega) _ _ (Hm6.out _)).mono ?_
            rw [Int.toNat_natCast, HX.out, HE.out]
            rintro e w7 ⟨rfl, hm7, hmod7⟩
            have hr7 := (hmod7.ne bw (heap_lt (Hr6.out _)) (by omega)).trans (Hr6.out _)
            have ho7 := (hmod7.ne bo (heap_lt (Ho6.out _)) (by omega)).trans (Ho6.out _)
            have hd7 := (Hd6.out _).new hmod7 (by omega)
            have q1 : w7.cell? ⟨bo, 1, none⟩ = some (.int .i64 k) := cell_of ho7 1
            have hw7 : w7.cell? ⟨bw, k, none⟩ = some (.int .i64 x) := by rw [cell_of hr7, ints_get (by simpa using hlk), HN.out]
            clear ho7
            go_wp2_with fail
            refine (meterGet _ _ _ (by omega) (by omega) _ hm7).mono ?_
            rw [Int.toNat_natCast, HN.out]
            rintro e w' ⟨rfl, rfl⟩
            go_wp2_with fail
            refine (meterAll _ _ _ hm7).mono ?_
            rintro e w9 ⟨b9, rfl, hb9, hr9, hmod9⟩
            have hro9 := hmod9.keep hr7
            have hmo9 := hm7.mod hmod9 (not_nil _)
            go_wp2_with fail
            refine (refInts_blocks _ _ _ _ 8 _ _ _ _ hr9 hro9 hm7.1.symm (by omega)).mono ?_
            rintro e w10 ⟨rfl, hmod10⟩
            go_wp2_with fail
            exact ⟨⟨i + 1, by omega, by go_num, _, hmo9.mod hmod10 (not_nil _), hmod10.keep hro9, (hd7.thenNil hmod9).thenNil hmod10⟩, by simp [intOf]; omega⟩
        · go_wp2_with fail
          refine (meterGet _ _ _ (by omega) (by omega) _ hmo).mono ?_
          rw [Int.toNat_natCast, HX.out]
          rintro e w' ⟨rfl, rfl⟩
          go_wp2_with fail
          refine (meterAll _ _ _ hmo).mono ?_
          rintro e w9 ⟨b9, rfl, hb9, hr9, hmod9⟩
          have hro9 := hmod9.keep hro
          have hmo9 := hmo.mod hmod9 (not_nil _)
          go_wp2_with fail
          refine (refInts_blocks _ _ _ _ 8 _ _ _ _ hr9 hro9 hmo.1.symm (by omega)).mono ?_
          rintro e w10 ⟨rfl, hmod10⟩
          go_wp2_with fail
          exact ⟨⟨i + 1, by omega, by go_num, _, hmo9.mod hmod10 (not_nil _), hmod10.keep hro9, (hmodo.thenNil hmod9).thenNil hmod10⟩, by simp [intOf]; omega⟩
      · have hcase : k < 0 ∨ (0 ≤ k ∧ 8 ≤ k) := by omega
        rcases hkind with rfl | rfl | rfl | ⟨hk1, hk2, hk3⟩
        all_goals
          rcases hcase with hk | ⟨hk, hk'⟩
          all_goals
            go_wp2_with (first
              | (go_at_call 10; refine (meterAdd_no _ _ hin _ _).mono ?_; rintro e w' ⟨rfl, rfl⟩)
              | (go_at_call 12; refine (meterSwap_no _ _ hin _ _).mono ?_; rintro e w' ⟨rfl, rfl⟩)
              | (go_at_call 14; refine (meterMost_no _ _ hin _ _).mono ?_; rintro e w' ⟨rfl, rfl⟩)
              | (go_at_call 11; refine (meterGet_no _ _ hin _).mono ?_; rintro e w' ⟨rfl, rfl⟩))
            refine (meterAll _ _ _ hmo).mono ?_
            rintro e w9 ⟨b9, rfl, hb9, hr9, hmod9⟩
            have hro9 := hmod9.keep hro
            have hmo9 := hmo.mod hmod9 (not_nil _)
            go_wp2_with fail
            refine (refInts_blocks _ _ _ _ 8 _ _ s _ hr9 hro9 hmo.1.symm (by omega)).mono ?_
            rintro e w10 ⟨rfl, hmod10⟩
            go_wp2_with fail
            exact ⟨⟨i + 1, by omega, by go_num, s, hmo9.mod hmod10 (not_nil _), hmod10.keep hro9, (hmodo.thenNil hmod9).thenNil hmod10⟩, by simp [intOf]; omega⟩
    · obtain rfl : i = l.length := by omega
      clear hc
      go_wp2_with fail
      refine (lawFirst _).mono ?_
      rintro e w4 ⟨rfl, hmod4⟩
      go_wp2_with fail
      go_ret
      exact ⟨rfl, hmod.thenNil hmod4⟩
theorem walkMeterPlays (v0 : Value) (W : World) (r0 : Rd W 32 v0) :
    Calls Try.prog 4 #[v0] W fun e w' => e = .returned (.bool true) ∧ Below W.heap.size W w' := by
  obtain ⟨l, hl, hn⟩ := r0.ops
  by_cases hbad : 500 < l.length
  · obtain ⟨p, c, rfl, _⟩ := hl
    exact (lawPlays_bad p l.length c W hbad (by unfold maxLen at hn; omega)).mono fun e w' ⟨h1, h2⟩ => ⟨h1, h2.below⟩
  · exact (lawPlays v0 l W hl (by omega)).mono fun e w' ⟨h1, h2⟩ => ⟨h1, h2.below⟩
end Go.Proofs.Ytcofpkgoblfjdaa

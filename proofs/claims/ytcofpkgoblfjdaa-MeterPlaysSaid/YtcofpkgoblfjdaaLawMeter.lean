/- The walks over the statements of chapter 5. -/
import Derived.Test.YtcofpkgoblfjdaaMeter
import Derived.Test.YtcofpkgoblfjdaaSame
import Derived.Test.YtcofpkgoblfjdaaRd
namespace Go.Proofs.Ytcofpkgoblfjdaa
open Go.RowKit
theorem lawFirst (w : World) :
    Calls Try.prog 7 #[] w fun e w' => e = .returned (.bool true) ∧ Mod nil w w' := by
  go_enter Try.func7, Try.ntmps7
  go_wp2_with fail
  refine (meterNew _).mono ?_
  rintro e w1 ⟨b, rfl, hb, hm, hmod⟩
  go_wp2_with fail
  refine (meterAdd_no _ _ (by omega) _ _).mono ?_
  rintro e w' ⟨rfl, rfl⟩
  go_wp2_with fail
  refine (meterAdd _ _ _ (by omega) (by omega) _ _ hm).mono ?_
  rintro e w2 ⟨rfl, hm2', hmod2⟩
  have hm2 : IsMeter w2 b [2, 0, 0, 0, 0, 0, 0, 0] := by
    rw [show wrap64 (([0,0,0,0,0,0,0,0] : List Int).getD (Int.toNat 0) 0 + 2) = 2 from by simp [wrap64]] at hm2'; exact hm2'
  clear hm2'
  go_wp2_with fail
  refine (meterGet _ _ _ (by omega) (by omega) _ hm2).mono ?_
  rintro e w' ⟨rfl, rfl⟩
  go_wp2_with fail
  refine (meterAll _ _ _ hm2).mono ?_
  rintro e w3 ⟨b3, rfl, _, _, hmod3⟩
  go_wp2_with fail
  go_ret
  exact ⟨rfl, (hmod.new hmod2 (by omega)).thenNil hmod3⟩

/-- the sum as Go's int has it -/
def wsum (l : List Int) : Int := l.foldl (fun a x => wrap64 (a + x)) 0
theorem wsum_take (l : List Int) (i : Nat) (h : i < l.length) : wsum (l.take (i + 1)) = wrap64 (wsum (l.take i) + l.getD i 0) := by
  unfold wsum
  rw [List.take_succ_eq_append_getElem h, List.foldl_append]
  simp [h]
/-- a new meter's counters, one of them set -/
def one8 (k : Int) (s : Int) : List Int := [0, 0, 0, 0, 0, 0, 0, 0].set k.toNat s
theorem one8_get (k s : Int) (h0 : 0 ≤ k) (h1 : k ≤ 7) : (one8 k s).getD k.toNat 0 = s := by
  have : k.toNat < 8 := by omega
  simp [one8, this]
theorem one8_set (k s t : Int) : (one8 k s).set k.toNat t = one8 k t := by simp [one8]
theorem one8_zero (k : Int) (h0 : 0 ≤ k) (h1 : k ≤ 7) : one8 k 0 = [0, 0, 0, 0, 0, 0, 0, 0] := by
  obtain ⟨k, rfl⟩ := Int.eq_ofNat_of_zero_le h0
  have : k = 0 ∨ k = 1 ∨ k = 2 ∨ k = 3 ∨ k = 4 ∨ k = 5 ∨ k = 6 ∨ k = 7 := by omega
  rcases this with h | h | h | h | h | h | h | h <;> subst h <;> rfl
theorem ints_zero : ints [0, 0, 0, 0, 0, 0, 0, 0] = (([0, 0, 0, 0, 0, 0, 0, 0] : List Int).map (Value.int .i64)).toArray := rfl
def apartBad (k : Int) (n : Nat) : Prop := 100 < n ∨ k < 0 ∨ 7 < k
set_option maxHeartbeats 1000000 in
theorem lawApart_bad (k : Int) (p : Option Addr) (n c : Nat) (w : World) (hbad : apartBad k n) (hn : n ≤ 9223372036854775807) :
    Calls Try.prog 3 #[.int .i64 k, .slice p n c] w fun e w' => e = .returned (.bool true) ∧ Mod nil w w' := by
  have hcase : (100 < n) ∨ (n ≤ 100 ∧ k < 0) ∨ (n ≤ 100 ∧ 0 ≤ k ∧ 7 < k) := by unfold apartBad at hbad; omega
  clear hbad
  rcases hcase with h | ⟨h, h'⟩ | ⟨h, h', h''⟩
  all_goals
    go_enter Try.func3, Try.ntmps3
    go_wp2_with fail
    refine (lawFirst _).mono ?_
    rintro e w1 ⟨rfl, hmod1⟩
    go_wp2_with fail
    refine (meterNew _).mono ?_
    rintro e w2 ⟨b2, rfl, hb2, hm, hmod2⟩
    go_wp2_with fail
    refine (meterNew _).mono ?_
    rintro e w3 ⟨b3, rfl, hb3, hm', hmod3⟩
    go_wp2_with fail
    refine (lawFirst _).mono ?_
    rintro e w4 ⟨rfl, hmod4⟩
    go_wp2_with fail
    go_ret
    exact ⟨rfl, ((hmod1.thenNil hmod2).thenNil hmod3).thenNil hmod4⟩
set_option maxHeartbeats 1000000 in
theorem lawApart (k : Int) (v : Value) (l : List Int) (w : World) (hl : IsRow (· < w.heap.size) w v (l.map (.int .i64))) (hbad : ¬ apartBad k l.length) :
    Calls Try.prog 3 #[.int .i64 k, v] w fun e w' => e = .returned (.bool true) ∧ Mod nil w w' := by
  obtain ⟨p, c, rfl, hc⟩ := hl
  simp only [List.length_map] at *
  have h0 : l.length ≤ 100 := by unfold apartBad at hbad; omega
  have h1 : 0 ≤ k := by unfold apartBad at hbad; omega
  have h2 : k ≤ 7 := by unfold apartBad at hbad; omega
  clear hbad
  go_enter Try.func3, Try.ntmps3
  go_wp2_with fail
  refine (lawFirst _).mono ?_
  rintro e w1 ⟨rfl, hmod1⟩
  go_wp2_with fail
  refine (meterNew _).mono ?_
  rintro e w2 ⟨b2, rfl, hb2, hm2, hmod2⟩
  go_wp2_with fail
  refine (meterNew _).mono ?_
  rintro e w3 ⟨b3, rfl, hb3, hn3, hmod3⟩
  have hm3 := hm2.mod hmod3 (not_nil _)
  go_wp2_with fail
  refine (meterAll _ _ _ hn3).mono ?_
  rintro e w4 ⟨b4, rfl, hb4, hr, hmod4⟩
  have hm4 := hm3.mod hmod4 (not_nil _)
  have hn4 := hn3.mod hmod4 (not_nil _)
  have hm04 := ((hmod1.thenNil hmod2).thenNil hmod3).thenNil hmod4
  have hlt2 : b2 < w2.heap.size := hm2.lt
  have hlt3 : b3 < w3.heap.size := hn3.lt
  have s1 := hmod1.size; have s2 := hmod2.size; have s3 := hmod3.size
  go_wp2_with fail
  go_loopw [7, 9] (fun vs vi wr => ∃ i : Nat, i ≤ l.length ∧ vi = .int .i64 i ∧ vs = .int .i64 (wsum (l.take i)) ∧ IsMeter wr b2 (one8 k (wsum (l.take i))) ∧ IsMeter wr b3 [0, 0, 0, 0, 0, 0, 0, 0] ∧ wr.heap[b4]? = some (.cells (ints [0, 0, 0, 0, 0, 0, 0, 0]) 3 (0, 0)) ∧ Mod nil w wr) (fun _ vi _ => l.length - (intOf vi).toNat)
  case atStart =>
    exact ⟨0, by omega, rfl, rfl, by rw [show wsum (l.take 0) = 0 from rfl, one8_zero k h1 h2]; exact hm4, hn4, hr, hm04⟩
  case round =>
    obtain ⟨i, hi, rfl, rfl, hma, hmb, hrow, hmod⟩ := hrel
    by_cases hlt : i < l.length
    · obtain ⟨b, off, rfl, hS, hbw, hx⟩ := hc i hlt
      have HS := Lib.hid (wsum_take l i hlt)
      have HG := Lib.hid (one8_get k (wsum (l.take i)) h1 h2)
      obtain ⟨x, hx0⟩ : ∃ x, l.getD i 0 = x := ⟨_, rfl⟩
      have hxr : wr.cell? ⟨b, off + i, none⟩ = some (Value.int IntKind.i64 x) := by
        rw [World.cell?_of_block (w := w) (hmod.block b hbw (not_nil _)), hx, ← hx0]; simp [hlt]
      have HX := Lib.hid hx0
      obtain ⟨s, hs0⟩ : ∃ s, wsum (l.take i) = s := ⟨_, rfl⟩
      rw [hs0] at hma HG ⊢
      have Hs := Lib.hid hs0
      clear hc hx hx0 hs0
      go_wp2_with fail
      refine (meterAdd _ _ _ (by omega) (by omega) _ _ hma).mono ?_
      rintro e w5 ⟨rfl, hm5, hmod5⟩
      have hx5 := cell_kept hxr hmod5 (Nat.lt_of_lt_of_le hbw hmod.size) (show b ≠ b2 by omega)
      have hb5 := hmb.ne hmod5 (by omega)
      have hr5 := (hmod5.ne b4 (heap_lt hrow) (by omega)).trans hrow
      rw [HG.out, one8_set] at hm5
      clear hxr
      go_wp2_with fail
      rw [← Hs.out] at hm5 ⊢
      rw [← HX.out] at hm5 ⊢
      rw [← HS.out] at hm5 ⊢
      exact ⟨⟨i + 1, by omega, by go_num, rfl, hm5, hb5, hr5, hmod.new hmod5 (by omega)⟩, by simp [intOf]; omega⟩
    · obtain rfl : i = l.length := by omega
      have HG := Lib.hid (one8_get k (wsum (l.take l.length)) h1 h2)
      rw [List.take_length] at hma HG ⊢
      obtain ⟨s, hs0⟩ : ∃ s, wsum l = s := ⟨_, rfl⟩
      rw [hs0] at hma HG ⊢
      clear hs0 hc
      go_wp2_with fail
      refine (meterGet _ _ _ (by omega) (by omega) _ hma).mono ?_
      rintro e w' ⟨rfl, rfl⟩
      rw [HG.out]
      have hmk : ∀ w, (Instr.makeSlice 22 (.int .i64 8) (.int .i64 8)).run Try.prog w = .ok (.slice (some ⟨w.heap.size, 0, none⟩) 8 8) (w.alloc (.cells (ints [0,0,0,0,0,0,0,0]) 3)) := fun _ => by kernel_rfl
      go_wp2_with fail
      go_region_held3 (fun _ => True) (trivial) (first
        | (go_at_call 7; refine (lawFirst _).mono ?_; rintro e w6 ⟨rfl, hmod6'⟩; have hmod6 := (Mod.refl nil wr).drew.thenNil hmod6'; clear hmod6'; have hm6 := hma.mod hmod6 (not_nil _); have hn6 := hmb.mod hmod6 (not_nil _); have hr6 := hmod6.keep hrow)
        | (go_at_call 12; refine (meterSwap _ _ _ (by omega) (by omega) _ _ hm6).mono ?_; rintro e w7 ⟨rfl, hm7, hmod7⟩; rw [one8_set] at hm7; rw [HG.out]; have HG7 := Lib.hid (one8_get k 0 h1 h2); have hn7 := hn6.ne hmod7 (by omega); have hr7 := (hmod7.ne b4 (heap_lt hr6) (by omega)).trans hr6)
        | (go_at_call 11; refine (meterGet _ _ _ (by omega) (by omega) _ hm7).mono ?_; rintro e w' ⟨rfl, rfl⟩; rw [HG7.out])
        | (go_at_call 9; refine (meterAll _ [0, 0, 0, 0, 0, 0, 0, 0] _ ?_).mono ?_; (first | with_reducible exact hn7 | with_reducible exact hn7.mod ((Mod.refl nil _).alloc _) (not_nil _)); rintro e w8 ⟨b8, rfl, hb8, hr8, hmod8⟩; have hr48 := hmod8.keep (by first | with_reducible exact hr7 | with_reducible exact heap_alloc_old hr7))
        | (go_at_call_of 13 b8; refine (refInts_blocks _ _ 3 3 8 _ _ [0, 0, 0, 0, 0, 0, 0, 0] _ ?_ ?_ rfl (by omega)).mono ?_; (first | with_reducible exact heap_alloc_old hr8 | with_reducible exact hr8); (first | with_reducible exact heap_alloc_new _ _ | with_reducible exact hmod8.keep (heap_alloc_new _ _)); rintro e w9 ⟨rfl, hmod9⟩; have hr49 := hmod9.keep (by first | with_reducible exact heap_alloc_old hr48 | with_reducible exact hr48))
        | (go_at_call_of 13 b4; refine (refInts_blocks _ _ 3 3 8 _ _ [0, 0, 0, 0, 0, 0, 0, 0] _ ?_ ?_ rfl (by omega)).mono ?_; with_reducible exact heap_alloc_old hr49; with_reducible exact heap_alloc_new _ _; rintro e w10 ⟨rfl, hmod10⟩))
      all_goals
        go_wp2_with fail
        go_ret
        have m7 := (hmod.thenNil hmod6).new hmod7 (by omega)
        first
          | exact ⟨rfl, ((((m7.thenNil hmod8).alloc _).thenNil hmod9).alloc _).thenNil hmod10⟩
          | exact ⟨rfl, ((((m7.alloc _).thenNil hmod8).thenNil hmod9).alloc _).thenNil hmod10⟩
theorem walkMeterApart (v0 v1 : Value) (W : World) (r0 : Rd W 3 v0) (r1 : Rd W 22 v1) :
    Calls Try.prog 3 #[v0, v1] W fun e w' => e = .returned (.bool true) ∧ Below W.heap.size W w' := by
  obtain ⟨k, rfl, _⟩ := r0.int Try.underlying3
  obtain ⟨l, hl, hn, _⟩ := r1.intRow Try.underlying22 Try.underlying3 (by kernel_rfl)
  by_cases hbad : apartBad k l.length
  · obtain ⟨p, c, rfl, _⟩ := hl
    rw [List.length_map]
    exact (lawApart_bad k p l.length c W hbad (by unfold maxLen at hn; omega)).mono fun e w' ⟨h1, h2⟩ => ⟨h1, h2.below⟩
  · exact (lawApart k v1 l W hl hbad).mono fun e w' ⟨h1, h2⟩ => ⟨h1, h2.below⟩
end Go.Proofs.Ytcofpkgoblfjdaa

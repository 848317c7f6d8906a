/- The walks over MeterSums and MeterSwaps. -/
import Derived.Test.YtcofpkgoblfjdaaLawMeter
namespace Go.Proofs.Ytcofpkgoblfjdaa
open Go.RowKit
def wmost (l : List Int) : Int := l.foldl max 0
theorem wmost_take (l : List Int) (i : Nat) (h : i < l.length) : wmost (l.take (i + 1)) = max (wmost (l.take i)) (l.getD i 0) := by
  unfold wmost
  rw [List.take_succ_eq_append_getElem h, List.foldl_append]
  simp [h]
def two8 (s m : Int) : List Int := [0, s, 0, m, 0, 0, 0, 0]
set_option maxHeartbeats 1000000 in
theorem lawSums_bad (p : Option Addr) (n c : Nat) (w : World) (hbad : 200 < n) (hn : n ≤ 9223372036854775807) :
    Calls Try.prog 5 #[.slice p n c] w fun e w' => e = .returned (.bool true) ∧ Mod nil w w' := by
  go_enter Try.func5, Try.ntmps5
  go_wp2_with fail
  refine (lawFirst _).mono ?_
  rintro e w1 ⟨rfl, hmod1⟩
  go_wp2_with fail
  refine (meterNew _).mono ?_
  rintro e w2 ⟨b2, rfl, hb2, hm, hmod2⟩
  go_wp2_with fail
  refine (lawFirst _).mono ?_
  rintro e w4 ⟨rfl, hmod4⟩
  go_wp2_with fail
  go_ret
  exact ⟨rfl, (hmod1.thenNil hmod2).thenNil hmod4⟩
set_option maxHeartbeats 2000000 in
theorem lawSums (v : Value) (l : List Int) (w : World) (hl : IsRow (· < w.heap.size) w v (l.map (.int .i64))) (h0 : l.length ≤ 200) :
    Calls Try.prog 5 #[v] w fun e w' => e = .returned (.bool true) ∧ Mod nil w w' := by
  obtain ⟨p, c, rfl, hc⟩ := hl
  simp only [List.length_map] at *
  go_enter Try.func5, Try.ntmps5
  go_wp2_with fail
  refine (lawFirst _).mono ?_
  rintro e w1 ⟨rfl, hmod1⟩
  go_wp2_with fail
  refine (meterNew _).mono ?_
  rintro e w2 ⟨b2, rfl, hb2, hm2, hmod2⟩
  have s1 := hmod1.size
  go_wp2_with fail
  go_loopw [4, 5, 6, 7] (fun vs vm vi _ wr => ∃ i : Nat, i ≤ l.length ∧ vi = .int .i64 i ∧ vs = .int .i64 (wsum (l.take i)) ∧ vm = .int .i64 (wmost (l.take i)) ∧ IsMeter wr b2 (two8 (wsum (l.take i)) (wmost (l.take i))) ∧ Mod nil w wr) (fun _ _ vi _ _ => l.length - (intOf vi).toNat)
  case atStart =>
    exact ⟨0, by omega, rfl, rfl, rfl, hm2, hmod1.thenNil hmod2⟩
  case round =>
    obtain ⟨i, hi, rfl, rfl, rfl, hma, hmod⟩ := hrel
    by_cases hlt : i < l.length
    · obtain ⟨b, off, rfl, hS, hbw, hx⟩ := hc i hlt
      have HS := Lib.hid (wsum_take l i hlt)
      have HM := Lib.hid (wmost_take l i hlt)
      obtain ⟨x, hx0⟩ : ∃ x, l.getD i 0 = x := ⟨_, rfl⟩
      have hxr : wr.cell? ⟨b, off + i, none⟩ = some (Value.int IntKind.i64 x) := by
        rw [World.cell?_of_block (w := w) (hmod.block b hbw (not_nil _)), hx, ← hx0]; simp [hlt]
      rw [hx0] at HS HM
      obtain ⟨s, hs0⟩ : ∃ s, wsum (l.take i) = s := ⟨_, rfl⟩
      obtain ⟨m, hm0⟩ : ∃ m, wmost (l.take i) = m := ⟨_, rfl⟩
      rw [hs0, hm0] at hma ⊢
      rw [hs0] at HS
      rw [hm0] at HM
      clear hc hx hx0 hs0 hm0
      go_wp2_with fail
      refine (meterAdd _ _ _ (by omega) (by omega) _ _ hma).mono ?_
      rintro e w5 ⟨rfl, hm5', hmod5⟩
      have hx5 := cell_kept hxr hmod5 (Nat.lt_of_lt_of_le hbw hmod.size) (show b ≠ b2 by omega)
      have hm5 : IsMeter w5 b2 (two8 (wrap64 (s + x)) m) := hm5'
      clear hxr hm5'
      go_wp2_with fail
      refine (meterMost _ _ _ (by omega) (by omega) _ _ hm5).mono ?_
      have e0 : (two8 (wrap64 (s + x)) m).getD (Int.toNat 3) 0 = m := rfl
      rw [e0]
      have e1 : (two8 (wrap64 (s + x)) m).set (Int.toNat 3) (max m x) = two8 (wrap64 (s + x)) (max m x) := rfl
      rw [e1]
      clear e0 e1
      rintro e w6 ⟨rfl, hm6, hmod6⟩
      have hx6 := cell_kept hx5 hmod6 (Nat.lt_of_lt_of_le hbw (Nat.le_trans hmod.size hmod5.size)) (show b ≠ b2 by omega)
      clear hx5
      go_wp2_with fail
      all_goals
        refine (meterGet _ _ _ (by omega) (by omega) _ hm6).mono ?_
        have e0 : ∀ y, (two8 (wrap64 (s + x)) y).getD (Int.toNat 1) 0 = wrap64 (s + x) := fun _ => rfl
        rw [e0]
        clear e0
        rintro e w' ⟨rfl, rfl⟩
        go_wp2_with fail
        refine ⟨⟨i + 1, by omega, by go_num, by rw [HS.out], ?_, ?_, (hmod.new hmod5 (by omega)).new hmod6 (by omega)⟩, by simp [intOf]; omega⟩
      · rw [HM.out]; congr 1; omega
      · rw [HS.out, HM.out]; exact hm6
      · rw [HM.out]; congr 1; omega
      · rw [HS.out, HM.out]; exact hm6
    · obtain rfl : i = l.length := by omega
      rw [List.take_length] at hma ⊢
      obtain ⟨s, hs0⟩ : ∃ s, wsum l = s := ⟨_, rfl⟩
      obtain ⟨m, hm0⟩ : ∃ m, wmost l = m := ⟨_, rfl⟩
      rw [hs0, hm0] at hma ⊢
      clear hs0 hm0 hc
      go_wp2_with fail
      refine (meterAll _ _ _ hma).mono ?_
      rintro e w3 ⟨b3, rfl, hb3, hr, hmod3⟩
      have hm3 := hma.mod hmod3 (not_nil _)
      go_wp2_with fail
      refine (lawFirst _).mono ?_
      rintro e w4 ⟨rfl, hmod4⟩
      have hm4 := hm3.mod hmod4 (not_nil _)
      have hr4 := hmod4.keep hr
      have c0 : w4.cell? ⟨b3, 0, none⟩ = some (.int .i64 0) := by rw [cell_of hr4]; rfl
      have c1 : w4.cell? ⟨b3, 1, none⟩ = some (.int .i64 s) := by rw [cell_of hr4]; rfl
      have c3 : w4.cell? ⟨b3, 3, none⟩ = some (.int .i64 m) := by rw [cell_of hr4]; rfl
      clear hr hr4 hb3 hmod2 hm2
      go_wp2_with fail
      refine (meterSwap _ _ _ (by omega) (by omega) _ _ hm4).mono ?_
      have e0 : (two8 s m).getD (Int.toNat 1) 0 = s := rfl
      rw [e0]
      rintro e w5 ⟨rfl, hm5, hmod5⟩
      have hm5' : IsMeter w5 b2 (two8 (-3) m) := hm5
      clear hm5
      go_wp2_with fail
      refine (meterGet _ _ _ (by omega) (by omega) _ hm5').mono ?_
      have e1 : (two8 (-3) m).getD (Int.toNat 1) 0 = -3 := rfl
      rw [e1]
      rintro e w' ⟨rfl, rfl⟩
      go_wp2_with fail
      go_ret
      exact ⟨rfl, ((hmod.thenNil hmod3).thenNil hmod4).new hmod5 (by omega)⟩
theorem walkMeterSums (v0 : Value) (W : World) (r0 : Rd W 22 v0) :
    Calls Try.prog 5 #[v0] W fun e w' => e = .returned (.bool true) ∧ Below W.heap.size W w' := by
  obtain ⟨l, hl, hn, _⟩ := r0.intRow Try.underlying22 Try.underlying3 (by kernel_rfl)
  by_cases hbad : 200 < l.length
  · obtain ⟨p, c, rfl, _⟩ := hl
    rw [List.length_map]
    exact (lawSums_bad p l.length c W hbad (by unfold maxLen at hn; omega)).mono fun e w' ⟨h1, h2⟩ => ⟨h1, h2.below⟩
  · exact (lawSums v0 l W hl (by omega)).mono fun e w' ⟨h1, h2⟩ => ⟨h1, h2.below⟩

/-- what MeterSwaps has swapped out behind so many numbers, and what then is there -/
def swaps : List Int → Nat → Int × Int
  | _, 0 => (0, 0)
  | l, i + 1 =>
    let (o, h) := swaps l i
    let h' := wrap64 (h + l.getD i 0)
    if i % 3 = 1 then (wrap64 (o + h'), 0) else (o, h')
theorem swaps_sum (l : List Int) (i : Nat) (hi : i ≤ l.length) : wrap64 ((swaps l i).1 + (swaps l i).2) = wsum (l.take i) := by
  induction i with
  | zero => simp [swaps, wsum, wrap64]
  | succ i ih =>
    have h1 := ih (by omega)
    rw [wsum_take l i (by omega), ← h1]
    simp only [swaps]
    split
    · simp only [Int.add_zero]; unfold wrap64; omega
    · unfold wrap64; omega
theorem swaps_hit (l : List Int) (i : Nat) (h : i % 3 = 1) : swaps l (i + 1) = (wrap64 ((swaps l i).1 + wrap64 ((swaps l i).2 + l.getD i 0)), 0) := by simp [swaps, h]
theorem swaps_miss (l : List Int) (i : Nat) (h : ¬ i % 3 = 1) : swaps l (i + 1) = ((swaps l i).1, wrap64 ((swaps l i).2 + l.getD i 0)) := by simp [swaps, h]
def swapsBad (k : Int) (n : Nat) : Prop := 200 < n ∨ k < 0 ∨ 7 < k
set_option maxHeartbeats 1000000 in
theorem lawSwaps_bad (k : Int) (p : Option Addr) (n c : Nat) (w : World) (hbad : swapsBad k n) (hn : n ≤ 9223372036854775807) :
    Calls Try.prog 6 #[.slice p n c, .int .i64 k] w fun e w' => e = .returned (.bool true) ∧ Mod nil w w' := by
  have hcase : (200 < n) ∨ (n ≤ 200 ∧ k < 0) ∨ (n ≤ 200 ∧ 0 ≤ k ∧ 7 < k) := by unfold swapsBad at hbad; omega
  clear hbad
  rcases hcase with h | ⟨h, h'⟩ | ⟨h, h', h''⟩
  all_goals
    go_enter Try.func6, Try.ntmps6
    go_wp2_with fail
    refine (lawFirst _).mono ?_
    rintro e w1 ⟨rfl, hmod1⟩
    go_wp2_with fail
    refine (meterNew _).mono ?_
    rintro e w2 ⟨b2, rfl, hb2, hm, hmod2⟩
    go_wp2_with fail
    refine (lawFirst _).mono ?_
    rintro e w4 ⟨rfl, hmod4⟩
    go_wp2_with fail
    go_ret
    exact ⟨rfl, (hmod1.thenNil hmod2).thenNil hmod4⟩
set_option maxHeartbeats 2000000 in
theorem lawSwaps (v : Value) (l : List Int) (k : Int) (w : World) (hl : IsRow (· < w.heap.size) w v (l.map (.int .i64))) (hbad : ¬ swapsBad k l.length) :
    Calls Try.prog 6 #[v, .int .i64 k] w fun e w' => e = .returned (.bool true) ∧ Mod nil w w' := by
  obtain ⟨p, c, rfl, hc⟩ := hl
  simp only [List.length_map] at *
  have h0 : l.length ≤ 200 := by unfold swapsBad at hbad; omega
  have h1 : 0 ≤ k := by unfold swapsBad at hbad; omega
  have h2 : k ≤ 7 := by unfold swapsBad at hbad; omega
  clear hbad
  go_enter Try.func6, Try.ntmps6
  go_wp2_with fail
  refine (lawFirst _).mono ?_
  rintro e w1 ⟨rfl, hmod1⟩
  go_wp2_with fail
  refine (meterNew _).mono ?_
  rintro e w2 ⟨b2, rfl, hb2, hm2, hmod2⟩
  have s1 := hmod1.size
  go_wp2_with fail
  go_loopw [6, 7, 8] (fun vs vo vi wr => ∃ i : Nat, i ≤ l.length ∧ vi = .int .i64 i ∧ vs = .int .i64 (wsum (l.take i)) ∧ vo = .int .i64 (swaps l i).1 ∧ IsMeter wr b2 (one8 k (swaps l i).2) ∧ Mod nil w wr) (fun _ _ vi _ => l.length - (intOf vi).toNat)
  case atStart =>
    exact ⟨0, by omega, rfl, rfl, rfl, by rw [show (swaps l 0).2 = 0 from rfl, one8_zero k h1 h2]; exact hm2, hmod1.thenNil hmod2⟩
  case round =>
    obtain ⟨i, hi, rfl, rfl, rfl, hma, hmod⟩ := hrel
    by_cases hlt : i < l.length
    · obtain ⟨b, off, rfl, hS, hbw, hx⟩ := hc i hlt
      have HS := Lib.hid (wsum_take l i hlt)
      have hG := one8_get k (swaps l i).2 h1 h2
      have hH := swaps_hit l i
      have hM := swaps_miss l i
      obtain ⟨x, hx0⟩ : ∃ x, l.getD i 0 = x := ⟨_, rfl⟩
      have hxr : wr.cell? ⟨b, off + i, none⟩ = some (Value.int IntKind.i64 x) := by
        rw [World.cell?_of_block (w := w) (hmod.block b hbw (not_nil _)), hx, ← hx0]; simp [hlt]
      rw [hx0] at HS hH hM
      obtain ⟨⟨o, h⟩, hs0⟩ : ∃ s, swaps l i = s := ⟨_, rfl⟩
      rw [hs0] at hma hG hH hM ⊢
      have HG := Lib.hid hG
      have HH := Lib.hid hH
      have HM := Lib.hid hM
      clear hc hx hx0 hs0 hG hH hM
      go_wp2_with fail
      refine (meterAdd _ _ _ (by omega) (by omega) _ _ hma).mono ?_
      rintro e w5 ⟨rfl, hm5, hmod5⟩
      have hx5 := cell_kept hxr hmod5 (Nat.lt_of_lt_of_le hbw hmod.size) (show b ≠ b2 by omega)
      rw [HG.out, one8_set] at hm5
      have HG5 := Lib.hid (one8_get k (wrap64 (h + x)) h1 h2)
      clear hxr HG
      by_cases h3 : i % 3 = 1
      · have HF := Lib.hid (HH.out h3)
        have h3b : ((i : Int) % 3 == 1) = true := beq_iff_eq.2 (by omega)
        clear HH HM h3
        go_wp2_with fail
        refine (meterSwap _ _ _ (by omega) (by omega) _ _ hm5).mono ?_
        rw [HG5.out]
        rintro e w6 ⟨rfl, hm6, hmod6⟩
        rw [one8_set] at hm6
        go_wp2_with fail
        refine ⟨⟨i + 1, by omega, by go_num, by rw [HS.out], by rw [HF.out], by rw [HF.out]; exact hm6, (hmod.new hmod5 (by omega)).new hmod6 (by omega)⟩, by simp [intOf]; omega⟩
      · have HF := Lib.hid (HM.out h3)
        have h3b : ((i : Int) % 3 == 1) = false := beq_eq_false_iff_ne.2 (by omega)
        clear HH HM h3
        go_wp2_with fail
        refine ⟨⟨i + 1, by omega, by go_num, by rw [HS.out], by rw [HF.out], by rw [HF.out]; exact hm5, (hmod.new hmod5 (by omega))⟩, by simp [intOf]; omega⟩
    · obtain rfl : i = l.length := by omega
      have HQ := swaps_sum l l.length (Nat.le_refl _)
      rw [List.take_length] at HQ ⊢
      obtain ⟨⟨o, h⟩, hs0⟩ : ∃ s, swaps l l.length = s := ⟨_, rfl⟩
      rw [hs0] at hma HQ ⊢
      have HG := Lib.hid (one8_get k h h1 h2)
      clear hs0 hc
      have hQ : (wrap64 (o + h) == wsum l) = true := by rw [HQ]; simp
      have HQ' := Lib.hid HQ
      clear HQ
      go_wp2_with fail
      refine (lawFirst _).mono ?_
      rintro e w4 ⟨rfl, hmod4⟩
      have hm4 := hma.mod hmod4 (not_nil _)
      go_wp2_with fail
      refine (meterGet _ _ _ (by omega) (by omega) _ hm4).mono ?_
      rw [HG.out]
      rintro e w' ⟨rfl, rfl⟩
      go_wp2_with fail
      refine (meterSwap_no _ _ (by omega) _ _).mono ?_
      rintro e w' ⟨rfl, rfl⟩
      go_wp2_with fail
      refine (meterGet_no _ _ (by omega) _).mono ?_
      rintro e w' ⟨rfl, rfl⟩
      go_wp2_with fail
      refine (meterMost_no _ _ (by omega) _ _).mono ?_
      rintro e w' ⟨rfl, rfl⟩
      go_wp2_with fail
      go_ret
      exact ⟨rfl, hmod.thenNil hmod4⟩
theorem walkMeterSwaps (v0 v1 : Value) (W : World) (r0 : Rd W 22 v0) (r1 : Rd W 3 v1) :
    Calls Try.prog 6 #[v0, v1] W fun e w' => e = .returned (.bool true) ∧ Below W.heap.size W w' := by
  obtain ⟨l, hl, hn, _⟩ := r0.intRow Try.underlying22 Try.underlying3 (by kernel_rfl)
  obtain ⟨k, rfl, _⟩ := r1.int Try.underlying3
  by_cases hbad : swapsBad k l.length
  · obtain ⟨p, c, rfl, _⟩ := hl
    rw [List.length_map]
    exact (lawSwaps_bad k p l.length c W hbad (by unfold maxLen at hn; omega)).mono fun e w' ⟨h1, h2⟩ => ⟨h1, h2.below⟩
  · exact (lawSwaps v0 l k W hl hbad).mono fun e w' ⟨h1, h2⟩ => ⟨h1, h2.below⟩
end Go.Proofs.Ytcofpkgoblfjdaa

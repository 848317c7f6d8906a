/- The walk over TaleRounds. -/
import Derived.Test.YtlkhihdgaimboaaTaleF
import Derived.Test.YtlkhihdgaimboaaRd
namespace Go.Proofs.Ytlkhihdgaimboaa
open Go.RowKit

theorem bytes_of_ints : ∀ (l : List Int), (∀ x ∈ l, (Lit.int .u8 x).wf = true) → ∃ m : List UInt8, l.map (Value.int .u8) = bys m
  | [], _ => ⟨[], rfl⟩
  | x :: l, h => by
    obtain ⟨m, hm⟩ := bytes_of_ints l (fun y hy => h y (List.mem_cons_of_mem _ hy))
    have hx := h x (by simp)
    have hr : 0 ≤ x ∧ x ≤ 255 := by simpa [Lit.wf, IntKind.min, IntKind.max, IntKind.bits, IntKind.signed] using hx
    obtain ⟨n, rfl⟩ := Int.eq_ofNat_of_zero_le hr.1
    refine ⟨UInt8.ofNat n :: m, ?_⟩
    rw [List.map_cons, hm]
    show _ = Value.int .u8 ((UInt8.ofNat n).toNat : Int) :: bys m
    rw [UInt8.toNat_ofNat', Nat.mod_eq_of_lt (by omega)]
theorem Rd.bytes {w : World} {v : Value} (h : Rd w 22 v) : ∃ l : List UInt8, IsRow (· < w.heap.size) w v (bys l) ∧ l.length ≤ maxLen := by
  obtain ⟨l, hl, hn, hw⟩ := h.intRow Try.underlying22 Try.underlying5 (by kernel_rfl)
  obtain ⟨m, hm⟩ := bytes_of_ints l hw
  refine ⟨m, hm ▸ hl, ?_⟩
  have := congrArg List.length hm
  simp [bys_length] at this
  omega
theorem evs_at (pre rest : List Ev) (e : Ev) (j : Nat) (hj : j < 15) : (evs (pre ++ e :: rest)).getD (pre.length * 15 + j) undef = e.vals.getD j undef := by
  have hl := evs_length pre
  rw [evs_append, List.getD_eq_getElem?_getD, List.getElem?_append_right (by omega), hl, Nat.add_sub_cancel_left]
  simp only [evs, List.flatMap_cons]
  rw [List.getElem?_append_left (by simp [Ev.vals]; omega), List.getD_eq_getElem?_getD]
theorem roundTo_split (lost : List UInt8) (k M : Nat) (h : k < M) : ∃ rest, roundTo lost M = roundTo lost k ++ roundAt lost k ++ rest := by
  induction M with
  | zero => omega
  | succ M ih =>
    rcases Nat.lt_or_ge k M with h' | h'
    · obtain ⟨r, hr⟩ := ih h'
      exact ⟨r ++ roundAt lost M, by rw [roundTo, hr]; simp⟩
    · obtain rfl : k = M := by omega
      exact ⟨[], by simp [roundTo]⟩
theorem lawTaleRounds_bad (n : Int) (p : Option Addr) (len cap : Nat) (w : World) (hb : n < 0 ∨ 16 < n ∨ 100 < len) : Calls Try.prog 3 #[.int .i64 n, .slice p len cap] w fun e w' => e = .returned (.bool true) ∧ Mod nil w w' := by
  rcases (show n < 0 ∨ (¬ n < 0 ∧ 16 < n) ∨ (¬ n < 0 ∧ ¬ 16 < n ∧ 100 < len) by omega) with h | ⟨h, h'⟩ | ⟨h, h', h''⟩
  all_goals
    go_enter Try.func3, Try.ntmps3
    go_wp2_with fail
    refine (taleFirst w).mono ?_
    rintro e w1 ⟨rfl, hm1⟩
    go_wp2_with fail
    refine (taleFirst w1).mono ?_
    rintro e w2 ⟨rfl, hm2⟩
    go_wp2_with fail
    go_ret
    exact ⟨rfl, hm1.thenNil hm2⟩
/-- what the walk asks of the list at act k -/
theorem round_facts (n : Nat) (lost : List UInt8) (k : Nat) (hn : n ≤ 16) (hk : k < 2 * n) (A : Nat) (hA : A = (roundTo lost k).length) (gone : Prop) [Decidable gone] (hg : gone ↔ k < lost.length ∧ (lost.getD k 0).toNat % 2 = 1) :
    (evs (roundAll n lost)).getD (A * 15) undef = .int .i64 3 ∧ (evs (roundAll n lost)).getD (A * 15 + 1) undef = .int .i64 (k / 2 : Nat) ∧ (evs (roundAll n lost)).getD (A * 15 + 2) undef = .int .i64 (k % 2 : Nat) ∧
    (evs (roundAll n lost)).getD ((A + 1) * 15) undef = .int .i64 (if gone then 5 else 4) ∧ (¬ gone → (evs (roundAll n lost)).getD ((A + 2) * 15) undef = .int .i64 4) ∧ A + (if gone then 2 else 3) < (roundAll n lost).length ∧ (roundTo lost (k + 1)).length = A + (if gone then 2 else 3) := by
  obtain ⟨rest, hr⟩ := roundTo_split lost k (2 * n) hk
  have hall : roundAll n lost = roundTo lost k ++ roundAt lost k ++ (rest ++ [ev4 1 0 0 1]) := by
    unfold roundAll
    rw [show (min (max (n : Int) 0) 16).toNat = n by omega, hr, List.append_assoc]
  rw [hall, hA]
  by_cases hgone : gone
  · have h1 : roundAt lost k = [ev4 3 (k / 2 : Nat) (k % 2 : Nat) 0, ev4 5 0 0 0] := by unfold roundAt; rw [if_pos (hg.1 hgone)]
    rw [h1, if_pos hgone, if_pos hgone]
    refine ⟨?_, ?_, ?_, ?_, fun h => absurd hgone h, ?_, ?_⟩
    · exact (by simpa [Ev.vals, ev4] using evs_at (roundTo lost k) ([ev4 5 0 0 0] ++ (rest ++ [ev4 1 0 0 1])) (ev4 3 (k / 2 : Nat) (k % 2 : Nat) 0) 0 (by omega))
    · exact (by simpa [Ev.vals, ev4] using evs_at (roundTo lost k) ([ev4 5 0 0 0] ++ (rest ++ [ev4 1 0 0 1])) (ev4 3 (k / 2 : Nat) (k % 2 : Nat) 0) 1 (by omega))
    · exact (by simpa [Ev.vals, ev4] using evs_at (roundTo lost k) ([ev4 5 0 0 0] ++ (rest ++ [ev4 1 0 0 1])) (ev4 3 (k / 2 : Nat) (k % 2 : Nat) 0) 2 (by omega))
    · exact (by simpa [Ev.vals, ev4] using evs_at (roundTo lost k ++ [ev4 3 (k / 2 : Nat) (k % 2 : Nat) 0]) (rest ++ [ev4 1 0 0 1]) (ev4 5 0 0 0) 0 (by omega))
    · simp <;> omega
    · rw [roundTo, h1]; simp
  · have h1 : roundAt lost k = [ev4 3 (k / 2 : Nat) (k % 2 : Nat) 0, ev4 4 0 0 0, ev4 4 0 0 0] := by unfold roundAt; rw [if_neg (fun h => hgone (hg.2 h))]
    rw [h1, if_neg hgone, if_neg hgone]
    refine ⟨?_, ?_, ?_, ?_, fun _ => ?_, ?_, ?_⟩
    · exact (by simpa [Ev.vals, ev4] using evs_at (roundTo lost k) ([ev4 4 0 0 0, ev4 4 0 0 0] ++ (rest ++ [ev4 1 0 0 1])) (ev4 3 (k / 2 : Nat) (k % 2 : Nat) 0) 0 (by omega))
    · exact (by simpa [Ev.vals, ev4] using evs_at (roundTo lost k) ([ev4 4 0 0 0, ev4 4 0 0 0] ++ (rest ++ [ev4 1 0 0 1])) (ev4 3 (k / 2 : Nat) (k % 2 : Nat) 0) 1 (by omega))
    · exact (by simpa [Ev.vals, ev4] using evs_at (roundTo lost k) ([ev4 4 0 0 0, ev4 4 0 0 0] ++ (rest ++ [ev4 1 0 0 1])) (ev4 3 (k / 2 : Nat) (k % 2 : Nat) 0) 2 (by omega))
    · exact (by simpa [Ev.vals, ev4] using evs_at (roundTo lost k ++ [ev4 3 (k / 2 : Nat) (k % 2 : Nat) 0]) ([ev4 4 0 0 0] ++ (rest ++ [ev4 1 0 0 1])) (ev4 4 0 0 0) 0 (by omega))
    · exact (by simpa [Ev.vals, ev4] using evs_at (roundTo lost k ++ [ev4 3 (k / 2 : Nat) (k % 2 : Nat) 0, ev4 4 0 0 0]) (rest ++ [ev4 1 0 0 1]) (ev4 4 0 0 0) 0 (by omega))
    · simp <;> omega
    · rw [roundTo, h1]; simp
theorem round_last (n : Nat) (lost : List UInt8) (hn : n ≤ 16) : (evs (roundAll n lost)).getD ((roundTo lost (2 * n)).length * 15) undef = .int .i64 1 ∧ (evs (roundAll n lost)).getD ((roundTo lost (2 * n)).length * 15 + 3) undef = .int .i64 1 ∧ (roundAll n lost).length = (roundTo lost (2 * n)).length + 1 := by
  have hall : roundAll n lost = roundTo lost (2 * n) ++ [ev4 1 0 0 1] := by
    unfold roundAll
    rw [show (min (max (n : Int) 0) 16).toNat = n by omega]
  rw [hall]
  exact ⟨by simpa [Ev.vals, ev4] using evs_at (roundTo lost (2 * n)) [] (ev4 1 0 0 1) 0 (by omega), by simpa [Ev.vals, ev4] using evs_at (roundTo lost (2 * n)) [] (ev4 1 0 0 1) 3 (by omega), by simp⟩
theorem and_u8 : ∀ c : Fin 256, bits .and .u8 (c.val : Int) 1 = ((c.val % 2 : Nat) : Int) := by decide +kernel
theorem vec_block {S : Nat → Prop} {w : World} {E : TypeId} {sz n : Nat} {p : Option Addr} {c : Nat} {xs : List Value} (h : IsVec S w E sz (.slice p n c) n xs) (hn : 0 < n) :
    ∃ b, p = some ⟨b, 0, none⟩ ∧ S b ∧ b < w.heap.size ∧ ∀ j, j < n * sz → w.cell? ⟨b, j, none⟩ = some (xs.getD j undef) := by
  obtain ⟨⟨hl, h1⟩, h2⟩ := h
  rcases h1 with ⟨h, rfl⟩ | ⟨g, cap, cur, h, hg, hh, hnc, hm, hs, ht⟩
  · omega
  · simp only [Value.slice.injEq] at h
    obtain ⟨rfl, -, rfl⟩ := h
    refine ⟨g, rfl, h2 g rfl, heap_lt hh, fun j hj => ?_⟩
    rw [cell_of hh, ← ht]
    have : j < cur.size := by rw [hs]; exact Nat.lt_of_lt_of_le hj (Nat.mul_le_mul_right _ hnc)
    simp [hj, this]
set_option maxRecDepth 100000 in
set_option maxHeartbeats 4000000 in
theorem lawTaleRounds (T : Nat → Prop) (p0 : Option Addr) (len cap : Nat) (lost : List UInt8) (n : Nat) (w : World) (hrow : IsRow T w (.slice p0 len cap) (bys lost)) (hn : n ≤ 16) (hl : lost.length ≤ 100) :
    Calls Try.prog 3 #[.int .i64 n, .slice p0 len cap] w fun e w' => e = .returned (.bool true) ∧ Mod nil w w' := by
  refine (?_ : ∀ Post : Ending → World → Prop, Hid (∀ e w', (e = .returned (.bool true) ∧ Mod nil w w') → Post e w') → Calls Try.prog 3 #[.int .i64 n, .slice p0 len cap] w Post) _ (Lib.hid (fun _ _ h => h))
  intro Post HPOST
  have HROW := Lib.hid hrow
  obtain rfl : len = lost.length := by
    obtain ⟨_, _, h, _⟩ := hrow
    simp only [Value.slice.injEq, bys_length] at h
    exact h.2.1
  obtain ⟨L, hL⟩ : ∃ L, lost.length = L := ⟨_, rfl⟩
  rw [hL] at HROW hl ⊢
  have HLB := Lib.hid hL
  clear hrow hL
  go_enter Try.func3, Try.ntmps3
  go_wp2_with fail
  refine (taleFirst w).mono ?_
  rintro e w1 ⟨rfl, hm1⟩
  have HM1 := Lib.hid hm1
  clear hm1
  go_wp2_with fail
  refine (taleRound T p0 L cap lost n w1 (HROW.out.modNil HM1.out) (by rw [HLB.out]; omega)).mono ?_
  obtain ⟨R, hR⟩ : ∃ R, (roundAll n lost).length = R := ⟨_, rfl⟩
  rw [hR]
  have HRL := Lib.hid hR
  clear hR
  rintro e w2 ⟨v', rfl, hv, hm2⟩
  obtain ⟨pl, cl, rfl⟩ := hv.form
  have hRpos : 0 < R := by have := HRL.out; rw [← this]; unfold roundAll; simp
  obtain ⟨gl, rfl, -, -, hcell⟩ := vec_block hv hRpos
  have HC := Lib.hid hcell
  have HM2 := Lib.hid (HM1.out.thenNil hm2)
  have hR200 : R ≤ 200 := by have := HRL.out; rw [← this]; unfold roundAll; have := roundTo_le lost (2 * (min (max (n : Int) 0) 16).toNat); simp only [List.length_append, List.length_cons, List.length_nil]; omega
  clear hv hm2 hcell hRpos
  go_wp2_with fail
  go_loopw [6, 7] (fun v6 v7 wr => ∃ (i A : Nat), i ≤ n ∧ v7 = .int .i64 i ∧ v6 = .int .i64 A ∧ Hid (A = (roundTo lost (2 * i)).length) ∧ w2 = wr) (fun _ v _ => n - (intOf v).toNat)
  case atStart => exact ⟨0, 0, by omega, rfl, rfl, Lib.hid rfl, rfl⟩
  case round =>
    obtain ⟨i, A, hi, rfl, rfl, HA, rfl⟩ := hrel
    by_cases hlt : i < n
    · go_wp2_with fail
      go_loopw [6, 8] (fun v6 v8 wr => ∃ (j A : Nat), j ≤ 2 ∧ v8 = .int .i64 j ∧ v6 = .int .i64 A ∧ Hid (A = (roundTo lost (2 * i + j)).length) ∧ w2 = wr) (fun _ v _ => 2 - (intOf v).toNat)
      case atStart => exact ⟨0, A, by omega, rfl, rfl, HA, rfl⟩
      case round =>
        clear HA
        obtain ⟨j, B, hj, rfl, rfl, HB, rfl⟩ := hrel
        by_cases hjt : j < 2
        · obtain ⟨k, hk⟩ : ∃ k, 2 * i + j = k := ⟨_, rfl⟩
          have hw1 : IntKind.i64.wrap (2 * (i : Int)) = ((2 * i : Nat) : Int) := by rw [IntKind.wrap_i64]; omega
          have hw2 : IntKind.i64.wrap (((2 * i : Nat) : Int) + (j : Int)) = (k : Int) := by rw [IntKind.wrap_i64]; omega
          have hkn : k < 2 * n := by omega
          have HK2 : Hid (k / 2 = i) := Lib.hid (by omega)
          have HKm : Hid (k % 2 = j) := Lib.hid (by omega)
          have HK := Lib.hid hk
          rw [hk] at HB
          clear hk
          have hwB1 : IntKind.i64.wrap ((B : Int) + 1) = ((B + 1 : Nat) : Int) := by rw [IntKind.wrap_i64]; have := HB.out; have := roundTo_le lost k; omega
          have hwB2 : IntKind.i64.wrap ((B : Int) + 2) = ((B + 2 : Nat) : Int) := by rw [IntKind.wrap_i64]; have := HB.out; have := roundTo_le lost k; omega
          have hwB3 : IntKind.i64.wrap ((B : Int) + 3) = ((B + 3 : Nat) : Int) := by rw [IntKind.wrap_i64]; have := HB.out; have := roundTo_le lost k; omega
          have hfacts := round_facts n lost k hn hkn B HB.out (k < lost.length ∧ (lost.getD k 0).toNat % 2 = 1) Iff.rfl
          rw [HRL.out, HK2.out, HKm.out, HLB.out] at hfacts
          have hk' : 2 * (i : Int) + (j : Int) = (k : Int) := by have := HK.out; omega
          go_upto_region 14 with (fail)
          clear hk' hw1 hw2
          by_cases hkL : k < L
          · obtain ⟨pb, po, hp0, hcell⟩ : ∃ pb po, p0 = some ⟨pb, po, none⟩ ∧ w2.cell? ⟨pb, po + k, none⟩ = some (.int .u8 (lost.getD k 0).toNat) := by
              obtain ⟨p', c', hp, hcc⟩ := HROW.out
              obtain ⟨b', o', h1, h2, h3, h4⟩ := hcc k (by rw [bys_length, HLB.out]; exact hkL)
              simp only [Value.slice.injEq] at hp
              obtain ⟨rfl, -, -⟩ := hp
              rw [bys_getD _ _ (by rw [HLB.out]; exact hkL)] at h4
              exact ⟨b', o', h1, cell_kept h4 HM2.out h3 (not_nil _)⟩
            subst hp0
            obtain ⟨c, hc⟩ : ∃ c, (lost.getD k 0).toNat = c := ⟨_, rfl⟩
            have hcb : c < 256 := by rw [← hc]; exact UInt8.toNat_lt _
            rw [hc] at hcell hfacts
            have hand := and_u8 ⟨c, hcb⟩
            simp only at hand
            by_cases hodd : c % 2 = 1
            · rw [if_pos ⟨hkL, hodd⟩, if_pos ⟨hkL, hodd⟩] at hfacts
              rw [hodd] at hand
              obtain ⟨f0, f1, f2, f3, -, f5, f6⟩ := hfacts
              have k0 := HC.out (B * 15) (by omega)
              have k1 := HC.out (B * 15 + 1) (by omega)
              have k2 := HC.out (B * 15 + 2) (by omega)
              have k3 := HC.out ((B + 1) * 15) (by omega)
              rw [f0] at k0
              rw [f1] at k1
              rw [f2] at k2
              rw [f3] at k3
              have HN : Hid (B + 2 = (roundTo lost (2 * i + (j + 1))).length) := Lib.hid (by rw [← f6]; congr 2; have := HK.out; omega)
              have g0 : ¬ (R : Int) < (B : Int) + 2 := by omega
              have g1 : decide ((R : Int) < (B : Int) + 2) = false := decide_eq_false g0
              clear f0 f1 f2 f3 f6 hc hodd
              have hun : undef = Value.tuple #[] := rfl
              go_upto_region 20 with (fail)
              rw [← hun]
              clear hun
              go_wp2_with fail
              exact ⟨⟨j + 1, B + 2, by omega, rfl, rfl, HN, trivial⟩, by simp [intOf] <;> omega⟩
            · have h0c : c % 2 = 0 := by omega
              rw [if_neg (fun h => hodd h.2), if_neg (fun h => hodd h.2)] at hfacts
              rw [h0c] at hand
              obtain ⟨f0, f1, f2, f3, f4, f5, f6⟩ := hfacts
              have f4 := f4 (fun h => hodd h.2)
              have k0 := HC.out (B * 15) (by omega)
              have k1 := HC.out (B * 15 + 1) (by omega)
              have k2 := HC.out (B * 15 + 2) (by omega)
              have k3 := HC.out ((B + 1) * 15) (by omega)
              have k4 := HC.out ((B + 2) * 15) (by omega)
              rw [f0] at k0
              rw [f1] at k1
              rw [f2] at k2
              rw [f3] at k3
              rw [f4] at k4
              have HN : Hid (B + 3 = (roundTo lost (2 * i + (j + 1))).length) := Lib.hid (by rw [← f6]; congr 2; have := HK.out; omega)
              have g0 : ¬ (R : Int) < (B : Int) + 3 := by omega
              have g1 : decide ((R : Int) < (B : Int) + 3) = false := decide_eq_false g0
              clear f0 f1 f2 f3 f4 f6 hc hodd h0c
              have hun : undef = Value.tuple #[] := rfl
              go_upto_region 20 with (fail)
              rw [← hun]
              clear hun
              go_wp2_with fail
              exact ⟨⟨j + 1, B + 3, by omega, rfl, rfl, HN, trivial⟩, by simp [intOf] <;> omega⟩
          · rw [if_neg (fun h => hkL h.1), if_neg (fun h => hkL h.1)] at hfacts
            obtain ⟨f0, f1, f2, f3, f4, f5, f6⟩ := hfacts
            have f4 := f4 (fun h => hkL h.1)
            have k0 := HC.out (B * 15) (by omega)
            have k1 := HC.out (B * 15 + 1) (by omega)
            have k2 := HC.out (B * 15 + 2) (by omega)
            have k3 := HC.out ((B + 1) * 15) (by omega)
            have k4 := HC.out ((B + 2) * 15) (by omega)
            rw [f0] at k0
            rw [f1] at k1
            rw [f2] at k2
            rw [f3] at k3
            rw [f4] at k4
            have HN : Hid (B + 3 = (roundTo lost (2 * i + (j + 1))).length) := Lib.hid (by rw [← f6]; congr 2; have := HK.out; omega)
            have g0 : ¬ (R : Int) < (B : Int) + 3 := by omega
            have g1 : decide ((R : Int) < (B : Int) + 3) = false := decide_eq_false g0
            have g2 : ¬ (k : Int) < (L : Int) := by omega
            have g3 : decide ((k : Int) < (L : Int)) = false := decide_eq_false g2
            clear f0 f1 f2 f3 f4 f6 hkL
            have hun : undef = Value.tuple #[] := rfl
            go_upto_region 20 with (fail)
            rw [← hun]
            clear hun
            go_wp2_with fail
            exact ⟨⟨j + 1, B + 3, by omega, rfl, rfl, HN, trivial⟩, by simp [intOf] <;> omega⟩
        · obtain rfl : j = 2 := by omega
          have HN : Hid (B = (roundTo lost (2 * (i + 1))).length) := Lib.hid (by rw [show 2 * (i + 1) = 2 * i + 2 by omega]; exact HB.out)
          go_wp2_with fail
          exact ⟨⟨i + 1, B, by omega, rfl, rfl, HN, trivial⟩, by simp [intOf] <;> omega⟩
    · obtain rfl : i = n := by omega
      obtain ⟨l0, l1, l2⟩ := round_last i lost hn
      rw [← HA.out] at l0 l1 l2
      rw [HRL.out] at l2
      have k0 := HC.out (A * 15) (by omega)
      have k1 := HC.out (A * 15 + 3) (by omega)
      rw [l0] at k0
      rw [l1] at k1
      have HN : Hid (∀ w3, Mod nil w2 w3 → w3.cell? ⟨gl, A * 15, none⟩ = some (.int .i64 1) ∧ w3.cell? ⟨gl, A * 15 + 3, none⟩ = some (.int .i64 1)) := Lib.hid (fun w3 m => ⟨cell_kept k0 m (World.block_lt_of_cell? _ _ k0) (not_nil _), cell_kept k1 m (World.block_lt_of_cell? _ _ k1) (not_nil _)⟩)
      have hwR : IntKind.i64.wrap ((R : Int) - 1) = (A : Int) := by rw [IntKind.wrap_i64]; omega
      clear k0 k1 l0 l1
      go_wp2_with fail
      refine (taleFirst w2).mono ?_
      rintro e w3 ⟨rfl, hm3⟩
      obtain ⟨k0, k1⟩ := HN.out w3 hm3
      have HEND : Hid (Post (.returned (.bool true)) w3) := Lib.hid (HPOST.out _ _ ⟨rfl, HM2.out.thenNil hm3⟩)
      clear hm3
      go_wp2_with fail
      exact HEND.out
theorem walkTaleRounds (v0 v1 : Value) (W : World) (r0 : Rd W 3 v0) (r1 : Rd W 22 v1) :
    Calls Try.prog 3 #[v0, v1] W fun e w' => e = .returned (.bool true) ∧ Below W.heap.size W w' := by
  obtain ⟨n, rfl, -⟩ := Rd.int Try.underlying3 r0
  obtain ⟨l, hl, hn⟩ := r1.bytes
  obtain ⟨p, c, rfl, hc⟩ := id hl
  rw [bys_length] at hl ⊢
  by_cases hbad : n < 0 ∨ 16 < n ∨ 100 < l.length
  · exact (lawTaleRounds_bad n p l.length c W hbad).mono fun e w' ⟨h1, h2⟩ => ⟨h1, h2.below⟩
  · obtain ⟨m, rfl⟩ := Int.eq_ofNat_of_zero_le (show 0 ≤ n by omega)
    exact (lawTaleRounds _ p l.length c l m W hl (by omega) (by omega)).mono fun e w' ⟨h1, h2⟩ => ⟨h1, h2.below⟩
end Go.Proofs.Ytlkhihdgaimboaa

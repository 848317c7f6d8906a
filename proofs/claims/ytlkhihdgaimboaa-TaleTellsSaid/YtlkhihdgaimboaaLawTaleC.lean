/- The walk over TaleTells. -/
import Derived.Test.YtlkhihdgaimboaaRefTaleH
import Derived.Test.YtlkhihdgaimboaaRefTaleE
namespace Go.Proofs.Ytlkhihdgaimboaa
open Go.RowKit
theorem evd_of_plain {S : Nat → Prop} {w : World} {v : Value} {n : Nat} {es : List Ev} (h : IsVec S w 32 15 v n (evs es)) (hp : ∀ e ∈ es, e.x = .slice none 0 0 ∧ e.y = .slice none 0 0) :
    Evd S w v n es (es.map fun e => ⟨e.k, e.a, e.b, e.n, [], []⟩) := by
  refine ⟨h, ?_⟩
  clear h
  generalize (fun k => S k ∧ ¬ v.ownBlock = some k) = T
  induction es with
  | nil => trivial
  | cons e es ih =>
    refine ⟨?_, ih (fun e he => hp e (List.mem_cons_of_mem _ he))⟩
    obtain ⟨h1, h2⟩ := hp e (by simp)
    exact ⟨rfl, rfl, rfl, rfl, by rw [h1]; exact row_nil _ _, by rw [h2]; exact row_nil _ _⟩
theorem roundAt_plain (lost : List UInt8) (i : Nat) : ∀ e ∈ roundAt lost i, e.x = .slice none 0 0 ∧ e.y = .slice none 0 0 := by
  intro e he
  unfold roundAt at he
  split at he <;> simp [ev4] at he <;> (first | (rcases he with rfl | rfl <;> exact ⟨rfl, rfl⟩) | (rcases he with rfl | rfl | rfl <;> exact ⟨rfl, rfl⟩))
theorem roundTo_plain (lost : List UInt8) (i : Nat) : ∀ e ∈ roundTo lost i, e.x = .slice none 0 0 ∧ e.y = .slice none 0 0 := by
  induction i with
  | zero => intro e he; cases he
  | succ i ih =>
    intro e he
    rcases List.mem_append.1 (show e ∈ roundTo lost i ++ roundAt lost i from he) with h | h
    · exact ih e h
    · exact roundAt_plain lost i e h
theorem roundAll_plain (n : Int) (lost : List UInt8) : ∀ e ∈ roundAll n lost, e.x = .slice none 0 0 ∧ e.y = .slice none 0 0 := by
  intro e he
  rcases List.mem_append.1 (show e ∈ roundTo lost _ ++ [ev4 1 0 0 1] from he) with h | h
  · exact roundTo_plain lost _ e h
  · rw [List.mem_singleton.1 h]; exact ⟨rfl, rfl⟩
theorem roundAll_small (n : Int) (lost : List UInt8) : (roundAll n lost).length ≤ 100 := by
  unfold roundAll
  rw [List.length_append]
  have := roundTo_le lost (2 * (min (max n 0) 16).toNat)
  simp
  omega
theorem tradesAll_small (b : List UInt8) (n : Int) : (tradesAll b n).length ≤ 200 := by
  unfold tradesAll
  split
  · rw [tradesTo_length]; omega
  · simp
theorem eventsAll_small (b : List UInt8) (n : Int) : (eventsAll b n).length ≤ 400 := by
  unfold eventsAll
  split
  · rw [eventsTo_length]; omega
  · simp
theorem eventsAll_keep (b : List UInt8) (n : Int) : ∀ m ∈ eventsAll b n, m.keep.length ≤ 100000 := by
  intro m hm
  by_cases h : 2 ≤ n
  · obtain ⟨k, rfl⟩ : ∃ k : Nat, n = k := ⟨n.toNat, by omega⟩
    have := (eventsAll_ok b k (by omega) m hm).keep
    omega
  · unfold eventsAll at hm
    rw [if_neg (by omega)] at hm
    cases hm
/-- the cells of a trade of a list -/
theorem trades_at : ∀ (l : List T7) (i : Nat) (t : T7), l[i]? = some t → ∀ j, j < 7 → (trades l).getD (i * 7 + j) undef = t.vals.getD j undef
  | x :: l, 0, t, h, j, hj => by
    simp only [List.getElem?_cons_zero, Option.some.injEq] at h
    subst h
    simp only [trades, List.flatMap_cons, Nat.zero_mul, Nat.zero_add, List.getD_eq_getElem?_getD]
    rw [List.getElem?_append_left (by simpa [T7.vals] using hj)]
  | x :: l, i + 1, t, h, j, hj => by
    have ih := trades_at l i t (by simpa using h) j hj
    simp only [trades, List.flatMap_cons, List.getD_eq_getElem?_getD] at ih ⊢
    rw [List.getElem?_append_right (by simp [T7.vals]; omega), ← ih]
    have e : (i + 1) * 7 + j - x.vals.length = i * 7 + j := by simp [T7.vals]; omega
    rw [e]
  | [], i, t, h, j, hj => by simp at h
theorem lawTaleTells_long (n : Int) (p q : Option Addr) (len cap len2 cap2 : Nat) (w : World) (hb : 2000 < len ∨ (¬ 2000 < len ∧ 200 < len2)) : Calls Try.prog 5 #[.slice p len cap, .slice q len2 cap2, .int .i64 n] w fun e w' => e = .returned (.bool true) ∧ Mod nil w w' := by
  rcases hb with hb | ⟨hb, hb'⟩
  · have h1 : decide ((2000 : Int) < (len : Int)) = true := decide_eq_true (by omega)
    have h2 : (2000 : Int) < (len : Int) := by omega
    go_enter Try.func5, Try.ntmps5
    go_wp2_with fail
    refine (taleFirst w).mono ?_
    rintro e w1 ⟨rfl, hm1⟩
    go_wp2_with fail
    refine (taleFirst w1).mono ?_
    rintro e w2 ⟨rfl, hm2⟩
    go_wp2_with fail
    go_ret
    exact ⟨rfl, hm1.thenNil hm2⟩
  · have h1 : decide ((2000 : Int) < (len : Int)) = false := decide_eq_false (by omega)
    have h2 : ¬ (2000 : Int) < (len : Int) := by omega
    have h3 : (200 : Int) < (len2 : Int) := by omega
    have h4 : decide ((200 : Int) < (len2 : Int)) = true := decide_eq_true h3
    go_enter Try.func5, Try.ntmps5
    go_wp2_with fail
    refine (taleFirst w).mono ?_
    rintro e w1 ⟨rfl, hm1⟩
    go_wp2_with fail
    refine (taleFirst w1).mono ?_
    rintro e w2 ⟨rfl, hm2⟩
    go_wp2_with fail
    go_ret
    exact ⟨rfl, hm1.thenNil hm2⟩
set_option maxRecDepth 100000 in
set_option maxHeartbeats 4000000 in
theorem lawTaleTells (T U : Nat → Prop) (p0 q0 : Option Addr) (len cap len2 cap2 : Nat) (b lost : List UInt8) (n : Int) (w : World) (hrow : IsRow T w (.slice p0 len cap) (bys b)) (hlost : IsRow U w (.slice q0 len2 cap2) (bys lost)) (hcap : len ≤ cap) (hl : len ≤ 2000) (hl2 : len2 ≤ 200) (hn : n ≤ 9223372036854775807) :
    Calls Try.prog 5 #[.slice p0 len cap, .slice q0 len2 cap2, .int .i64 n] w fun e w' => e = .returned (.bool true) ∧ Mod nil w w' := by
  refine (?_ : ∀ Post : Ending → World → Prop, Hid (∀ e w', (e = .returned (.bool true) ∧ Mod nil w w') → Post e w') → Calls Try.prog 5 #[.slice p0 len cap, .slice q0 len2 cap2, .int .i64 n] w Post) _ (Lib.hid (fun _ _ h => h))
  intro Post HPOST
  have hbl : b.length = len := by
    obtain ⟨_, _, h, _⟩ := hrow
    simp only [Value.slice.injEq, bys_length] at h
    exact h.2.1.symm
  have hll : lost.length = len2 := by
    obtain ⟨_, _, h, _⟩ := hlost
    simp only [Value.slice.injEq, bys_length] at h
    exact h.2.1.symm
  have HBL := Lib.hid hbl
  have HLL := Lib.hid hll
  have HROW := Lib.hid hrow
  have HLOST := Lib.hid hlost
  have h1 : decide ((2000 : Int) < (len : Int)) = false := decide_eq_false (by omega)
  have h2 : ¬ (2000 : Int) < (len : Int) := by omega
  have h3 : decide ((200 : Int) < (len2 : Int)) = false := decide_eq_false (by omega)
  have h4 : ¬ (200 : Int) < (len2 : Int) := by omega
  obtain ⟨N, hN⟩ : ∃ N, (tradesAll b n).length = N := ⟨_, rfl⟩
  have hN200 : N ≤ 200 := by rw [← hN]; exact tradesAll_small b n
  have HN := Lib.hid hN
  clear hrow hlost hbl hll hN
  go_enter Try.func5, Try.ntmps5
  go_wp2_with fail
  refine (taleFirst w).mono ?_
  rintro e w1 ⟨rfl, hm1⟩
  go_wp2_with fail
  refine (taleTrades T p0 len cap b n w1 (HROW.out.modNil hm1) hcap (by have := HBL.out; omega)).mono ?_
  rintro e w2 ⟨v2, rfl, hv2, hm2⟩
  rw [HN.out] at hv2
  obtain ⟨p2, c2, rfl⟩ := hv2.form
  have hm12 := hm1.thenNil hm2
  go_wp2_with fail
  refine (refTrades T p0 len cap b n w2 (HROW.out.modNil hm12) hcap (by have := HBL.out; omega)).mono ?_
  rintro e w3 ⟨v3, rfl, hv3, hm3⟩
  rw [HN.out] at hv3
  obtain ⟨p3, c3, rfl⟩ := hv3.form
  have HV2 := Lib.hid (hv2.modNil hm3)
  have HV3 := Lib.hid hv3
  have HM3 := Lib.hid (hm12.thenNil hm3)
  clear hv2 hv3 hm1 hm2 hm3 hm12
  go_wp2_with fail
  go_loopw [9] (fun v9 wr => ∃ i : Nat, v9 = .int .i64 i ∧ i ≤ N ∧ Hid (Mod nil w3 wr)) (fun v _ => N - (intOf v).toNat)
  case atStart => exact ⟨0, rfl, by omega, Lib.hid (Mod.refl _ _)⟩
  case round =>
    obtain ⟨i, rfl, hi, HMR⟩ := hrel
    by_cases hlt : i < N
    · obtain ⟨t, ht⟩ : ∃ t, (tradesAll b n)[i]? = some t := ⟨_, List.getElem?_eq_getElem (by rw [HN.out]; exact hlt)⟩
      obtain ⟨g, rfl, -, -, hx⟩ := vec_block (HV2.out.modNil HMR.out) (by omega)
      obtain ⟨h, rfl, -, -, hy⟩ := vec_block (HV3.out.modNil HMR.out) (by omega)
      have a0 := (hx (i * 7 + 0) (by omega)).trans (congrArg some (trades_at _ i t ht 0 (by omega)))
      have a1 := (hx (i * 7 + 1) (by omega)).trans (congrArg some (trades_at _ i t ht 1 (by omega)))
      have a2 := (hx (i * 7 + 2) (by omega)).trans (congrArg some (trades_at _ i t ht 2 (by omega)))
      have a3 := (hx (i * 7 + 3) (by omega)).trans (congrArg some (trades_at _ i t ht 3 (by omega)))
      have a4 := (hx (i * 7 + 4) (by omega)).trans (congrArg some (trades_at _ i t ht 4 (by omega)))
      have a5 := (hx (i * 7 + 5) (by omega)).trans (congrArg some (trades_at _ i t ht 5 (by omega)))
      have a6 := (hx (i * 7 + 6) (by omega)).trans (congrArg some (trades_at _ i t ht 6 (by omega)))
      have b0 := (hy (i * 7 + 0) (by omega)).trans (congrArg some (trades_at _ i t ht 0 (by omega)))
      have b1 := (hy (i * 7 + 1) (by omega)).trans (congrArg some (trades_at _ i t ht 1 (by omega)))
      have b2 := (hy (i * 7 + 2) (by omega)).trans (congrArg some (trades_at _ i t ht 2 (by omega)))
      have b3 := (hy (i * 7 + 3) (by omega)).trans (congrArg some (trades_at _ i t ht 3 (by omega)))
      have b4 := (hy (i * 7 + 4) (by omega)).trans (congrArg some (trades_at _ i t ht 4 (by omega)))
      have b5 := (hy (i * 7 + 5) (by omega)).trans (congrArg some (trades_at _ i t ht 5 (by omega)))
      have b6 := (hy (i * 7 + 6) (by omega)).trans (congrArg some (trades_at _ i t ht 6 (by omega)))
      simp only [T7.vals, List.getD_cons_zero, List.getD_cons_succ, Nat.add_zero] at a0 a1 a2 a3 a4 a5 a6 b0 b1 b2 b3 b4 b5 b6
      clear hx hy ht
      go_wp2_with fail
      first
        | exact ⟨⟨i + 1, by go_num, by omega, HMR⟩, by simp [intOf]; omega⟩
        | (go_quiet (fail)
           go_wp2_with fail
           exact ⟨⟨i + 1, by go_num, by omega, Lib.hid (HMR.out.drewN _)⟩, by simp [intOf]; omega⟩)
    · obtain rfl : i = N := by omega
      have HM4 := Lib.hid (HM3.out.thenNil HMR.out)
      clear HV2 HV3 HMR HM3 HN
      obtain ⟨M, hM⟩ : ∃ M, (min (max n 2) 16).toNat = M := ⟨_, rfl⟩
      have hM16 : M ≤ 16 := by omega
      go_wp2_with fail
      refine (taleFirst _).mono ?_
      rintro e w5 ⟨rfl, hm5⟩
      have hm5' := HM4.out.thenNil hm5
      go_wp2_with fail
      refine (taleSmall n w5).mono ?_
      rw [hM]
      rintro e w6 ⟨x0, x1, gs, rfl, hx0, hx1, -, hbs, hm6⟩
      go_wp2_with fail
      refine (refSmall n w6).mono ?_
      rw [hM]
      rintro e w7 ⟨y0, y1, gt, rfl, hy0, hy1, -, hbt, hm7⟩
      go_wp2_with fail
      refine (lawSame (fun _ => True) (fun _ => True) M x0 x1 y0 y1 _ _ hM16 [1, 2, 3, 4, 5, 6, 7, 8] w7 (same2 (hx0.mod hm7 (fun _ _ _ h => h)) hy0) (same2 (hx1.mod hm7 (fun _ _ _ h => h)) hy1) (.ofBlock (hm7.keep hbs) trivial 8 8 rfl) (.ofBlock hbt trivial 8 8 rfl)).mono ?_
      rintro e w8 ⟨rfl, hm8⟩
      have HM8 := Lib.hid (((hm5'.thenNil hm6).thenNil hm7).thenNil hm8)
      clear hm5 hm5' hm6 hm7 hm8 hx0 hx1 hy0 hy1 hbs hbt hM
      go_wp2_with fail
      refine (shaNewTable w8).mono ?_
      rintro e w9 ⟨tb, rfl, htab, htb, hm9⟩
      go_wp2_with fail
      refine (taleSecret tb n w9 htab hn).mono ?_
      rintro e w10 ⟨rfl, -, hm10⟩
      obtain ⟨tx, htx⟩ : ∃ tx, textOf (shaOf (secretMsg n)) = tx := ⟨_, rfl⟩
      rw [htx]
      have HM10 := Lib.hid ((HM8.out.thenNil hm9).new hm10 (fun k hk => by have := HM8.out.size; omega))
      have HTX := Lib.hid htx
      clear htx hm9 hm10 htab
      go_wp2_with fail
      refine (refSecret n w10 hn).mono ?_
      rw [HTX.out]
      rintro e w11 ⟨rfl, hm11⟩
      have HM11 := Lib.hid (HM10.out.thenNil hm11)
      clear hm11
      go_wp2_with fail
      refine (taleEvents T p0 len cap b n w11 (HROW.out.modNil HM11.out) hcap (by have := HBL.out; omega)).mono ?_
      rintro e w12 ⟨v12, es, rfl, hev, hm12⟩
      obtain ⟨p12, c12, rfl⟩ := hev.1.form
      have HEV := Lib.hid hev
      have HM12 := Lib.hid (HM11.out.thenNil hm12)
      clear hev hm12
      go_wp2_with fail
      refine (refEvents T p0 len cap b n w12 (HROW.out.modNil HM12.out) (by have := HBL.out; omega)).mono ?_
      rintro e w13 ⟨v13, fs, rfl, hef, hm13⟩
      obtain ⟨p13, c13, rfl⟩ := hef.1.form
      have HEF := Lib.hid hef
      have HEV2 := Lib.hid (HEV.out.mod hm13 (fun _ _ _ h => h))
      have HM13 := Lib.hid (HM12.out.thenNil hm13)
      clear hef hm13
      go_wp2_with fail
      refine (refSameEvents _ _ _ c12 c13 p12 p13 es fs (eventsAll b n) w13 HEV2.out HEF.out (by have := eventsAll_small b n; omega) (eventsAll_keep b n)).mono ?_
      rintro e w14 ⟨rfl, hm14⟩
      have HM14 := Lib.hid (HM13.out.thenNil hm14)
      clear hm14
      go_wp2_with fail
      refine (taleRound U q0 len2 cap2 lost n w14 (HLOST.out.modNil HM14.out) (by have := HLL.out; omega)).mono ?_
      rintro e w15 ⟨v15, rfl, hv15, hm15⟩
      obtain ⟨p15, c15, rfl⟩ := hv15.form
      have HV15 := Lib.hid hv15
      have HM15 := Lib.hid (HM14.out.thenNil hm15)
      clear hv15 hm15
      go_wp2_with fail
      refine (refRound U q0 len2 cap2 lost n w15 (HLOST.out.modNil HM15.out) (by have := HLL.out; omega)).mono ?_
      rintro e w16 ⟨v16, rfl, hv16, hm16⟩
      obtain ⟨p16, c16, rfl⟩ := hv16.form
      have HV16 := Lib.hid (evd_of_plain hv16 (roundAll_plain n lost))
      have HV15' := Lib.hid (evd_of_plain (HV15.out.modNil hm16) (roundAll_plain n lost))
      have HM16 := Lib.hid (HM15.out.thenNil hm16)
      clear hv16 hm16
      go_wp2_with fail
      refine (refSameEvents _ _ _ c15 c16 p15 p16 _ _ _ w16 HV15'.out HV16.out (by have := roundAll_small n lost; omega) (fun m hm => by obtain ⟨e, _, rfl⟩ := List.mem_map.1 hm; simp)).mono ?_
      rintro e w17 ⟨rfl, hm17⟩
      have HM17 := Lib.hid (HM16.out.thenNil hm17)
      clear hm17
      go_wp2_with fail
      exact HPOST.out _ _ ⟨rfl, HM17.out⟩
theorem walkTaleTells (v0 v1 v2 : Value) (W : World) (r0 : Rd W 22 v0) (r1 : Rd W 22 v1) (r2 : Rd W 3 v2) : Calls Try.prog 5 #[v0, v1, v2] W fun e w' => e = .returned (.bool true) ∧ Below W.heap.size W w' := by
  obtain ⟨p, cap, b, rfl, hcap, hcm, hrow⟩ := r0.bytesCap
  obtain ⟨q, cap2, lost, rfl, hcap2, hcm2, hlost⟩ := r1.bytesCap
  obtain ⟨n, rfl, hn⟩ := Rd.int Try.underlying3 r2
  have hr : -9223372036854775808 ≤ n ∧ n ≤ 9223372036854775807 := by simpa [Lit.wf, IntKind.min, IntKind.max, IntKind.bits, IntKind.signed] using hn
  have hn' : n ≤ 9223372036854775807 := hr.2
  by_cases h1 : 2000 < b.length ∨ (¬ 2000 < b.length ∧ 200 < lost.length)
  · exact (lawTaleTells_long n p q _ cap _ cap2 W h1).mono fun e w' ⟨h1, h2⟩ => ⟨h1, h2.below⟩
  · exact (lawTaleTells _ _ p q _ cap _ cap2 b lost n W hrow hlost hcap (by omega) (by omega) hn').mono fun e w' ⟨h1, h2⟩ => ⟨h1, h2.below⟩
end Go.Proofs.Ytlkhihdgaimboaa

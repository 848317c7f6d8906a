/- Package sha: primes and roots. -/
import Derived.Test.YtdfpmlfdmhlhcaaGreatShaPlain
import Derived.Test.YtdfpmlfdmhlhcaaGreatShelf
import Derived.Laws.Bits64b
import Derived.Laws.Externs
namespace Go.Proofs.YtdfpmlfdmhlhcaaGreat
open Go.RowKit

theorem prime_no (n d : Nat) (h2 : 2 ≤ d) (hd : d * d ≤ n) (hm : n % d = 0) : primeB n = false := by
  unfold primeB
  rw [List.all_eq_false]
  have hdn : d < n := by
    have : 2 * d ≤ d * d := Nat.mul_le_mul_right d h2
    omega
  exact ⟨d, List.mem_range.2 hdn, by simp; omega⟩
theorem prime_yes (n d : Nat) (hd : n < d * d) (h : ∀ e, 2 ≤ e → e < d → n % e ≠ 0) : primeB n = true := by
  unfold primeB
  rw [List.all_eq_true]
  intro e _
  simp only [Bool.or_eq_true, decide_eq_true_eq]
  by_cases h1 : e < 2
  · exact .inl (.inl h1)
  · by_cases h2 : n < e * e
    · exact .inl (.inr h2)
    · refine .inr (h e (by omega) ?_)
      by_cases h3 : e < d
      · exact h3
      · have : d * d ≤ e * e := Nat.mul_le_mul (by omega) (by omega)
        omega
theorem shaPrime (n : Nat) (hn : n ≤ 400) (w : World) : Calls Tryz.prog 189 #[.int .u64 n] w fun e w' => e = .returned (.bool (primeB n)) ∧ w = w' := by
  obtain ⟨r, hr⟩ : ∃ r, primeB n = r := ⟨_, rfl⟩
  rw [hr]
  have HR := Lib.hid hr
  clear hr
  go_enter Tryz.func189, Tryz.ntmps189
  go_wp2_with fail
  go_loopw [3] (fun v wr => ∃ d : Nat, v = .int .u64 d ∧ 2 ≤ d ∧ d ≤ 21 ∧ wr = w ∧ Hid (∀ e, 2 ≤ e → e < d → n % e ≠ 0)) (fun v _ => 22 - (intOf v).toNat)
  case atStart => exact ⟨2, rfl, by omega, by omega, rfl, Lib.hid (fun e h1 h2 => by omega)⟩
  case round =>
    obtain ⟨d, rfl, hd2, hd21, rfl, HE⟩ := hrel
    obtain ⟨q, hq⟩ : ∃ q : Nat, d * d = q := ⟨_, rfl⟩
    have hq4 : q ≤ 441 := by have := Nat.mul_le_mul hd21 hd21; omega
    have hqi : (d : Int) * (d : Int) = (q : Int) := by rw [← hq]; simp
    have HQ := Lib.hid hq
    clear hq
    by_cases hle : q ≤ n
    · obtain ⟨m, hm⟩ : ∃ m : Nat, n % d = m := ⟨_, rfl⟩
      have hmi : (n : Int) % (d : Int) = (m : Int) := by rw [← hm]; simp
      have hd0 : ¬ (d : Int) = 0 := by omega
      have HM := Lib.hid hm
      have hdl : d < 21 := by
        by_cases h : d < 21
        · exact h
        · obtain rfl : d = 21 := by omega
          have := HQ.out; omega
      clear hm
      by_cases hm0 : m = 0
      · subst hm0
        have HF := Lib.hid (prime_no n d hd2 (by rw [HQ.out]; exact hle) HM.out)
        go_wp2_with fail
        go_ret
        exact ⟨by rw [← HR.out, HF.out]; rfl, rfl⟩
      · have hm1 : ((m : Int) == 0) = false := by simp; omega
        go_wp2_with fail
        refine ⟨⟨d + 1, by go_num, by omega, by omega, trivial, Lib.hid (fun e h1 h2 => ?_)⟩, by simp [intOf]; omega⟩
        rcases (show e < d ∨ e = d by omega) with h | rfl
        · exact HE.out e h1 h
        · rw [HM.out]; exact hm0
    · have HF := Lib.hid (prime_yes n d (by rw [HQ.out]; omega) HE.out)
      go_wp2_with fail
      go_ret
      exact ⟨by rw [← HR.out, HF.out]; rfl, rfl⟩
theorem shaSquare (x p : Nat) (hx : x < 2199023255552) (w : World) : Calls Tryz.prog 192 #[.int .u64 x, .int .u64 p] w fun e w' => e = .returned (.bool (squareB x p)) ∧ w = w' := by
  obtain ⟨r, hr⟩ : ∃ r, squareB x p = r := ⟨_, rfl⟩
  rw [hr]
  unfold squareB at hr
  obtain ⟨hi, hhi⟩ : ∃ h, x * x / 18446744073709551616 = h := ⟨_, rfl⟩
  obtain ⟨lo, hlo⟩ : ∃ h, x * x % 18446744073709551616 = h := ⟨_, rfl⟩
  have hr2 : r = decide (hi < p ∨ (hi = p ∧ lo = 0)) := by
    rw [← hr, decide_eq_decide]
    omega
  have hm := Tryz.bits_Mul64 x x (by omega) (by omega) w
  rw [hhi, hlo] at hm
  have HM := Lib.hid hm
  have HR := Lib.hid hr2
  clear hr hr2 hm hhi hlo
  go_enter Tryz.func192, Tryz.ntmps192
  go_wp2_with fail
  refine HM.out.mono ?_
  rintro e w1 ⟨rfl, rfl⟩
  by_cases h1 : hi < p
  · go_wp2_with fail
    go_ret
    exact ⟨by rw [HR.out, decide_eq_true (.inl h1)]; rfl, rfl⟩
  · by_cases h2 : hi = p
    · subst h2
      by_cases h3 : lo = 0
      · subst h3
        go_wp2_with fail
        go_ret
        exact ⟨by rw [HR.out, decide_eq_true (by simp)]; rfl, rfl⟩
      · have hb : ((lo : Int) == 0) = false := by simp; omega
        go_wp2_with fail
        go_ret
        exact ⟨by rw [HR.out, decide_eq_false (by rintro (h | h); exact h1 h; exact h3 h.2)]; rfl, rfl⟩
    · have hb : ((hi : Int) == (p : Int)) = false := by simp; omega
      go_wp2_with fail
      go_ret
      exact ⟨by rw [HR.out, decide_eq_false (by rintro (h | h); exact h1 h; exact h2 h.1)]; rfl, rfl⟩
theorem cube_parts (x : Nat) : x * x * x = 18446744073709551616 * (x * x / 18446744073709551616 * x + x * x % 18446744073709551616 * x / 18446744073709551616) + x * x % 18446744073709551616 * x % 18446744073709551616 := by
  have h1 := Nat.div_add_mod (x * x) 18446744073709551616
  have h2 := Nat.div_add_mod (x * x % 18446744073709551616 * x) 18446744073709551616
  have h3 : x * x * x = 18446744073709551616 * (x * x / 18446744073709551616 * x) + x * x % 18446744073709551616 * x := by
    conv => lhs; rw [← h1]
    rw [Nat.add_mul, Nat.mul_assoc]
  rw [Nat.mul_add, Nat.add_assoc, h2]
  exact h3
theorem run_add64_at (x y : Nat) (w : World) : (callFunc 211 #[.int .u64 x, .int .u64 y, .int .u64 0]).run Tryz.prog w = .ok (.value (.tuple #[.int .u64 (((x : Int) + y) % 18446744073709551616), .int .u64 (((x : Int) + y) / 18446744073709551616)])) w := by
  rw [run_callFunc_extern Tryz.func211 (by kernel_rfl) (by kernel_rfl) (by kernel_rfl) (e := add64Entry) (by kernel_rfl), run_add64 x y 0 (by omega) (by omega) (by omega) (by omega)]
  simp only [Result.andThen, Int.add_zero]
theorem shaCube (x p : Nat) (hx : x < 2199023255552) (hp : p < 512) (w : World) : Calls Tryz.prog 191 #[.int .u64 x, .int .u64 p] w fun e w' => e = .returned (.bool (cubeB x p)) ∧ w = w' := by
  obtain ⟨r, hr⟩ : ∃ r, cubeB x p = r := ⟨_, rfl⟩
  rw [hr]
  unfold cubeB at hr
  have hc := cube_parts x
  have hxx : x * x ≤ 2199023255551 * 2199023255551 := Nat.mul_le_mul (by omega) (by omega)
  have hm1 := Tryz.bits_Mul64 x x (by omega) (by omega)
  obtain ⟨hi, hhi⟩ : ∃ h, x * x / 18446744073709551616 = h := ⟨_, rfl⟩
  obtain ⟨lo, hlo⟩ : ∃ h, x * x % 18446744073709551616 = h := ⟨_, rfl⟩
  rw [hhi, hlo] at hm1 hc
  have hhib : hi ≤ 262144 := by omega
  have hlob : lo < 18446744073709551616 := by omega
  have hm2 := Tryz.bits_Mul64 lo x (by omega) (by omega)
  have hm3 := Tryz.bits_Mul64 hi x (by omega) (by omega)
  have hhx : hi * x ≤ 262144 * 2199023255551 := Nat.mul_le_mul hhib (by omega)
  have hlx : lo * x ≤ 18446744073709551615 * 2199023255551 := Nat.mul_le_mul (by omega) (by omega)
  obtain ⟨a, ha⟩ : ∃ a, hi * x = a := ⟨_, rfl⟩
  rw [ha] at hm3 hc hhx
  rw [show a / 18446744073709551616 = 0 by omega, show a % 18446744073709551616 = a by omega] at hm3
  obtain ⟨b, hb⟩ : ∃ b, lo * x / 18446744073709551616 = b := ⟨_, rfl⟩
  obtain ⟨c, hcc⟩ : ∃ c, lo * x % 18446744073709551616 = c := ⟨_, rfl⟩
  rw [hb, hcc] at hm2 hc
  have hbb : b ≤ 2199023255552 := by omega
  have hcb : c < 18446744073709551616 := by omega
  have hadd := run_add64_at a b
  rw [show (((a : Int) + b) % 18446744073709551616) = ((a + b : Nat) : Int) by omega, show (((a : Int) + b) / 18446744073709551616) = 0 by omega] at hadd
  obtain ⟨H, hH⟩ : ∃ H, a + b = H := ⟨_, rfl⟩
  rw [hH] at hadd hc
  obtain ⟨q, hq⟩ : ∃ q, p * 4294967296 = q := ⟨_, rfl⟩
  have hqi : (p : Int) * 4294967296 = (q : Int) := by omega
  have hqb : q < 2199023255552 := by omega
  have hHb : H < 18446744073709551616 := by omega
  have hr2 : r = decide (H < q ∨ (H = q ∧ c = 0)) := by
    rw [← hr, decide_eq_decide, hc]
    omega
  have HM1 := Lib.hid hm1
  have HM2 := Lib.hid hm2
  have HM3 := Lib.hid hm3
  have HR := Lib.hid hr2
  clear hr hr2 hm1 hm2 hm3 hhi hlo hc hxx hhib hlob hhx hlx ha hb hcc hbb hcb hH hq
  go_enter Tryz.func191, Tryz.ntmps191
  go_wp2_with fail
  refine (HM1.out w).mono ?_
  rintro e w1 ⟨rfl, rfl⟩
  go_wp2_with fail
  refine (HM2.out _).mono ?_
  rintro e w1 ⟨rfl, rfl⟩
  go_wp2_with fail
  refine (HM3.out _).mono ?_
  rintro e w1 ⟨rfl, rfl⟩
  by_cases h1 : H < q
  · go_wp2_with fail
    go_ret
    exact ⟨by rw [HR.out, decide_eq_true (.inl h1)]; rfl, rfl⟩
  · by_cases h2 : H = q
    · subst h2
      by_cases h3 : c = 0
      · subst h3
        go_wp2_with fail
        go_ret
        exact ⟨by rw [HR.out, decide_eq_true (by simp)]; rfl, rfl⟩
      · have hb : ((c : Int) == 0) = false := by simp; omega
        go_wp2_with fail
        go_ret
        exact ⟨by rw [HR.out, decide_eq_false (by rintro (h | h); exact h1 h; exact h3 h.2)]; rfl, rfl⟩
    · have hb : ((H : Int) == (q : Int)) = false := by simp; omega
      go_wp2_with fail
      go_ret
      exact ⟨by rw [HR.out, decide_eq_false (by rintro (h | h); exact h1 h; exact h2 h.1)]; rfl, rfl⟩
/-- a bit below a number's own bits -/
theorem or_bit (y k : Nat) : (y * 2 ^ (k + 1)) ||| 2 ^ k = y * 2 ^ (k + 1) + 2 ^ k := by
  have h := Nat.two_pow_add_eq_or_of_lt (i := k + 1) (b := 2 ^ k) (Nat.pow_lt_pow_right (by omega) (by omega)) y
  rw [Nat.mul_comm y]
  exact h.symm
theorem pow_le_40 (k : Nat) (hk : k ≤ 40) : 2 ^ k ≤ 1099511627776 := Nat.pow_le_pow_right (n := 2) (by omega) hk
set_option maxRecDepth 100000 in
theorem shaRoot_square (p : Nat) (w : World) : Calls Tryz.prog 190 #[.int .u64 p, .func (.func 192) #[] #[]] w fun e w' => e = .returned (.int .u32 (u (rootW squareB p))) ∧ w = w' := by
  go_enter Tryz.func190, Tryz.ntmps190
  go_wp2_with fail
  go_loopw [5, 6] (fun v5 v6 wr => ∃ k x y B : Nat, k ≤ 41 ∧ v5 = .int .u64 x ∧ v6 = .int .u64 B ∧ Hid (B = if k = 0 then 0 else 2 ^ (k - 1)) ∧ B ≤ 1099511627776 ∧ Hid (x = y * 2 ^ k) ∧ x + 2 * B ≤ 2199023255552 ∧ Hid (rootG squareB p k x = rootG squareB p 41 0) ∧ wr = w) (fun _ v _ => (intOf v).toNat)
  case atStart => exact ⟨41, 0, 0, 1099511627776, by omega, rfl, rfl, Lib.hid rfl, by omega, Lib.hid (by simp), by omega, Lib.hid rfl, rfl⟩
  case round =>
    obtain ⟨k, x, y, B, hk, rfl, rfl, HB, hB40, HX, hx41, HR, hwr⟩ := hrel
    subst hwr
    rcases Nat.eq_zero_or_pos k with hk0 | hk0
    · subst hk0
      have hB0 : B = 0 := HB.out
      subst hB0
      go_wp2_with fail
      go_ret
      refine ⟨?_, rfl⟩
      have h : x = rootG squareB p 41 0 := HR.out
      unfold rootW
      rw [← h]
      simp [u]
    · obtain ⟨k1, rfl⟩ : ∃ k1, k = k1 + 1 := ⟨k - 1, by omega⟩
      have hB : B = 2 ^ k1 := by have := HB.out; simpa using this
      have hBpos : 0 < B := by rw [hB]; exact Nat.two_pow_pos _
      have hor := bits_or_u64_nat x B (by omega) (by omega)
      rw [show x ||| B = x + B from by rw [HX.out, hB]; exact or_bit y k1] at hor
      have hB2 : (B / 2 : Nat) = if k1 = 0 then 0 else 2 ^ (k1 - 1) := by
        rw [hB]
        rcases Nat.eq_zero_or_pos k1 with h | h
        · subst h; rfl
        · obtain ⟨k2, rfl⟩ : ∃ k2, k1 = k2 + 1 := ⟨k1 - 1, by omega⟩
          rw [Nat.pow_succ]; simp
      obtain ⟨r, hr⟩ : ∃ r, squareB (x + B) p = r := ⟨_, rfl⟩
      have hstep : rootG squareB p k1 (if r = true then x + B else x) = rootG squareB p 41 0 := by
        have h := HR.out
        rw [rootG, ← hB, hr] at h
        exact h
      have HB1 := Lib.hid hB
      have HB2 := Lib.hid hB2
      have HRB := Lib.hid hr
      have HS := Lib.hid hstep
      have hc := shaSquare (x + B) p (by omega) wr
      rw [hr] at hc
      have HC := Lib.hid hc
      clear hB hB2 hr hstep hc
      go_wp2_with fail
      refine HC.out.mono ?_
      rintro e w1 ⟨rfl, rfl⟩
      cases r with
      | true =>
        go_wp2_with fail
        exact ⟨⟨k1, x + B, 2 * y + 1, B / 2, by omega, by go_num, by go_num, HB2, by omega, Lib.hid (by rw [HX.out, HB1.out, Nat.pow_succ, Nat.add_mul, Nat.one_mul, Nat.mul_comm (2 ^ k1) 2, ← Nat.mul_assoc, Nat.mul_comm y 2]), by omega, HS, trivial⟩, by simp [intOf]; omega⟩
      | false =>
        go_wp2_with fail
        exact ⟨⟨k1, x, 2 * y, B / 2, by omega, rfl, by go_num, HB2, by omega, Lib.hid (by rw [HX.out, Nat.pow_succ, Nat.mul_comm (2 ^ k1) 2, ← Nat.mul_assoc, Nat.mul_comm y 2]), by omega, HS, trivial⟩, by simp [intOf]; omega⟩
set_option maxRecDepth 100000 in
theorem shaRoot_cube (p : Nat) (hp : p < 512) (w : World) : Calls Tryz.prog 190 #[.int .u64 p, .func (.func 191) #[] #[]] w fun e w' => e = .returned (.int .u32 (u (rootW cubeB p))) ∧ w = w' := by
  go_enter Tryz.func190, Tryz.ntmps190
  go_wp2_with fail
  go_loopw [5, 6] (fun v5 v6 wr => ∃ k x y B : Nat, k ≤ 41 ∧ v5 = .int .u64 x ∧ v6 = .int .u64 B ∧ Hid (B = if k = 0 then 0 else 2 ^ (k - 1)) ∧ B ≤ 1099511627776 ∧ Hid (x = y * 2 ^ k) ∧ x + 2 * B ≤ 2199023255552 ∧ Hid (rootG cubeB p k x = rootG cubeB p 41 0) ∧ wr = w) (fun _ v _ => (intOf v).toNat)
  case atStart => exact ⟨41, 0, 0, 1099511627776, by omega, rfl, rfl, Lib.hid rfl, by omega, Lib.hid (by simp), by omega, Lib.hid rfl, rfl⟩
  case round =>
    obtain ⟨k, x, y, B, hk, rfl, rfl, HB, hB40, HX, hx41, HR, hwr⟩ := hrel
    subst hwr
    rcases Nat.eq_zero_or_pos k with hk0 | hk0
    · subst hk0
      have hB0 : B = 0 := HB.out
      subst hB0
      go_wp2_with fail
      go_ret
      refine ⟨?_, rfl⟩
      have h : x = rootG cubeB p 41 0 := HR.out
      unfold rootW
      rw [← h]
      simp [u]
    · obtain ⟨k1, rfl⟩ : ∃ k1, k = k1 + 1 := ⟨k - 1, by omega⟩
      have hB : B = 2 ^ k1 := by have := HB.out; simpa using this
      have hBpos : 0 < B := by rw [hB]; exact Nat.two_pow_pos _
      have hor := bits_or_u64_nat x B (by omega) (by omega)
      rw [show x ||| B = x + B from by rw [HX.out, hB]; exact or_bit y k1] at hor
      have hB2 : (B / 2 : Nat) = if k1 = 0 then 0 else 2 ^ (k1 - 1) := by
        rw [hB]
        rcases Nat.eq_zero_or_pos k1 with h | h
        · subst h; rfl
        · obtain ⟨k2, rfl⟩ : ∃ k2, k1 = k2 + 1 := ⟨k1 - 1, by omega⟩
          rw [Nat.pow_succ]; simp
      obtain ⟨r, hr⟩ : ∃ r, cubeB (x + B) p = r := ⟨_, rfl⟩
      have hstep : rootG cubeB p k1 (if r = true then x + B else x) = rootG cubeB p 41 0 := by
        have h := HR.out
        rw [rootG, ← hB, hr] at h
        exact h
      have HB1 := Lib.hid hB
      have HB2 := Lib.hid hB2
      have HRB := Lib.hid hr
      have HS := Lib.hid hstep
      have hc := shaCube (x + B) p (by omega) hp wr
      rw [hr] at hc
      have HC := Lib.hid hc
      clear hB hB2 hr hstep hc
      go_wp2_with fail
      refine HC.out.mono ?_
      rintro e w1 ⟨rfl, rfl⟩
      cases r with
      | true =>
        go_wp2_with fail
        exact ⟨⟨k1, x + B, 2 * y + 1, B / 2, by omega, by go_num, by go_num, HB2, by omega, Lib.hid (by rw [HX.out, HB1.out, Nat.pow_succ, Nat.add_mul, Nat.one_mul, Nat.mul_comm (2 ^ k1) 2, ← Nat.mul_assoc, Nat.mul_comm y 2]), by omega, HS, trivial⟩, by simp [intOf]; omega⟩
      | false =>
        go_wp2_with fail
        exact ⟨⟨k1, x, 2 * y, B / 2, by omega, rfl, by go_num, HB2, by omega, Lib.hid (by rw [HX.out, Nat.pow_succ, Nat.mul_comm (2 ^ k1) 2, ← Nat.mul_assoc, Nat.mul_comm y 2]), by omega, HS, trivial⟩, by simp [intOf]; omega⟩
end Go.Proofs.YtdfpmlfdmhlhcaaGreat

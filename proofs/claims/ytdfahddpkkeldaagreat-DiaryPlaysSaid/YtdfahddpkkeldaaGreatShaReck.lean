/- Package sha: primes and roots. -/
import Derived.Test.YtdfahddpkkeldaaGreatShelf
import Derived.Laws.Bits64b
import Derived.Laws.Externs
import Derived.Test.YtdfahddpkkeldaaGreatShaPlain
namespace Go.Proofs.YtdfahddpkkeldaaGreat
open Go.RowKit
theorem prime_no (n d : Nat) (h2 : 2 ≤ d) (hd : d * d ≤ n) (hm : n % d = 0) : primeB n = false := by
 unfold primeB
 rw [List.all_eq_false]
 have hdn : d < n := by
  have : 2 * d ≤ d * d := Nat.mul_le_mul_right d h2
  omega
 exact ⟨d, List.mem_range.2 hdn, by simp; omega⟩
theorem prime_yes (n d : Nat) (hd : n < d * d) (h : ∀ e, 2 ≤ e → e < d → n % e ≠ 0) : primeB n = true := by
 unfold primeB
 rw [List.all_eq_true]
 intro e _
 simp only [Bool.or_eq_true, decide_eq_true_eq]
 by_cases h1 : e < 2
 ·exact .inl (.inl h1)
 ·by_cases h2 : n < e * e
  ·exact .inl (.inr h2)
  ·refine .inr (h e (by omega) ?_)
   by_cases h3 : e < d
   ·exact h3
   ·have : d * d ≤ e * e := Nat.mul_le_mul (by omega) (by omega)
    omega
theorem shaPrime (n : Nat) (hn : n ≤ 400) (w : World) : Calls Tryz.prog 141 #[.int .u64 n] w fun e w' => e = .returned (.bool (primeB n)) ∧ w = w' := by
  obtain ⟨r, hr⟩ : ∃ r, primeB n = r := ⟨_, rfl⟩
  rw [hr]
  have HR := Lib.hid hr
  clear hr
  go_enter Tryz.func141, Tryz.ntmps141
  go_wp2_with fail
  go_loopw [3] (fun v wr => ∃ d : Nat, v = .int .u64 d ∧ 2 ≤ d ∧ d ≤ 21 ∧ wr = w ∧ Hid (∀ e, 2 ≤ e → e < d → n % e ≠ 0)) (fun v _ => 22 - (intOf v).toNat)
  case atStart => exact ⟨2, rfl, by omega, by omega, rfl, Lib.hid (fun e h1 h2 => by omega)⟩
  case round =>
    obtain ⟨d, rfl, hd2, hd21, rfl, HE⟩ := hrel
    obtain ⟨q, hq⟩ : ∃ q : Nat, d * d = q := ⟨_, rfl⟩
    have hq4 : q ≤ 441 := by have := Nat.mul_le_mul hd21 hd21; omega
    have hqi : (d : Int) * (d : Int) = (q : Int) := by rw [← hq]; simp
    have HQ := Lib.hid hq
    clear hq
    by_cases hle : q ≤ n
    · obtain ⟨m, hm⟩ : ∃ m : Nat, n % d = m := ⟨_, rfl⟩
      have hmi : (n : Int) % (d : Int) = (m : Int) := by rw [← hm]; simp
      have hd0 : ¬ (d : Int) = 0 := by omega
      have HM := Lib.hid hm
      have hdl : d < 21 := by
        by_cases h : d < 21
        · exact h
        · obtain rfl : d = 21 := by omega
          have := HQ.out; omega
      clear hm
      by_cases hm0 : m = 0
      · subst hm0
        have HF := Lib.hid (prime_no n d hd2 (by rw [HQ.out]; exact hle) HM.out)
        go_wp2_with fail
        go_ret
        exact ⟨by rw [← HR.out, HF.out]; rfl, rfl⟩
      · have hm1 : ((m : Int) == 0) = false := by simp; omega
        go_wp2_with fail
        refine ⟨⟨d + 1, by go_num, by omega, by omega, trivial, Lib.hid (fun e h1 h2 => ?_)⟩, by simp [intOf]; omega⟩
        rcases (show e < d ∨ e = d by omega) with h | rfl
        · exact HE.out e h1 h
        · rw [HM.out]; exact hm0
    · have HF := Lib.hid (prime_yes n d (by rw [HQ.out]; omega) HE.out)
      go_wp2_with fail
      go_ret
      exact ⟨by rw [← HR.out, HF.out]; rfl, rfl⟩
theorem shaSquare (x p : Nat) (hx : x < 2199023255552) (w : World) : Calls Tryz.prog 144 #[.int .u64 x, .int .u64 p] w fun e w' => e = .returned (.bool (squareB x p)) ∧ w = w' := by
 obtain ⟨r, hr⟩ : ∃ r, squareB x p = r := ⟨_, rfl⟩
 rw [hr]
 unfold squareB at hr
 obtain ⟨hi, hhi⟩ : ∃ h, x * x / 18446744073709551616 = h := ⟨_, rfl⟩
 obtain ⟨lo, hlo⟩ : ∃ h, x * x % 18446744073709551616 = h := ⟨_, rfl⟩
 have hr2 : r = decide (hi < p ∨ (hi = p ∧ lo = 0)) := by
  rw [← hr, decide_eq_decide]
  omega
 have hm := Tryz.bits_Mul64 x x (by omega) (by omega) w
 rw [hhi, hlo] at hm
 have HM := Lib.hid hm
 have HR := Lib.hid hr2
 clear hr hr2 hm hhi hlo
 go_enter Tryz.func144, Tryz.ntmps144
 go_wp2_with fail
 refine HM.out.mono ?_
 rintro e w1 ⟨rfl, rfl⟩
 by_cases h1 : hi < p
 ·go_wp2_with fail
  go_ret
  exact ⟨by rw [HR.out, decide_eq_true (.inl h1)]; rfl, rfl⟩
 ·by_cases h2 : hi = p
  ·subst h2
   by_cases h3 : lo = 0
   ·subst h3
    go_wp2_with fail
    go_ret
    exact ⟨by rw [HR.out, decide_eq_true (by simp)]; rfl, rfl⟩
   ·have hb : ((lo : Int) == 0) = false := by simp; omega
    go_wp2_with fail
    go_ret
    exact ⟨by rw [HR.out, decide_eq_false (by rintro (h | h); exact h1 h; exact h3 h.2)]; rfl, rfl⟩
  ·have hb : ((hi : Int) == (p : Int)) = false := by simp; omega
   go_wp2_with fail
   go_ret
   exact ⟨by rw [HR.out, decide_eq_false (by rintro (h | h); exact h1 h; exact h2 h.1)]; rfl, rfl⟩
theorem cube_parts (x : Nat) : x * x * x = 18446744073709551616 * (x * x / 18446744073709551616 * x + x * x % 18446744073709551616 * x / 18446744073709551616) + x * x % 18446744073709551616 * x % 18446744073709551616 := by
 have h1 := Nat.div_add_mod (x * x) 18446744073709551616
 have h2 := Nat.div_add_mod (x * x % 18446744073709551616 * x) 18446744073709551616
 have h3 : x * x * x = 18446744073709551616 * (x * x / 18446744073709551616 * x) + x * x % 18446744073709551616 * x := by
  conv => lhs; rw [← h1]
  rw [Nat.add_mul, Nat.mul_assoc]
 rw [Nat.mul_add, Nat.add_assoc, h2]
 exact h3
theorem run_add64_at (x y : Nat) (w : World) : (callFunc 148 #[.int .u64 x, .int .u64 y, .int .u64 0]).run Tryz.prog w = .ok (.value (.tuple #[.int .u64 (((x : Int) + y) % 18446744073709551616), .int .u64 (((x : Int) + y) / 18446744073709551616)])) w := by
 rw [run_callFunc_extern Tryz.func148 (by kernel_rfl) (by kernel_rfl) (by kernel_rfl) (e := add64Entry) (by kernel_rfl), run_add64 x y 0 (by omega) (by omega) (by omega) (by omega)]
 simp only [Result.andThen, Int.add_zero]
theorem shaCube (x p : Nat) (hx : x < 2199023255552) (hp : p < 512) (w : World) : Calls Tryz.prog 143 #[.int .u64 x, .int .u64 p] w fun e w' => e = .returned (.bool (cubeB x p)) ∧ w = w' := by
 obtain ⟨r, hr⟩ : ∃ r, cubeB x p = r := ⟨_, rfl⟩
 rw [hr]
 unfold cubeB at hr
 have hc := cube_parts x
 have hxx : x * x ≤ 2199023255551 * 2199023255551 := Nat.mul_le_mul (by omega) (by omega)
 have hm1 := Tryz.bits_Mul64 x x (by omega) (by omega)
 obtain ⟨hi, hhi⟩ : ∃ h, x * x / 18446744073709551616 = h := ⟨_, rfl⟩
 obtain ⟨lo, hlo⟩ : ∃ h, x * x % 18446744073709551616 = h := ⟨_, rfl⟩
 rw [hhi, hlo] at hm1 hc
 have hhib : hi ≤ 262144 := by omega
 have hlob : lo < 18446744073709551616 := by omega
 have hm2 := Tryz.bits_Mul64 lo x (by omega) (by omega)
 have hm3 := Tryz.bits_Mul64 hi x (by omega) (by omega)
 have hhx : hi * x ≤ 262144 * 2199023255551 := Nat.mul_le_mul hhib (by omega)
 have hlx : lo * x ≤ 18446744073709551615 * 2199023255551 := Nat.mul_le_mul (by omega) (by omega)
 obtain ⟨a, ha⟩ : ∃ a, hi * x = a := ⟨_, rfl⟩
 rw [ha] at hm3 hc hhx
 rw [show a / 18446744073709551616 = 0 by omega, show a % 18446744073709551616 = a by omega] at hm3
 obtain ⟨b, hb⟩ : ∃ b, lo * x / 18446744073709551616 = b := ⟨_, rfl⟩
 obtain ⟨c, hcc⟩ : ∃ c, lo * x % 18446744073709551616 = c := ⟨_, rfl⟩
 rw [hb, hcc] at hm2 hc
 have hbb : b ≤ 2199023255552 := by omega
 have hcb : c < 18446744073709551616 := by omega
 have hadd := run_add64_at a b
 rw [show (((a : Int) + b) % 18446744073709551616) = ((a + b : Nat) : Int) by omega, show (((a : Int) + b) / 18446744073709551616) = 0 by omega] at hadd
 obtain ⟨H, hH⟩ : ∃ H, a + b = H := ⟨_, rfl⟩
 rw [hH] at hadd hc
 obtain ⟨q, hq⟩ : ∃ q, p * 4294967296 = q := ⟨_, rfl⟩
 have hqi : (p : Int) * 4294967296 = (q : Int) := by omega
 have hqb : q < 2199023255552 := by omega
 have hHb : H < 18446744073709551616 := by omega
 have hr2 : r = decide (H < q ∨ (H = q ∧ c = 0)) := by
  rw [← hr, decide_eq_decide, hc]
  omega
 have HM1 := Lib.hid hm1
 have HM2 := Lib.hid hm2
 have HM3 := Lib.hid hm3
 have HR := Lib.hid hr2
 clear hr hr2 hm1 hm2 hm3 hhi hlo hc hxx hhib hlob hhx hlx ha hb hcc hbb hcb hH hq
 go_enter Tryz.func143, Tryz.ntmps143
 go_wp2_with fail
 refine (HM1.out w).mono ?_
 rintro e w1 ⟨rfl, rfl⟩
 go_wp2_with fail
 refine (HM2.out _).mono ?_
 rintro e w1 ⟨rfl, rfl⟩
 go_wp2_with fail
 refine (HM3.out _).mono ?_
 rintro e w1 ⟨rfl, rfl⟩
 by_cases h1 : H < q
 ·go_wp2_with fail
  go_ret
  exact ⟨by rw [HR.out, decide_eq_true (.inl h1)]; rfl, rfl⟩
 ·by_cases h2 : H = q
  ·subst h2
   by_cases h3 : c = 0
   ·subst h3
    go_wp2_with fail
    go_ret
    exact ⟨by rw [HR.out, decide_eq_true (by simp)]; rfl, rfl⟩
   ·have hb : ((c : Int) == 0) = false := by simp; omega
    go_wp2_with fail
    go_ret
    exact ⟨by rw [HR.out, decide_eq_false (by rintro (h | h); exact h1 h; exact h3 h.2)]; rfl, rfl⟩
  ·have hb : ((H : Int) == (q : Int)) = false := by simp; omega
   go_wp2_with fail
   go_ret
   exact ⟨by rw [HR.out, decide_eq_false (by rintro (h | h); exact h1 h; exact h2 h.1)]; rfl, rfl⟩
/-- a bit below a number's own bits -/
theorem or_bit (y k : Nat) : (y * 2 ^ (k + 1)) ||| 2 ^ k = y * 2 ^ (k + 1) + 2 ^ k := by
 have h := Nat.two_pow_add_eq_or_of_lt (i := k + 1) (b := 2 ^ k) (Nat.pow_lt_pow_right (by omega) (by omega)) y
 rw [Nat.mul_comm y]
 exact h.symm
set_option maxRecDepth 100000 in
theorem shaRoot_square (p : Nat) (w : World) : Calls Tryz.prog 142 #[.int .u64 p, .func (.func 144) #[] #[]] w fun e w' => e = .returned (.int .u32 (u (rootW squareB p))) ∧ w = w' := by
 go_enter Tryz.func142, Tryz.ntmps142
 go_wp2_with fail
 go_loopw [5, 6] (fun v5 v6 wr => ∃ k x y B : Nat, k ≤ 41 ∧ v5 = .int .u64 x ∧ v6 = .int .u64 B ∧ Hid (B = if k = 0 then 0 else 2 ^ (k - 1)) ∧ B ≤ 1099511627776 ∧ Hid (x = y * 2 ^ k) ∧ x + 2 * B ≤ 2199023255552 ∧ Hid (rootG squareB p k x = rootG squareB p 41 0) ∧ wr = w) (fun _ v _ => (intOf v).toNat)
 case atStart => exact ⟨41, 0, 0, 1099511627776, by omega, rfl, rfl, Lib.hid rfl, by omega, Lib.hid (by simp), by omega, Lib.hid rfl, rfl⟩
 case round =>
  obtain ⟨k, x, y, B, hk, rfl, rfl, HB, hB40, HX, hx41, HR, hwr⟩ := hrel
  subst hwr
  rcases Nat.eq_zero_or_pos k with hk0 | hk0
  ·subst hk0
   have hB0 : B = 0 := HB.out
   subst hB0
   go_wp2_with fail
   go_ret
   refine ⟨?_, rfl⟩
   have h : x = rootG squareB p 41 0 := HR.out
   unfold rootW
   rw [← h]
   simp [u]
  ·obtain ⟨k1, rfl⟩ : ∃ k1, k = k1 + 1 := ⟨k - 1, by omega⟩
   have hB : B = 2 ^ k1 := by have := HB.out; simpa using this
   have hBpos : 0 < B := by rw [hB]; exact Nat.two_pow_pos _
   have hor := bits_or_u64_nat x B (by omega) (by omega)
   rw [show x ||| B = x + B from by rw [HX.out, hB]; exact or_bit y k1] at hor
   have hB2 : (B / 2 : Nat) = if k1 = 0 then 0 else 2 ^ (k1 - 1) := by
    rw [hB]
    rcases Nat.eq_zero_or_pos k1 with h | h
    ·subst h; rfl
    ·obtain ⟨k2, rfl⟩ : ∃ k2, k1 = k2 + 1 := ⟨k1 - 1, by omega⟩
     rw [Nat.pow_succ]; simp
   obtain ⟨r, hr⟩ : ∃ r, squareB (x + B) p = r := ⟨_, rfl⟩
   have hstep : rootG squareB p k1 (if r = true then x + B else x) = rootG squareB p 41 0 := by
    have h := HR.out
    rw [rootG, ← hB, hr] at h
    exact h
   have HB1 := Lib.hid hB
   have HB2 := Lib.hid hB2
   have HRB := Lib.hid hr
   have HS := Lib.hid hstep
   have hc := shaSquare (x + B) p (by omega) wr
   rw [hr] at hc
   have HC := Lib.hid hc
   clear hB hB2 hr hstep hc
   go_wp2_with fail
   refine HC.out.mono ?_
   rintro e w1 ⟨rfl, rfl⟩
   cases r with
   | true =>
    go_wp2_with fail
    exact ⟨⟨k1, x + B, 2 * y + 1, B / 2, by omega, by go_num, by go_num, HB2, by omega, Lib.hid (by rw [HX.out, HB1.out, Nat.pow_succ, Nat.add_mul, Nat.one_mul, Nat.mul_comm (2 ^ k1) 2, ← Nat.mul_assoc, Nat.mul_comm y 2]), by omega, HS, trivial⟩, by simp [intOf]; omega⟩
   | false =>
    go_wp2_with fail
    exact ⟨⟨k1, x, 2 * y, B / 2, by omega, rfl, by go_num, HB2, by omega, Lib.hid (by rw [HX.out, Nat.pow_succ, Nat.mul_comm (2 ^ k1) 2, ← Nat.mul_assoc, Nat.mul_comm y 2]), by omega, HS, trivial⟩, by simp [intOf]; omega⟩
set_option maxRecDepth 100000 in
theorem shaRoot_cube (p : Nat) (hp : p < 512) (w : World) : Calls Tryz.prog 142 #[.int .u64 p, .func (.func 143) #[] #[]] w fun e w' => e = .returned (.int .u32 (u (rootW cubeB p))) ∧ w = w' := by
 go_enter Tryz.func142, Tryz.ntmps142
 go_wp2_with fail
 go_loopw [5, 6] (fun v5 v6 wr => ∃ k x y B : Nat, k ≤ 41 ∧ v5 = .int .u64 x ∧ v6 = .int .u64 B ∧ Hid (B = if k = 0 then 0 else 2 ^ (k - 1)) ∧ B ≤ 1099511627776 ∧ Hid (x = y * 2 ^ k) ∧ x + 2 * B ≤ 2199023255552 ∧ Hid (rootG cubeB p k x = rootG cubeB p 41 0) ∧ wr = w) (fun _ v _ => (intOf v).toNat)
 case atStart => exact ⟨41, 0, 0, 1099511627776, by omega, rfl, rfl, Lib.hid rfl, by omega, Lib.hid (by simp), by omega, Lib.hid rfl, rfl⟩
 case round =>
  obtain ⟨k, x, y, B, hk, rfl, rfl, HB, hB40, HX, hx41, HR, hwr⟩ := hrel
  subst hwr
  rcases Nat.eq_zero_or_pos k with hk0 | hk0
  ·subst hk0
   have hB0 : B = 0 := HB.out
   subst hB0
   go_wp2_with fail
   go_ret
   refine ⟨?_, rfl⟩
   have h : x = rootG cubeB p 41 0 := HR.out
   unfold rootW
   rw [← h]
   simp [u]
  ·obtain ⟨k1, rfl⟩ : ∃ k1, k = k1 + 1 := ⟨k - 1, by omega⟩
   have hB : B = 2 ^ k1 := by have := HB.out; simpa using this
   have hBpos : 0 < B := by rw [hB]; exact Nat.two_pow_pos _
   have hor := bits_or_u64_nat x B (by omega) (by omega)
   rw [show x ||| B = x + B from by rw [HX.out, hB]; exact or_bit y k1] at hor
   have hB2 : (B / 2 : Nat) = if k1 = 0 then 0 else 2 ^ (k1 - 1) := by
    rw [hB]
    rcases Nat.eq_zero_or_pos k1 with h | h
    ·subst h; rfl
    ·obtain ⟨k2, rfl⟩ : ∃ k2, k1 = k2 + 1 := ⟨k1 - 1, by omega⟩
     rw [Nat.pow_succ]; simp
   obtain ⟨r, hr⟩ : ∃ r, cubeB (x + B) p = r := ⟨_, rfl⟩
   have hstep : rootG cubeB p k1 (if r = true then x + B else x) = rootG cubeB p 41 0 := by
    have h := HR.out
    rw [rootG, ← hB, hr] at h
    exact h
   have HB1 := Lib.hid hB
   have HB2 := Lib.hid hB2
   have HRB := Lib.hid hr
   have HS := Lib.hid hstep
   have hc := shaCube (x + B) p (by omega) hp wr
   rw [hr] at hc
   have HC := Lib.hid hc
   clear hB hB2 hr hstep hc
   go_wp2_with fail
   refine HC.out.mono ?_
   rintro e w1 ⟨rfl, rfl⟩
   cases r with
   | true =>
    go_wp2_with fail
    exact ⟨⟨k1, x + B, 2 * y + 1, B / 2, by omega, by go_num, by go_num, HB2, by omega, Lib.hid (by rw [HX.out, HB1.out, Nat.pow_succ, Nat.add_mul, Nat.one_mul, Nat.mul_comm (2 ^ k1) 2, ← Nat.mul_assoc, Nat.mul_comm y 2]), by omega, HS, trivial⟩, by simp [intOf]; omega⟩
   | false =>
    go_wp2_with fail
    exact ⟨⟨k1, x, 2 * y, B / 2, by omega, rfl, by go_num, HB2, by omega, Lib.hid (by rw [HX.out, Nat.pow_succ, Nat.mul_comm (2 ^ k1) 2, ← Nat.mul_assoc, Nat.mul_comm y 2]), by omega, HS, trivial⟩, by simp [intOf]; omega⟩
end Go.Proofs.YtdfahddpkkeldaaGreat

/- Package sha: the table is reckoned. -/
namespace Go.Proofs.YtdfahddpkkeldaaGreat
open Go.RowKit
/-- the table's cells: the once's word, the mutex's word, the words -/
def tabOf (d m : Int) (ks hs : List (BitVec 32)) : Array Value := ([Value.int .u32 d, Value.int .i32 m, Value.int .u32 0] ++ (wc ks ++ wc hs)).toArray
theorem tab0 (d m : Int) (ks hs : List (BitVec 32)) : (tabOf d m ks hs)[0]? = some (.int .u32 d) := by simp [tabOf]
theorem tab1 (d m : Int) (ks hs : List (BitVec 32)) : (tabOf d m ks hs)[1]? = some (.int .i32 m) := by simp [tabOf]
theorem tab_k (d m : Int) (ks hs : List (BitVec 32)) (i : Nat) (hi : i < ks.length) : (tabOf d m ks hs)[3 + i]? = some (.int .u32 (u (ks.getD i 0))) := by
 simp only [tabOf, List.getElem?_toArray]
 rw [List.getElem?_append_right (by simp), List.getElem?_append_left (by simp [wc]; omega)]
 simp only [List.length_cons, List.length_nil]
 rw [show 3 + i - (0 + 1 + 1 + 1) = i by omega]
 exact wc_get ks i hi
theorem tab_h (d m : Int) (ks hs : List (BitVec 32)) (hk : ks.length = 64) (i : Nat) (hi : i < hs.length) : (tabOf d m ks hs)[67 + i]? = some (.int .u32 (u (hs.getD i 0))) := by
 simp only [tabOf, List.getElem?_toArray]
 rw [List.getElem?_append_right (by simp; omega), List.getElem?_append_right (by simp [wc]; omega)]
 simp only [List.length_cons, List.length_nil, wc_length]
 rw [show 67 + i - (0 + 1 + 1 + 1) - ks.length = i by omega]
 exact wc_get hs i hi
theorem tab_set0 (d m d' : Int) (ks hs : List (BitVec 32)) : (tabOf d m ks hs).setIfInBounds 0 (.int .u32 d') = tabOf d' m ks hs := by simp [tabOf]
theorem tab_set1 (d m m' : Int) (ks hs : List (BitVec 32)) : (tabOf d m ks hs).setIfInBounds 1 (.int .i32 m') = tabOf d m' ks hs := by simp [tabOf]
theorem tab_set_k (d m : Int) (ks hs : List (BitVec 32)) (i : Nat) (hi : i < ks.length) (x : BitVec 32) : (tabOf d m ks hs).setIfInBounds (3 + i) (.int .u32 (u x)) = tabOf d m (ks.set i x) hs := by
 simp only [tabOf, List.setIfInBounds_toArray]
 congr 1
 rw [List.set_append_right _ _ (by simp), List.set_append_left _ _ (by simp [wc]; omega)]
 simp only [List.length_cons, List.length_nil]
 rw [show 3 + i - (0 + 1 + 1 + 1) = i by omega, wc_set]
theorem tab_set_h (d m : Int) (ks hs : List (BitVec 32)) (hk : ks.length = 64) (i : Nat) (x : BitVec 32) : (tabOf d m ks hs).setIfInBounds (67 + i) (.int .u32 (u x)) = tabOf d m ks (hs.set i x) := by
 simp only [tabOf, List.setIfInBounds_toArray]
 congr 1
 rw [List.set_append_right _ _ (by simp; omega), List.set_append_right _ _ (by simp [wc]; omega)]
 simp only [List.length_cons, List.length_nil, wc_length]
 rw [show 67 + i - (0 + 1 + 1 + 1) - ks.length = i by omega, wc_set]
theorem take_set {α : Type} (l m : List α) (i : Nat) (hl : i < l.length) (hm : i < m.length) : (l.take i ++ m.drop i).set i l[i] = l.take (i + 1) ++ m.drop (i + 1) := by
 rw [List.set_append_right _ _ (by simp; omega)]
 have : i - (l.take i).length = 0 := by simp; omega
 rw [this, ← List.getElem_cons_drop hm, List.set_cons_zero, List.take_succ_eq_append_getElem hl, List.append_assoc]
 rfl
theorem kTab_at (i : Nat) (hi : i < kTab.length) : kTab[i] = rootW cubeB (primes.getD i 0) := by
 have h : i < primes.length := by rw [kTab_length] at hi; exact hi
 simp [kTab, List.getD_eq_getElem?_getD, List.getElem?_eq_getElem h]
theorem hTab_at (i : Nat) (hi : i < hTab.length) : hTab[i] = rootW squareB (primes.getD i 0) := by
 have h : i < primes.length := by rw [hTab_length] at hi; rw [primes_length]; omega
 simp [hTab, List.getD_eq_getElem?_getD, List.getElem?_eq_getElem h]
set_option maxRecDepth 100000 in
set_option maxHeartbeats 2000000 in
theorem shaReckon (tb : Nat) (d m : Int) (ks hs : List (BitVec 32)) (hk : ks.length = 64) (hh : hs.length = 8) (w : World) (h : w.heap[tb]? = some (.cells (tabOf d m ks hs) 84 (0, 0))) :
  Calls Tryz.prog 135 #[.pointer (some ⟨tb, 0, none⟩)] w fun e w' => e = .returned (.tuple #[]) ∧ w'.heap[tb]? = some (.cells (tabOf d m kTab hTab) 84 (0, 0)) ∧ Mod (· = tb) w w' := by
 have HH := Lib.hid h
 have HK := Lib.hid hk
 have HHS := Lib.hid hh
 clear h hk hh
 go_enter Tryz.func135, Tryz.ntmps135
 go_wp2_with fail
 go_loopw [2, 4] (fun v2 v4 wr => ∃ i q : Nat, i ≤ 64 ∧ v4 = .int .i64 i ∧ v2 = .int .u64 q ∧ Hid (q = pFrom i) ∧ q ≤ 400 ∧ Hid (wr.heap[tb]? = some (.cells (tabOf d m (kTab.take i ++ ks.drop i) (hTab.take i ++ hs.drop i)) 84 (0, 0))) ∧ Hid (Mod (· = tb) w wr)) (fun _ v _ => 64 - (intOf v).toNat)
 case atStart => exact ⟨0, 2, by omega, rfl, rfl, Lib.hid rfl, by omega, HH, Lib.hid (Mod.refl _ _)⟩
 case round =>
  obtain ⟨i, q, hi, rfl, rfl, HQ, hq4, HT, HMOD⟩ := hrel
  by_cases hlt : i < 64
  ·have hpa := prime_at i hlt
   have hbi : decide ((i : Int) < 64) = true := by simp; omega
   have hib : (i : Int) < 64 := by omega
   obtain ⟨P, hP⟩ : ∃ P, primes.getD i 0 = P := ⟨_, rfl⟩
   rw [hP, ← HQ.out] at hpa
   obtain ⟨hp1, hp2, hp3, hp4⟩ := hpa
   have HPQ := Lib.hid hP
   have HP1 := Lib.hid hp1
   have HP4 := Lib.hid hp4
   clear hP hp1 hp4
   go_wp2_with fail
   go_loopw [2] (fun v wx => ∃ r : Nat, v = .int .u64 r ∧ q ≤ r ∧ r ≤ P ∧ wx = wr) (fun v _ => P - (intOf v).toNat)
   case atStart => exact ⟨q, rfl, by omega, hp3, rfl⟩
   case round =>
    obtain ⟨r, rfl, hqr, hrP, rfl⟩ := hrel
    by_cases hrlt : r < P
    ·have hno := HP4.out r hqr hrlt
     go_wp2_with fail
     refine (shaPrime r (by omega) _).mono ?_
     rw [hno]
     rintro e w1 ⟨rfl, rfl⟩
     go_wp2_with fail
     exact ⟨⟨r + 1, by go_num, by omega, by omega, trivial⟩, by simp [intOf]; omega⟩
    ·obtain rfl : r = P := by omega
     go_wp2_with fail
     refine (shaPrime r (by omega) _).mono ?_
     rw [HP1.out]
     rintro e w1 ⟨rfl, rfl⟩
     have hkl : i < (kTab.take i ++ ks.drop i).length := by have := HK.out; simp [kTab_length]; omega
     have hkl64 : (kTab.take i ++ ks.drop i).length = 64 := by have := HK.out; simp [kTab_length]; omega
     have hc := (cell_of HT.out (3 + i)).trans (tab_k d m _ _ i hkl)
     have hf := free_of HT.out (3 + i)
     have HT1 := Lib.hid (heap_setCell_same (off := 3 + i) HT.out (.int .u32 (u (rootW cubeB r))))
     go_upto_region 6 with (fail)
     go_region_held3 (fun _ => True) (trivial) (first
      | (go_at_call 142; refine (shaRoot_cube r (by omega) _).mono ?_; rintro e w1 ⟨rfl, rfl⟩))
     have HT2 : Hid ((wr.setCell ⟨tb, 3 + i, none⟩ (.int .u32 (u (rootW cubeB r)))).drew.heap[tb]? = some (.cells (tabOf d m (kTab.take (i + 1) ++ ks.drop (i + 1)) (hTab.take i ++ hs.drop i)) 84 (0, 0))) := Lib.hid (by
      have h1 := HT1.out
      rw [tab_set_k d m _ _ i hkl] at h1
      have h2 := kTab_at i (by rw [kTab_length]; exact hlt)
      rw [HPQ.out] at h2
      have e := take_set kTab ks i (by rw [kTab_length]; exact hlt) (by rw [HK.out]; exact hlt)
      rw [h2] at e
      rw [e] at h1
      exact h1)
     have HM2 : Hid (Mod (· = tb) w (wr.setCell ⟨tb, 3 + i, none⟩ (.int .u32 (u (rootW cubeB r)))).drew) := Lib.hid ((HMOD.out.setCell _ _ (fun _ => rfl)).drew)
     have HQ2 : Hid (r + 1 = pFrom (i + 1)) := Lib.hid (by unfold pFrom; rw [if_neg (by omega), show i + 1 - 1 = i by omega, HPQ.out])
     clear HT1 hc hf
     generalize (wr.setCell ⟨tb, 3 + i, none⟩ (.int .u32 (u (rootW cubeB r)))).drew = w2 at HT2 HM2 ⊢
     by_cases h8 : i < 8
     ·have hkl2 : (kTab.take (i + 1) ++ ks.drop (i + 1)).length = 64 := by have := HK.out; simp [kTab_length]; omega
      have hhl : i < (hTab.take i ++ hs.drop i).length := by have := HHS.out; simp [hTab_length]; omega
      have hc := (cell_of HT2.out (67 + i)).trans (tab_h d m _ _ hkl2 i hhl)
      have hf := free_of HT2.out (67 + i)
      have HT3 := Lib.hid (heap_setCell_same (off := 67 + i) HT2.out (.int .u32 (u (rootW squareB r))))
      go_upto_region 8 with (fail)
      go_region_held3 (fun _ => True) (trivial) (first
       | (go_at_call 142; refine (shaRoot_square r _).mono ?_; rintro e w1 ⟨rfl, rfl⟩))
      have HT4 : Hid ((w2.setCell ⟨tb, 67 + i, none⟩ (.int .u32 (u (rootW squareB r)))).drew.heap[tb]? = some (.cells (tabOf d m (kTab.take (i + 1) ++ ks.drop (i + 1)) (hTab.take (i + 1) ++ hs.drop (i + 1))) 84 (0, 0))) := Lib.hid (by
       have h1 := HT3.out
       rw [tab_set_h d m _ _ hkl2 i] at h1
       have h2 := hTab_at i (by rw [hTab_length]; exact h8)
       rw [HPQ.out] at h2
       have e := take_set hTab hs i (by rw [hTab_length]; exact h8) (by rw [HHS.out]; exact h8)
       rw [h2] at e
       rw [e] at h1
       exact h1)
      have HM4 : Hid (Mod (· = tb) w (w2.setCell ⟨tb, 67 + i, none⟩ (.int .u32 (u (rootW squareB r)))).drew) := Lib.hid ((HM2.out.setCell _ _ (fun _ => rfl)).drew)
      clear HT3 hc hf
      generalize (w2.setCell ⟨tb, 67 + i, none⟩ (.int .u32 (u (rootW squareB r)))).drew = w4 at HT4 HM4 ⊢
      go_wp2_with fail
      exact ⟨⟨i + 1, r + 1, by omega, by go_num, by go_num, HQ2, by omega, HT4, HM4⟩, by simp [intOf]; omega⟩
     ·have HT4 : Hid (w2.heap[tb]? = some (.cells (tabOf d m (kTab.take (i + 1) ++ ks.drop (i + 1)) (hTab.take (i + 1) ++ hs.drop (i + 1))) 84 (0, 0))) := Lib.hid (by
       have h1 := HT2.out
       rw [List.take_of_length_le (l := hTab) (by rw [hTab_length]; omega), show hs.drop i = [] from List.drop_eq_nil_of_le (by rw [HHS.out]; omega)] at h1
       rw [List.take_of_length_le (l := hTab) (by rw [hTab_length]; omega), show hs.drop (i + 1) = [] from List.drop_eq_nil_of_le (by rw [HHS.out]; omega)]
       exact h1)
      go_wp2_with fail
      exact ⟨⟨i + 1, r + 1, by omega, by go_num, by go_num, HQ2, by omega, HT4, HM2⟩, by simp [intOf]; omega⟩
  ·obtain rfl : i = 64 := by omega
   go_wp2_with fail
   go_end0
   have h1 := HT.out
   rw [List.take_of_length_le (by rw [kTab_length]; exact Nat.le_refl _), List.take_of_length_le (by rw [hTab_length]; omega), List.drop_eq_nil_of_le (by rw [HK.out]; exact Nat.le_refl _), List.drop_eq_nil_of_le (by rw [HHS.out]; omega), List.append_nil, List.append_nil] at h1
   exact ⟨rfl, h1, HMOD.out⟩
end Go.Proofs.YtdfahddpkkeldaaGreat

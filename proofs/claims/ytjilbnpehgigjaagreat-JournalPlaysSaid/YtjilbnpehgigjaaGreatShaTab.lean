/- Words of 32 bits as the walk writes them ('u'), and math/bits.RotateLeft32 at the counts that SHA-256 has. -/
import Derived.Test.YtjilbnpehgigjaaGreatChecked
import Derived.Test.YtjilbnpehgigjaaGreatRd
import Derived.KernelRfl
import Derived.Test.YtjilbnpehgigjaaGreatShelf
import Derived.Laws.Bits64b
import Derived.Laws.Externs
namespace Go.Proofs.YtjilbnpehgigjaaGreat
open Go.RowKit

def u (x : BitVec 32) : Int := (x.toNat : Int)
theorem u_lo (x : BitVec 32) : 0 ≤ u x := by unfold u; omega
theorem u_hi (x : BitVec 32) : u x < 4294967296 := by have := x.isLt; unfold u; omega
theorem u_zero : u 0#32 = 0 := rfl
theorem u_ofInt (x : BitVec 32) : BitVec.ofInt 32 (u x) = x := by
  unfold u
  rw [BitVec.ofInt_natCast]
  exact BitVec.eq_of_toNat_eq (by simp)
theorem u_wrap (x : BitVec 32) : IntKind.u32.wrap (x.toNat : Int) = u x := by
  have := x.isLt
  simp only [IntKind.wrap, IntKind.bits, IntKind.signed, u]
  simp
  omega
theorem u_xor (x y : BitVec 32) : bits .xor .u32 (u x) (u y) = u (x ^^^ y) := by
  show IntKind.u32.wrap ((BitVec.ofInt 32 (u x) ^^^ BitVec.ofInt 32 (u y)).toNat : Int) = _
  rw [u_ofInt, u_ofInt, u_wrap]
theorem u_and (x y : BitVec 32) : bits .and .u32 (u x) (u y) = u (x &&& y) := by
  show IntKind.u32.wrap ((BitVec.ofInt 32 (u x) &&& BitVec.ofInt 32 (u y)).toNat : Int) = _
  rw [u_ofInt, u_ofInt, u_wrap]
theorem u_or (x y : BitVec 32) : bits .or .u32 (u x) (u y) = u (x ||| y) := by
  show IntKind.u32.wrap ((BitVec.ofInt 32 (u x) ||| BitVec.ofInt 32 (u y)).toNat : Int) = _
  rw [u_ofInt, u_ofInt, u_wrap]
theorem u_not (x : BitVec 32) : bits .xor .u32 4294967295 (u x) = u (~~~x) := by
  show IntKind.u32.wrap ((BitVec.ofInt 32 4294967295 ^^^ BitVec.ofInt 32 (u x)).toNat : Int) = _
  rw [u_ofInt, u_wrap, show BitVec.ofInt 32 4294967295 = BitVec.allOnes 32 from rfl, BitVec.allOnes_xor]
theorem u_add (x y : BitVec 32) : (u x + u y) % 4294967296 = u (x + y) := by
  unfold u
  rw [BitVec.toNat_add]
  omega
theorem u_addw (x y : BitVec 32) : IntKind.u32.wrap (u x + u y) = u (x + y) := by rw [IntKind.wrap_u32, u_add]
theorem u_notw (x : BitVec 32) : bits .xor .u32 (if IntKind.u32.signed = true then -1 else IntKind.u32.max) (u x) = u (~~~x) := u_not x
theorem u_shl (x : BitVec 32) (k : Nat) : (u x * (2 ^ k : Nat)) % 4294967296 = u (x <<< k) := by
  unfold u
  rw [BitVec.toNat_shiftLeft, Nat.shiftLeft_eq]
  simp
theorem u_shr (x : BitVec 32) (k : Nat) : u x / (2 ^ k : Nat) = u (x >>> k) := by
  unfold u
  rw [BitVec.toNat_ushiftRight, Nat.shiftRight_eq_div_pow]
  simp
/-- turned to the right by k -/
def ror (x : BitVec 32) (k : Nat) : BitVec 32 := x <<< (32 - k) ||| x >>> k
theorem rot7 (x : BitVec 32) (w : World) : Calls Tryz.prog 117 #[.int .u32 (u x), .int .i64 (-7)] w fun e w' => e = .returned (.int .u32 (u (ror x 7))) ∧ w = w' := by
  have e1 : IntKind.u64.wrap (-7) = 18446744073709551609 := by decide
  have e2 : bits .and .u64 18446744073709551609 31 = 25 := by decide
  have e3 : u x * 33554432 % 4294967296 = u (x <<< 25) := u_shl x 25
  have e4 : u x / 128 = u (x >>> 7) := u_shr x 7
  have e5 := u_or (x <<< 25) (x >>> 7)
  have h1 := u_lo x
  have h2 := u_hi x
  go_enter Tryz.func117, Tryz.ntmps117
  go_wp2_with fail
  go_ret
  refine ⟨?_, rfl⟩
  simp [ror, ← e5, ← e3, ← e4]
theorem rot18 (x : BitVec 32) (w : World) : Calls Tryz.prog 117 #[.int .u32 (u x), .int .i64 (-18)] w fun e w' => e = .returned (.int .u32 (u (ror x 18))) ∧ w = w' := by
  have e1 : IntKind.u64.wrap (-18) = 18446744073709551598 := by decide
  have e2 : bits .and .u64 18446744073709551598 31 = 14 := by decide
  have e3 : u x * 16384 % 4294967296 = u (x <<< 14) := u_shl x 14
  have e4 : u x / 262144 = u (x >>> 18) := u_shr x 18
  have e5 := u_or (x <<< 14) (x >>> 18)
  have h1 := u_lo x
  have h2 := u_hi x
  go_enter Tryz.func117, Tryz.ntmps117
  go_wp2_with fail
  go_ret
  refine ⟨?_, rfl⟩
  simp [ror, ← e5, ← e3, ← e4]
theorem rot17 (x : BitVec 32) (w : World) : Calls Tryz.prog 117 #[.int .u32 (u x), .int .i64 (-17)] w fun e w' => e = .returned (.int .u32 (u (ror x 17))) ∧ w = w' := by
  have e1 : IntKind.u64.wrap (-17) = 18446744073709551599 := by decide
  have e2 : bits .and .u64 18446744073709551599 31 = 15 := by decide
  have e3 : u x * 32768 % 4294967296 = u (x <<< 15) := u_shl x 15
  have e4 : u x / 131072 = u (x >>> 17) := u_shr x 17
  have e5 := u_or (x <<< 15) (x >>> 17)
  have h1 := u_lo x
  have h2 := u_hi x
  go_enter Tryz.func117, Tryz.ntmps117
  go_wp2_with fail
  go_ret
  refine ⟨?_, rfl⟩
  simp [ror, ← e5, ← e3, ← e4]
theorem rot19 (x : BitVec 32) (w : World) : Calls Tryz.prog 117 #[.int .u32 (u x), .int .i64 (-19)] w fun e w' => e = .returned (.int .u32 (u (ror x 19))) ∧ w = w' := by
  have e1 : IntKind.u64.wrap (-19) = 18446744073709551597 := by decide
  have e2 : bits .and .u64 18446744073709551597 31 = 13 := by decide
  have e3 : u x * 8192 % 4294967296 = u (x <<< 13) := u_shl x 13
  have e4 : u x / 524288 = u (x >>> 19) := u_shr x 19
  have e5 := u_or (x <<< 13) (x >>> 19)
  have h1 := u_lo x
  have h2 := u_hi x
  go_enter Tryz.func117, Tryz.ntmps117
  go_wp2_with fail
  go_ret
  refine ⟨?_, rfl⟩
  simp [ror, ← e5, ← e3, ← e4]
theorem rot6 (x : BitVec 32) (w : World) : Calls Tryz.prog 117 #[.int .u32 (u x), .int .i64 (-6)] w fun e w' => e = .returned (.int .u32 (u (ror x 6))) ∧ w = w' := by
  have e1 : IntKind.u64.wrap (-6) = 18446744073709551610 := by decide
  have e2 : bits .and .u64 18446744073709551610 31 = 26 := by decide
  have e3 : u x * 67108864 % 4294967296 = u (x <<< 26) := u_shl x 26
  have e4 : u x / 64 = u (x >>> 6) := u_shr x 6
  have e5 := u_or (x <<< 26) (x >>> 6)
  have h1 := u_lo x
  have h2 := u_hi x
  go_enter Tryz.func117, Tryz.ntmps117
  go_wp2_with fail
  go_ret
  refine ⟨?_, rfl⟩
  simp [ror, ← e5, ← e3, ← e4]
theorem rot11 (x : BitVec 32) (w : World) : Calls Tryz.prog 117 #[.int .u32 (u x), .int .i64 (-11)] w fun e w' => e = .returned (.int .u32 (u (ror x 11))) ∧ w = w' := by
  have e1 : IntKind.u64.wrap (-11) = 18446744073709551605 := by decide
  have e2 : bits .and .u64 18446744073709551605 31 = 21 := by decide
  have e3 : u x * 2097152 % 4294967296 = u (x <<< 21) := u_shl x 21
  have e4 : u x / 2048 = u (x >>> 11) := u_shr x 11
  have e5 := u_or (x <<< 21) (x >>> 11)
  have h1 := u_lo x
  have h2 := u_hi x
  go_enter Tryz.func117, Tryz.ntmps117
  go_wp2_with fail
  go_ret
  refine ⟨?_, rfl⟩
  simp [ror, ← e5, ← e3, ← e4]
theorem rot25 (x : BitVec 32) (w : World) : Calls Tryz.prog 117 #[.int .u32 (u x), .int .i64 (-25)] w fun e w' => e = .returned (.int .u32 (u (ror x 25))) ∧ w = w' := by
  have e1 : IntKind.u64.wrap (-25) = 18446744073709551591 := by decide
  have e2 : bits .and .u64 18446744073709551591 31 = 7 := by decide
  have e3 : u x * 128 % 4294967296 = u (x <<< 7) := u_shl x 7
  have e4 : u x / 33554432 = u (x >>> 25) := u_shr x 25
  have e5 := u_or (x <<< 7) (x >>> 25)
  have h1 := u_lo x
  have h2 := u_hi x
  go_enter Tryz.func117, Tryz.ntmps117
  go_wp2_with fail
  go_ret
  refine ⟨?_, rfl⟩
  simp [ror, ← e5, ← e3, ← e4]
theorem rot2 (x : BitVec 32) (w : World) : Calls Tryz.prog 117 #[.int .u32 (u x), .int .i64 (-2)] w fun e w' => e = .returned (.int .u32 (u (ror x 2))) ∧ w = w' := by
  have e1 : IntKind.u64.wrap (-2) = 18446744073709551614 := by decide
  have e2 : bits .and .u64 18446744073709551614 31 = 30 := by decide
  have e3 : u x * 1073741824 % 4294967296 = u (x <<< 30) := u_shl x 30
  have e4 : u x / 4 = u (x >>> 2) := u_shr x 2
  have e5 := u_or (x <<< 30) (x >>> 2)
  have h1 := u_lo x
  have h2 := u_hi x
  go_enter Tryz.func117, Tryz.ntmps117
  go_wp2_with fail
  go_ret
  refine ⟨?_, rfl⟩
  simp [ror, ← e5, ← e3, ← e4]
theorem rot13 (x : BitVec 32) (w : World) : Calls Tryz.prog 117 #[.int .u32 (u x), .int .i64 (-13)] w fun e w' => e = .returned (.int .u32 (u (ror x 13))) ∧ w = w' := by
  have e1 : IntKind.u64.wrap (-13) = 18446744073709551603 := by decide
  have e2 : bits .and .u64 18446744073709551603 31 = 19 := by decide
  have e3 : u x * 524288 % 4294967296 = u (x <<< 19) := u_shl x 19
  have e4 : u x / 8192 = u (x >>> 13) := u_shr x 13
  have e5 := u_or (x <<< 19) (x >>> 13)
  have h1 := u_lo x
  have h2 := u_hi x
  go_enter Tryz.func117, Tryz.ntmps117
  go_wp2_with fail
  go_ret
  refine ⟨?_, rfl⟩
  simp [ror, ← e5, ← e3, ← e4]
theorem rot22 (x : BitVec 32) (w : World) : Calls Tryz.prog 117 #[.int .u32 (u x), .int .i64 (-22)] w fun e w' => e = .returned (.int .u32 (u (ror x 22))) ∧ w = w' := by
  have e1 : IntKind.u64.wrap (-22) = 18446744073709551594 := by decide
  have e2 : bits .and .u64 18446744073709551594 31 = 10 := by decide
  have e3 : u x * 1024 % 4294967296 = u (x <<< 10) := u_shl x 10
  have e4 : u x / 4194304 = u (x >>> 22) := u_shr x 22
  have e5 := u_or (x <<< 10) (x >>> 22)
  have h1 := u_lo x
  have h2 := u_hi x
  go_enter Tryz.func117, Tryz.ntmps117
  go_wp2_with fail
  go_ret
  refine ⟨?_, rfl⟩
  simp [ror, ← e5, ← e3, ← e4]
end Go.Proofs.YtjilbnpehgigjaaGreat

/- SHA-256, said plainly: over words of 32 bits. Its table reckoned by primes and roots. -/
namespace Go.Proofs.YtjilbnpehgigjaaGreat
open Go.RowKit

/-- words as cells -/
def wc (l : List (BitVec 32)) : List Value := l.map (fun x => Value.int .u32 (u x))
theorem wc_length (l : List (BitVec 32)) : (wc l).length = l.length := by simp [wc]
theorem wc_get (l : List (BitVec 32)) (i : Nat) (h : i < l.length) : (wc l)[i]? = some (.int .u32 (u (l.getD i 0))) := by simp [wc, h]
theorem wc_set (l : List (BitVec 32)) (i : Nat) (x : BitVec 32) : (wc l).set i (.int .u32 (u x)) = wc (l.set i x) := by simp [wc, List.map_set]
theorem wc_append (l m : List (BitVec 32)) : wc (l ++ m) = wc l ++ wc m := by simp [wc]
-- primes and roots
def primeB (n : Nat) : Bool := (List.range n).all (fun d => decide (d < 2) || decide (n < d * d) || decide (n % d ≠ 0))
def squareB (x p : Nat) : Bool := decide (x * x ≤ p * 2 ^ 64)
def cubeB (x p : Nat) : Bool := decide (x * x * x ≤ p * 2 ^ 96)
/-- the greatest number of 41 bits that fits, bit by bit -/
def rootG (f : Nat → Nat → Bool) (p : Nat) : Nat → Nat → Nat
  | 0, x => x
  | k + 1, x => rootG f p k (if f (x + 2 ^ k) p then x + 2 ^ k else x)
def rootW (f : Nat → Nat → Bool) (p : Nat) : BitVec 32 := BitVec.ofNat 32 (rootG f p 41 0)
def primes : List Nat := [2, 3, 5, 7, 11, 13, 17, 19, 23, 29, 31, 37, 41, 43, 47, 53, 59, 61, 67, 71, 73, 79, 83, 89, 97, 101, 103, 107, 109, 113, 127, 131, 137, 139, 149, 151, 157, 163, 167, 173, 179, 181, 191, 193, 197, 199, 211, 223, 227, 229, 233, 239, 241, 251, 257, 263, 269, 271, 277, 281, 283, 293, 307, 311]
def kTab : List (BitVec 32) := primes.map (rootW cubeB)
def hTab : List (BitVec 32) := (primes.take 8).map (rootW squareB)
theorem primes_length : primes.length = 64 := rfl
theorem kTab_length : kTab.length = 64 := by simp [kTab, primes_length]
theorem hTab_length : hTab.length = 8 := by simp [hTab, primes]
def primesOk : Bool := (List.range 64).all (fun i => primeB (primes.getD i 0) && decide (primes.getD i 0 < 320) && (List.range 320).all (fun q => (decide (q < (if i = 0 then 2 else primes.getD (i - 1) 0 + 1))) || decide (primes.getD i 0 ≤ q) || !primeB q) && decide ((if i = 0 then 2 else primes.getD (i - 1) 0 + 1) ≤ primes.getD i 0))
theorem primes_ok : primesOk = true := by kernel_rfl
/-- from where the i-th prime is looked for -/
def pFrom (i : Nat) : Nat := if i = 0 then 2 else primes.getD (i - 1) 0 + 1
theorem prime_at (i : Nat) (hi : i < 64) : primeB (primes.getD i 0) = true ∧ primes.getD i 0 < 320 ∧ pFrom i ≤ primes.getD i 0 ∧ ∀ q, pFrom i ≤ q → q < primes.getD i 0 → primeB q = false := by
  have h := primes_ok
  unfold primesOk at h
  rw [List.all_eq_true] at h
  have h1 := h i (List.mem_range.2 hi)
  simp only [Bool.and_eq_true, decide_eq_true_eq] at h1
  obtain ⟨⟨⟨a, b⟩, c⟩, d⟩ := h1
  refine ⟨a, b, d, fun q hq1 hq2 => ?_⟩
  rw [List.all_eq_true] at c
  have h2 := c q (List.mem_range.2 (by omega))
  simp only [Bool.or_eq_true, decide_eq_true_eq, Bool.not_eq_true'] at h2
  rcases h2 with (h2 | h2) | h2
  · unfold pFrom at hq1; omega
  · omega
  · exact h2
-- the words of a block
def w8 (c : UInt8) : BitVec 32 := BitVec.ofNat 32 c.toNat
def wordOf (l : List UInt8) : BitVec 32 := l.foldl (fun x c => x <<< 8 ||| w8 c) 0#32
def mwords (b : List UInt8) : List (BitVec 32) := (List.range 16).map (fun i => wordOf ((b.drop (4 * i)).take 4))
def s0 (x : BitVec 32) : BitVec 32 := (ror x 7 ^^^ ror x 18) ^^^ x >>> 3
def s1 (x : BitVec 32) : BitVec 32 := (ror x 17 ^^^ ror x 19) ^^^ x >>> 10
def wNext (m l : List (BitVec 32)) (k : Nat) : BitVec 32 := if k < 16 then m.getD k 0 else l.getD (k - 16) 0 + s0 (l.getD (k - 15) 0) + l.getD (k - 7) 0 + s1 (l.getD (k - 2) 0)
def schedTo (m : List (BitVec 32)) : Nat → List (BitVec 32)
  | 0 => []
  | k + 1 => schedTo m k ++ [wNext m (schedTo m k) k]
theorem schedTo_length (m : List (BitVec 32)) (k : Nat) : (schedTo m k).length = k := by
  induction k with
  | zero => rfl
  | succ k ih => simp [schedTo, ih]
structure V8 where
  (a b c d e f g h : BitVec 32)
def V8.list (v : V8) : List (BitVec 32) := [v.a, v.b, v.c, v.d, v.e, v.f, v.g, v.h]
def bigS1 (e : BitVec 32) : BitVec 32 := (ror e 6 ^^^ ror e 11) ^^^ ror e 25
def bigS0 (a : BitVec 32) : BitVec 32 := (ror a 2 ^^^ ror a 13) ^^^ ror a 22
def oneV (v : V8) (k w : BitVec 32) : BitVec 32 := v.h + bigS1 v.e + ((v.e &&& v.f) ^^^ (~~~v.e &&& v.g)) + k + w
def twoV (v : V8) : BitVec 32 := bigS0 v.a + (((v.a &&& v.b) ^^^ (v.a &&& v.c)) ^^^ (v.b &&& v.c))
def roundV (v : V8) (k w : BitVec 32) : V8 := ⟨oneV v k w + twoV v, v.a, v.b, v.c, v.d + oneV v k w, v.e, v.f, v.g⟩
def rounds (kt ws : List (BitVec 32)) (v : V8) : Nat → V8
  | 0 => v
  | i + 1 => roundV (rounds kt ws v i) (kt.getD i 0) (ws.getD i 0)
def addV (v r : V8) : V8 := ⟨v.a + r.a, v.b + r.b, v.c + r.c, v.d + r.d, v.e + r.e, v.f + r.f, v.g + r.g, v.h + r.h⟩
/-- a block of 64 bytes is taken -/
def mixV (b : List UInt8) (v : V8) : V8 := addV v (rounds kTab (schedTo (mwords b) 64) v 64)
end Go.Proofs.YtjilbnpehgigjaaGreat

/- Package sha: primes and roots. -/
namespace Go.Proofs.YtjilbnpehgigjaaGreat
open Go.RowKit

theorem prime_no (n d : Nat) (h2 : 2 ≤ d) (hd : d * d ≤ n) (hm : n % d = 0) : primeB n = false := by
  unfold primeB
  rw [List.all_eq_false]
  have hdn : d < n := by
    have : 2 * d ≤ d * d := Nat.mul_le_mul_right d h2
    omega
  exact ⟨d, List.mem_range.2 hdn, by simp; omega⟩
theorem prime_yes (n d : Nat) (hd : n < d * d) (h : ∀ e, 2 ≤ e → e < d → n % e ≠ 0) : primeB n = true := by
  unfold primeB
  rw [List.all_eq_true]
  intro e _
  simp only [Bool.or_eq_true, decide_eq_true_eq]
  by_cases h1 : e < 2
  · exact .inl (.inl h1)
  · by_cases h2 : n < e * e
    · exact .inl (.inr h2)
    · refine .inr (h e (by omega) ?_)
      by_cases h3 : e < d
      · exact h3
      · have : d * d ≤ e * e := Nat.mul_le_mul (by omega) (by omega)
        omega
theorem shaPrime (n : Nat) (hn : n ≤ 400) (w : World) : Calls Tryz.prog 122 #[.int .u64 n] w fun e w' => e = .returned (.bool (primeB n)) ∧ w = w' := by
  obtain ⟨r, hr⟩ : ∃ r, primeB n = r := ⟨_, rfl⟩
  rw [hr]
  have HR := Lib.hid hr
  clear hr
  go_enter Tryz.func122, Tryz.ntmps122
  go_wp2_with fail
  go_loopw [3] (fun v wr => ∃ d : Nat, v = .int .u64 d ∧ 2 ≤ d ∧ d ≤ 21 ∧ wr = w ∧ Hid (∀ e, 2 ≤ e → e < d → n % e ≠ 0)) (fun v _ => 22 - (intOf v).toNat)
  case atStart => exact ⟨2, rfl, by omega, by omega, rfl, Lib.hid (fun e h1 h2 => by omega)⟩
  case round =>
    obtain ⟨d, rfl, hd2, hd21, rfl, HE⟩ := hrel
    obtain ⟨q, hq⟩ : ∃ q : Nat, d * d = q := ⟨_, rfl⟩
    have hq4 : q ≤ 441 := by have := Nat.mul_le_mul hd21 hd21; omega
    have hqi : (d : Int) * (d : Int) = (q : Int) := by rw [← hq]; simp
    have HQ := Lib.hid hq
    clear hq
    by_cases hle : q ≤ n
    · obtain ⟨m, hm⟩ : ∃ m : Nat, n % d = m := ⟨_, rfl⟩
      have hmi : (n : Int) % (d : Int) = (m : Int) := by rw [← hm]; simp
      have hd0 : ¬ (d : Int) = 0 := by omega
      have HM := Lib.hid hm
      have hdl : d < 21 := by
        by_cases h : d < 21
        · exact h
        · obtain rfl : d = 21 := by omega
          have := HQ.out; omega
      clear hm
      by_cases hm0 : m = 0
      · subst hm0
        have HF := Lib.hid (prime_no n d hd2 (by rw [HQ.out]; exact hle) HM.out)
        go_wp2_with fail
        go_ret
        exact ⟨by rw [← HR.out, HF.out]; rfl, rfl⟩
      · have hm1 : ((m : Int) == 0) = false := by simp; omega
        go_wp2_with fail
        refine ⟨⟨d + 1, by go_num, by omega, by omega, trivial, Lib.hid (fun e h1 h2 => ?_)⟩, by simp [intOf]; omega⟩
        rcases (show e < d ∨ e = d by omega) with h | rfl
        · exact HE.out e h1 h
        · rw [HM.out]; exact hm0
    · have HF := Lib.hid (prime_yes n d (by rw [HQ.out]; omega) HE.out)
      go_wp2_with fail
      go_ret
      exact ⟨by rw [← HR.out, HF.out]; rfl, rfl⟩
theorem shaSquare (x p : Nat) (hx : x < 2199023255552) (w : World) : Calls Tryz.prog 125 #[.int .u64 x, .int .u64 p] w fun e w' => e = .returned (.bool (squareB x p)) ∧ w = w' := by
  obtain ⟨r, hr⟩ : ∃ r, squareB x p = r := ⟨_, rfl⟩
  rw [hr]
  unfold squareB at hr
  obtain ⟨hi, hhi⟩ : ∃ h, x * x / 18446744073709551616 = h := ⟨_, rfl⟩
  obtain ⟨lo, hlo⟩ : ∃ h, x * x % 18446744073709551616 = h := ⟨_, rfl⟩
  have hr2 : r = decide (hi < p ∨ (hi = p ∧ lo = 0)) := by
    rw [← hr, decide_eq_decide]
    omega
  have hm := Tryz.bits_Mul64 x x (by omega) (by omega) w
  rw [hhi, hlo] at hm
  have HM := Lib.hid hm
  have HR := Lib.hid hr2
  clear hr hr2 hm hhi hlo
  go_enter Tryz.func125, Tryz.ntmps125
  go_wp2_with fail
  refine HM.out.mono ?_
  rintro e w1 ⟨rfl, rfl⟩
  by_cases h1 : hi < p
  · go_wp2_with fail
    go_ret
    exact ⟨by rw [HR.out, decide_eq_true (.inl h1)]; rfl, rfl⟩
  · by_cases h2 : hi = p
    · subst h2
      by_cases h3 : lo = 0
      · subst h3
        go_wp2_with fail
        go_ret
        exact ⟨by rw [HR.out, decide_eq_true (by simp)]; rfl, rfl⟩
      · have hb : ((lo : Int) == 0) = false := by simp; omega
        go_wp2_with fail
        go_ret
        exact ⟨by rw [HR.out, decide_eq_false (by rintro (h | h); exact h1 h; exact h3 h.2)]; rfl, rfl⟩
    · have hb : ((hi : Int) == (p : Int)) = false := by simp; omega
      go_wp2_with fail
      go_ret
      exact ⟨by rw [HR.out, decide_eq_false (by rintro (h | h); exact h1 h; exact h2 h.1)]; rfl, rfl⟩
theorem cube_parts (x : Nat) : x * x * x = 18446744073709551616 * (x * x / 18446744073709551616 * x + x * x % 18446744073709551616 * x / 18446744073709551616) + x * x % 18446744073709551616 * x % 18446744073709551616 := by
  have h1 := Nat.div_add_mod (x * x) 18446744073709551616
  have h2 := Nat.div_add_mod (x * x % 18446744073709551616 * x) 18446744073709551616
  have h3 : x * x * x = 18446744073709551616 * (x * x / 18446744073709551616 * x) + x * x % 18446744073709551616 * x := by
    conv => lhs; rw [← h1]
    rw [Nat.add_mul, Nat.mul_assoc]
  rw [Nat.mul_add, Nat.add_assoc, h2]
  exact h3
theorem run_add64_at (x y : Nat) (w : World) : (callFunc 129 #[.int .u64 x, .int .u64 y, .int .u64 0]).run Tryz.prog w = .ok (.value (.tuple #[.int .u64 (((x : Int) + y) % 18446744073709551616), .int .u64 (((x : Int) + y) / 18446744073709551616)])) w := by
  rw [run_callFunc_extern Tryz.func129 (by kernel_rfl) (by kernel_rfl) (by kernel_rfl) (e := add64Entry) (by kernel_rfl), run_add64 x y 0 (by omega) (by omega) (by omega) (by omega)]
  simp only [Result.andThen, Int.add_zero]
theorem shaCube (x p : Nat) (hx : x < 2199023255552) (hp : p < 512) (w : World) : Calls Tryz.prog 124 #[.int .u64 x, .int .u64 p] w fun e w' => e = .returned (.bool (cubeB x p)) ∧ w = w' := by
  obtain ⟨r, hr⟩ : ∃ r, cubeB x p = r := ⟨_, rfl⟩
  rw [hr]
  unfold cubeB at hr
  have hc := cube_parts x
  have hxx : x * x ≤ 2199023255551 * 2199023255551 := Nat.mul_le_mul (by omega) (by omega)
  have hm1 := Tryz.bits_Mul64 x x (by omega) (by omega)
  obtain ⟨hi, hhi⟩ : ∃ h, x * x / 18446744073709551616 = h := ⟨_, rfl⟩
  obtain ⟨lo, hlo⟩ : ∃ h, x * x % 18446744073709551616 = h := ⟨_, rfl⟩
  rw [hhi, hlo] at hm1 hc
  have hhib : hi ≤ 262144 := by omega
  have hlob : lo < 18446744073709551616 := by omega
  have hm2 := Tryz.bits_Mul64 lo x (by omega) (by omega)
  have hm3 := Tryz.bits_Mul64 hi x (by omega) (by omega)
  have hhx : hi * x ≤ 262144 * 2199023255551 := Nat.mul_le_mul hhib (by omega)
  have hlx : lo * x ≤ 18446744073709551615 * 2199023255551 := Nat.mul_le_mul (by omega) (by omega)
  obtain ⟨a, ha⟩ : ∃ a, hi * x = a := ⟨_, rfl⟩
  rw [ha] at hm3 hc hhx
  rw [show a / 18446744073709551616 = 0 by omega, show a % 18446744073709551616 = a by omega] at hm3
  obtain ⟨b, hb⟩ : ∃ b, lo * x / 18446744073709551616 = b := ⟨_, rfl⟩
  obtain ⟨c, hcc⟩ : ∃ c, lo * x % 18446744073709551616 = c := ⟨_, rfl⟩
  rw [hb, hcc] at hm2 hc
  have hbb : b ≤ 2199023255552 := by omega
  have hcb : c < 18446744073709551616 := by omega
  have hadd := run_add64_at a b
  rw [show (((a : Int) + b) % 18446744073709551616) = ((a + b : Nat) : Int) by omega, show (((a : Int) + b) / 18446744073709551616) = 0 by omega] at hadd
  obtain ⟨H, hH⟩ : ∃ H, a + b = H := ⟨_, rfl⟩
  rw [hH] at hadd hc
  obtain ⟨q, hq⟩ : ∃ q, p * 4294967296 = q := ⟨_, rfl⟩
  have hqi : (p : Int) * 4294967296 = (q : Int) := by omega
  have hqb : q < 2199023255552 := by omega
  have hHb : H < 18446744073709551616 := by omega
  have hr2 : r = decide (H < q ∨ (H = q ∧ c = 0)) := by
    rw [← hr, decide_eq_decide, hc]
    omega
  have HM1 := Lib.hid hm1
  have HM2 := Lib.hid hm2
  have HM3 := Lib.hid hm3
  have HR := Lib.hid hr2
  clear hr hr2 hm1 hm2 hm3 hhi hlo hc hxx hhib hlob hhx hlx ha hb hcc hbb hcb hH hq
  go_enter Tryz.func124, Tryz.ntmps124
  go_wp2_with fail
  refine (HM1.out w).mono ?_
  rintro e w1 ⟨rfl, rfl⟩
  go_wp2_with fail
  refine (HM2.out _).mono ?_
  rintro e w1 ⟨rfl, rfl⟩
  go_wp2_with fail
  refine (HM3.out _).mono ?_
  rintro e w1 ⟨rfl, rfl⟩
  by_cases h1 : H < q
  · go_wp2_with fail
    go_ret
    exact ⟨by rw [HR.out, decide_eq_true (.inl h1)]; rfl, rfl⟩
  · by_cases h2 : H = q
    · subst h2
      by_cases h3 : c = 0
      · subst h3
        go_wp2_with fail
        go_ret
        exact ⟨by rw [HR.out, decide_eq_true (by simp)]; rfl, rfl⟩
      · have hb : ((c : Int) == 0) = false := by simp; omega
        go_wp2_with fail
        go_ret
        exact ⟨by rw [HR.out, decide_eq_false (by rintro (h | h); exact h1 h; exact h3 h.2)]; rfl, rfl⟩
    · have hb : ((H : Int) == (q : Int)) = false := by simp; omega
      go_wp2_with fail
      go_ret
      exact ⟨by rw [HR.out, decide_eq_false (by rintro (h | h); exact h1 h; exact h2 h.1)]; rfl, rfl⟩
/-- a bit below a number's own bits -/
theorem or_bit (y k : Nat) : (y * 2 ^ (k + 1)) ||| 2 ^ k = y * 2 ^ (k + 1) + 2 ^ k := by
  have h := Nat.two_pow_add_eq_or_of_lt (i := k + 1) (b := 2 ^ k) (Nat.pow_lt_pow_right (by omega) (by omega)) y
  rw [Nat.mul_comm y]
  exact h.symm
theorem pow_le_40 (k : Nat) (hk : k ≤ 40) : 2 ^ k ≤ 1099511627776 := Nat.pow_le_pow_right (n := 2) (by omega) hk
set_option maxRecDepth 100000 in
theorem shaRoot_square (p : Nat) (w : World) : Calls Tryz.prog 123 #[.int .u64 p, .func (.func 125) #[] #[]] w fun e w' => e = .returned (.int .u32 (u (rootW squareB p))) ∧ w = w' := by
  go_enter Tryz.func123, Tryz.ntmps123
  go_wp2_with fail
  go_loopw [5, 6] (fun v5 v6 wr => ∃ k x y B : Nat, k ≤ 41 ∧ v5 = .int .u64 x ∧ v6 = .int .u64 B ∧ Hid (B = if k = 0 then 0 else 2 ^ (k - 1)) ∧ B ≤ 1099511627776 ∧ Hid (x = y * 2 ^ k) ∧ x + 2 * B ≤ 2199023255552 ∧ Hid (rootG squareB p k x = rootG squareB p 41 0) ∧ wr = w) (fun _ v _ => (intOf v).toNat)
  case atStart => exact ⟨41, 0, 0, 1099511627776, by omega, rfl, rfl, Lib.hid rfl, by omega, Lib.hid (by simp), by omega, Lib.hid rfl, rfl⟩
  case round =>
    obtain ⟨k, x, y, B, hk, rfl, rfl, HB, hB40, HX, hx41, HR, hwr⟩ := hrel
    subst hwr
    rcases Nat.eq_zero_or_pos k with hk0 | hk0
    · subst hk0
      have hB0 : B = 0 := HB.out
      subst hB0
      go_wp2_with fail
      go_ret
      refine ⟨?_, rfl⟩
      have h : x = rootG squareB p 41 0 := HR.out
      unfold rootW
      rw [← h]
      simp [u]
    · obtain ⟨k1, rfl⟩ : ∃ k1, k = k1 + 1 := ⟨k - 1, by omega⟩
      have hB : B = 2 ^ k1 := by have := HB.out; simpa using this
      have hBpos : 0 < B := by rw [hB]; exact Nat.two_pow_pos _
      have hor := bits_or_u64_nat x B (by omega) (by omega)
      rw [show x ||| B = x + B from by rw [HX.out, hB]; exact or_bit y k1] at hor
      have hB2 : (B / 2 : Nat) = if k1 = 0 then 0 else 2 ^ (k1 - 1) := by
        rw [hB]
        rcases Nat.eq_zero_or_pos k1 with h | h
        · subst h; rfl
        · obtain ⟨k2, rfl⟩ : ∃ k2, k1 = k2 + 1 := ⟨k1 - 1, by omega⟩
          rw [Nat.pow_succ]; simp
      obtain ⟨r, hr⟩ : ∃ r, squareB (x + B) p = r := ⟨_, rfl⟩
      have hstep : rootG squareB p k1 (if r = true then x + B else x) = rootG squareB p 41 0 := by
        have h := HR.out
        rw [rootG, ← hB, hr] at h
        exact h
      have HB1 := Lib.hid hB
      have HB2 := Lib.hid hB2
      have HRB := Lib.hid hr
      have HS := Lib.hid hstep
      have hc := shaSquare (x + B) p (by omega) wr
      rw [hr] at hc
      have HC := Lib.hid hc
      clear hB hB2 hr hstep hc
      go_wp2_with fail
      refine HC.out.mono ?_
      rintro e w1 ⟨rfl, rfl⟩
      cases r with
      | true =>
        go_wp2_with fail
        exact ⟨⟨k1, x + B, 2 * y + 1, B / 2, by omega, by go_num, by go_num, HB2, by omega, Lib.hid (by rw [HX.out, HB1.out, Nat.pow_succ, Nat.add_mul, Nat.one_mul, Nat.mul_comm (2 ^ k1) 2, ← Nat.mul_assoc, Nat.mul_comm y 2]), by omega, HS, trivial⟩, by simp [intOf]; omega⟩
      | false =>
        go_wp2_with fail
        exact ⟨⟨k1, x, 2 * y, B / 2, by omega, rfl, by go_num, HB2, by omega, Lib.hid (by rw [HX.out, Nat.pow_succ, Nat.mul_comm (2 ^ k1) 2, ← Nat.mul_assoc, Nat.mul_comm y 2]), by omega, HS, trivial⟩, by simp [intOf]; omega⟩
set_option maxRecDepth 100000 in
theorem shaRoot_cube (p : Nat) (hp : p < 512) (w : World) : Calls Tryz.prog 123 #[.int .u64 p, .func (.func 124) #[] #[]] w fun e w' => e = .returned (.int .u32 (u (rootW cubeB p))) ∧ w = w' := by
  go_enter Tryz.func123, Tryz.ntmps123
  go_wp2_with fail
  go_loopw [5, 6] (fun v5 v6 wr => ∃ k x y B : Nat, k ≤ 41 ∧ v5 = .int .u64 x ∧ v6 = .int .u64 B ∧ Hid (B = if k = 0 then 0 else 2 ^ (k - 1)) ∧ B ≤ 1099511627776 ∧ Hid (x = y * 2 ^ k) ∧ x + 2 * B ≤ 2199023255552 ∧ Hid (rootG cubeB p k x = rootG cubeB p 41 0) ∧ wr = w) (fun _ v _ => (intOf v).toNat)
  case atStart => exact ⟨41, 0, 0, 1099511627776, by omega, rfl, rfl, Lib.hid rfl, by omega, Lib.hid (by simp), by omega, Lib.hid rfl, rfl⟩
  case round =>
    obtain ⟨k, x, y, B, hk, rfl, rfl, HB, hB40, HX, hx41, HR, hwr⟩ := hrel
    subst hwr
    rcases Nat.eq_zero_or_pos k with hk0 | hk0
    · subst hk0
      have hB0 : B = 0 := HB.out
      subst hB0
      go_wp2_with fail
      go_ret
      refine ⟨?_, rfl⟩
      have h : x = rootG cubeB p 41 0 := HR.out
      unfold rootW
      rw [← h]
      simp [u]
    · obtain ⟨k1, rfl⟩ : ∃ k1, k = k1 + 1 := ⟨k - 1, by omega⟩
      have hB : B = 2 ^ k1 := by have := HB.out; simpa using this
      have hBpos : 0 < B := by rw [hB]; exact Nat.two_pow_pos _
      have hor := bits_or_u64_nat x B (by omega) (by omega)
      rw [show x ||| B = x + B from by rw [HX.out, hB]; exact or_bit y k1] at hor
      have hB2 : (B / 2 : Nat) = if k1 = 0 then 0 else 2 ^ (k1 - 1) := by
        rw [hB]
        rcases Nat.eq_zero_or_pos k1 with h | h
        · subst h; rfl
        · obtain ⟨k2, rfl⟩ : ∃ k2, k1 = k2 + 1 := ⟨k1 - 1, by omega⟩
          rw [Nat.pow_succ]; simp
      obtain ⟨r, hr⟩ : ∃ r, cubeB (x + B) p = r := ⟨_, rfl⟩
      have hstep : rootG cubeB p k1 (if r = true then x + B else x) = rootG cubeB p 41 0 := by
        have h := HR.out
        rw [rootG, ← hB, hr] at h
        exact h
      have HB1 := Lib.hid hB
      have HB2 := Lib.hid hB2
      have HRB := Lib.hid hr
      have HS := Lib.hid hstep
      have hc := shaCube (x + B) p (by omega) hp wr
      rw [hr] at hc
      have HC := Lib.hid hc
      clear hB hB2 hr hstep hc
      go_wp2_with fail
      refine HC.out.mono ?_
      rintro e w1 ⟨rfl, rfl⟩
      cases r with
      | true =>
        go_wp2_with fail
        exact ⟨⟨k1, x + B, 2 * y + 1, B / 2, by omega, by go_num, by go_num, HB2, by omega, Lib.hid (by rw [HX.out, HB1.out, Nat.pow_succ, Nat.add_mul, Nat.one_mul, Nat.mul_comm (2 ^ k1) 2, ← Nat.mul_assoc, Nat.mul_comm y 2]), by omega, HS, trivial⟩, by simp [intOf]; omega⟩
      | false =>
        go_wp2_with fail
        exact ⟨⟨k1, x, 2 * y, B / 2, by omega, rfl, by go_num, HB2, by omega, Lib.hid (by rw [HX.out, Nat.pow_succ, Nat.mul_comm (2 ^ k1) 2, ← Nat.mul_assoc, Nat.mul_comm y 2]), by omega, HS, trivial⟩, by simp [intOf]; omega⟩
end Go.Proofs.YtjilbnpehgigjaaGreat

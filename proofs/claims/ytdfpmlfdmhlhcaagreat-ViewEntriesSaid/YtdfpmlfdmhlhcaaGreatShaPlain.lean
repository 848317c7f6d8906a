/- Words of 32 bits as the walk writes them ('u'), and math/bits.RotateLeft32 at the counts that SHA-256 has. -/
import Derived.Test.YtdfpmlfdmhlhcaaGreatChecked
import Derived.Test.YtdfpmlfdmhlhcaaGreatSame
import Derived.KernelRfl
namespace Go.Proofs.YtdfpmlfdmhlhcaaGreat
open Go.RowKit

def u (x : BitVec 32) : Int := (x.toNat : Int)
theorem u_lo (x : BitVec 32) : 0 ≤ u x := by unfold u; omega
theorem u_hi (x : BitVec 32) : u x < 4294967296 := by have := x.isLt; unfold u; omega
theorem u_zero : u 0#32 = 0 := rfl
theorem u_ofInt (x : BitVec 32) : BitVec.ofInt 32 (u x) = x := by
  unfold u
  rw [BitVec.ofInt_natCast]
  exact BitVec.eq_of_toNat_eq (by simp)
theorem u_wrap (x : BitVec 32) : IntKind.u32.wrap (x.toNat : Int) = u x := by
  have := x.isLt
  simp only [IntKind.wrap, IntKind.bits, IntKind.signed, u]
  simp
  omega
theorem u_xor (x y : BitVec 32) : bits .xor .u32 (u x) (u y) = u (x ^^^ y) := by
  show IntKind.u32.wrap ((BitVec.ofInt 32 (u x) ^^^ BitVec.ofInt 32 (u y)).toNat : Int) = _
  rw [u_ofInt, u_ofInt, u_wrap]
theorem u_and (x y : BitVec 32) : bits .and .u32 (u x) (u y) = u (x &&& y) := by
  show IntKind.u32.wrap ((BitVec.ofInt 32 (u x) &&& BitVec.ofInt 32 (u y)).toNat : Int) = _
  rw [u_ofInt, u_ofInt, u_wrap]
theorem u_or (x y : BitVec 32) : bits .or .u32 (u x) (u y) = u (x ||| y) := by
  show IntKind.u32.wrap ((BitVec.ofInt 32 (u x) ||| BitVec.ofInt 32 (u y)).toNat : Int) = _
  rw [u_ofInt, u_ofInt, u_wrap]
theorem u_not (x : BitVec 32) : bits .xor .u32 4294967295 (u x) = u (~~~x) := by
  show IntKind.u32.wrap ((BitVec.ofInt 32 4294967295 ^^^ BitVec.ofInt 32 (u x)).toNat : Int) = _
  rw [u_ofInt, u_wrap, show BitVec.ofInt 32 4294967295 = BitVec.allOnes 32 from rfl, BitVec.allOnes_xor]
theorem u_add (x y : BitVec 32) : (u x + u y) % 4294967296 = u (x + y) := by
  unfold u
  rw [BitVec.toNat_add]
  omega
theorem u_addw (x y : BitVec 32) : IntKind.u32.wrap (u x + u y) = u (x + y) := by rw [IntKind.wrap_u32, u_add]
theorem u_notw (x : BitVec 32) : bits .xor .u32 (if IntKind.u32.signed = true then -1 else IntKind.u32.max) (u x) = u (~~~x) := u_not x
theorem u_shl (x : BitVec 32) (k : Nat) : (u x * (2 ^ k : Nat)) % 4294967296 = u (x <<< k) := by
  unfold u
  rw [BitVec.toNat_shiftLeft, Nat.shiftLeft_eq]
  simp
theorem u_shr (x : BitVec 32) (k : Nat) : u x / (2 ^ k : Nat) = u (x >>> k) := by
  unfold u
  rw [BitVec.toNat_ushiftRight, Nat.shiftRight_eq_div_pow]
  simp
/-- turned to the right by k -/
def ror (x : BitVec 32) (k : Nat) : BitVec 32 := x <<< (32 - k) ||| x >>> k
theorem rot7 (x : BitVec 32) (w : World) : Calls Tryz.prog 155 #[.int .u32 (u x), .int .i64 (-7)] w fun e w' => e = .returned (.int .u32 (u (ror x 7))) ∧ w = w' := by
  have e1 : IntKind.u64.wrap (-7) = 18446744073709551609 := by decide
  have e2 : bits .and .u64 18446744073709551609 31 = 25 := by decide
  have e3 : u x * 33554432 % 4294967296 = u (x <<< 25) := u_shl x 25
  have e4 : u x / 128 = u (x >>> 7) := u_shr x 7
  have e5 := u_or (x <<< 25) (x >>> 7)
  have h1 := u_lo x
  have h2 := u_hi x
  go_enter Tryz.func155, Tryz.ntmps155
  go_wp2_with fail
  go_ret
  refine ⟨?_, rfl⟩
  simp [ror, ← e5, ← e3, ← e4]
theorem rot18 (x : BitVec 32) (w : World) : Calls Tryz.prog 155 #[.int .u32 (u x), .int .i64 (-18)] w fun e w' => e = .returned (.int .u32 (u (ror x 18))) ∧ w = w' := by
  have e1 : IntKind.u64.wrap (-18) = 18446744073709551598 := by decide
  have e2 : bits .and .u64 18446744073709551598 31 = 14 := by decide
  have e3 : u x * 16384 % 4294967296 = u (x <<< 14) := u_shl x 14
  have e4 : u x / 262144 = u (x >>> 18) := u_shr x 18
  have e5 := u_or (x <<< 14) (x >>> 18)
  have h1 := u_lo x
  have h2 := u_hi x
  go_enter Tryz.func155, Tryz.ntmps155
  go_wp2_with fail
  go_ret
  refine ⟨?_, rfl⟩
  simp [ror, ← e5, ← e3, ← e4]
theorem rot17 (x : BitVec 32) (w : World) : Calls Tryz.prog 155 #[.int .u32 (u x), .int .i64 (-17)] w fun e w' => e = .returned (.int .u32 (u (ror x 17))) ∧ w = w' := by
  have e1 : IntKind.u64.wrap (-17) = 18446744073709551599 := by decide
  have e2 : bits .and .u64 18446744073709551599 31 = 15 := by decide
  have e3 : u x * 32768 % 4294967296 = u (x <<< 15) := u_shl x 15
  have e4 : u x / 131072 = u (x >>> 17) := u_shr x 17
  have e5 := u_or (x <<< 15) (x >>> 17)
  have h1 := u_lo x
  have h2 := u_hi x
  go_enter Tryz.func155, Tryz.ntmps155
  go_wp2_with fail
  go_ret
  refine ⟨?_, rfl⟩
  simp [ror, ← e5, ← e3, ← e4]
theorem rot19 (x : BitVec 32) (w : World) : Calls Tryz.prog 155 #[.int .u32 (u x), .int .i64 (-19)] w fun e w' => e = .returned (.int .u32 (u (ror x 19))) ∧ w = w' := by
  have e1 : IntKind.u64.wrap (-19) = 18446744073709551597 := by decide
  have e2 : bits .and .u64 18446744073709551597 31 = 13 := by decide
  have e3 : u x * 8192 % 4294967296 = u (x <<< 13) := u_shl x 13
  have e4 : u x / 524288 = u (x >>> 19) := u_shr x 19
  have e5 := u_or (x <<< 13) (x >>> 19)
  have h1 := u_lo x
  have h2 := u_hi x
  go_enter Tryz.func155, Tryz.ntmps155
  go_wp2_with fail
  go_ret
  refine ⟨?_, rfl⟩
  simp [ror, ← e5, ← e3, ← e4]
theorem rot6 (x : BitVec 32) (w : World) : Calls Tryz.prog 155 #[.int .u32 (u x), .int .i64 (-6)] w fun e w' => e = .returned (.int .u32 (u (ror x 6))) ∧ w = w' := by
  have e1 : IntKind.u64.wrap (-6) = 18446744073709551610 := by decide
  have e2 : bits .and .u64 18446744073709551610 31 = 26 := by decide
  have e3 : u x * 67108864 % 4294967296 = u (x <<< 26) := u_shl x 26
  have e4 : u x / 64 = u (x >>> 6) := u_shr x 6
  have e5 := u_or (x <<< 26) (x >>> 6)
  have h1 := u_lo x
  have h2 := u_hi x
  go_enter Tryz.func155, Tryz.ntmps155
  go_wp2_with fail
  go_ret
  refine ⟨?_, rfl⟩
  simp [ror, ← e5, ← e3, ← e4]
theorem rot11 (x : BitVec 32) (w : World) : Calls Tryz.prog 155 #[.int .u32 (u x), .int .i64 (-11)] w fun e w' => e = .returned (.int .u32 (u (ror x 11))) ∧ w = w' := by
  have e1 : IntKind.u64.wrap (-11) = 18446744073709551605 := by decide
  have e2 : bits .and .u64 18446744073709551605 31 = 21 := by decide
  have e3 : u x * 2097152 % 4294967296 = u (x <<< 21) := u_shl x 21
  have e4 : u x / 2048 = u (x >>> 11) := u_shr x 11
  have e5 := u_or (x <<< 21) (x >>> 11)
  have h1 := u_lo x
  have h2 := u_hi x
  go_enter Tryz.func155, Tryz.ntmps155
  go_wp2_with fail
  go_ret
  refine ⟨?_, rfl⟩
  simp [ror, ← e5, ← e3, ← e4]
theorem rot25 (x : BitVec 32) (w : World) : Calls Tryz.prog 155 #[.int .u32 (u x), .int .i64 (-25)] w fun e w' => e = .returned (.int .u32 (u (ror x 25))) ∧ w = w' := by
  have e1 : IntKind.u64.wrap (-25) = 18446744073709551591 := by decide
  have e2 : bits .and .u64 18446744073709551591 31 = 7 := by decide
  have e3 : u x * 128 % 4294967296 = u (x <<< 7) := u_shl x 7
  have e4 : u x / 33554432 = u (x >>> 25) := u_shr x 25
  have e5 := u_or (x <<< 7) (x >>> 25)
  have h1 := u_lo x
  have h2 := u_hi x
  go_enter Tryz.func155, Tryz.ntmps155
  go_wp2_with fail
  go_ret
  refine ⟨?_, rfl⟩
  simp [ror, ← e5, ← e3, ← e4]
theorem rot2 (x : BitVec 32) (w : World) : Calls Tryz.prog 155 #[.int .u32 (u x), .int .i64 (-2)] w fun e w' => e = .returned (.int .u32 (u (ror x 2))) ∧ w = w' := by
  have e1 : IntKind.u64.wrap (-2) = 18446744073709551614 := by decide
  have e2 : bits .and .u64 18446744073709551614 31 = 30 := by decide
  have e3 : u x * 1073741824 % 4294967296 = u (x <<< 30) := u_shl x 30
  have e4 : u x / 4 = u (x >>> 2) := u_shr x 2
  have e5 := u_or (x <<< 30) (x >>> 2)
  have h1 := u_lo x
  have h2 := u_hi x
  go_enter Tryz.func155, Tryz.ntmps155
  go_wp2_with fail
  go_ret
  refine ⟨?_, rfl⟩
  simp [ror, ← e5, ← e3, ← e4]
theorem rot13 (x : BitVec 32) (w : World) : Calls Tryz.prog 155 #[.int .u32 (u x), .int .i64 (-13)] w fun e w' => e = .returned (.int .u32 (u (ror x 13))) ∧ w = w' := by
  have e1 : IntKind.u64.wrap (-13) = 18446744073709551603 := by decide
  have e2 : bits .and .u64 18446744073709551603 31 = 19 := by decide
  have e3 : u x * 524288 % 4294967296 = u (x <<< 19) := u_shl x 19
  have e4 : u x / 8192 = u (x >>> 13) := u_shr x 13
  have e5 := u_or (x <<< 19) (x >>> 13)
  have h1 := u_lo x
  have h2 := u_hi x
  go_enter Tryz.func155, Tryz.ntmps155
  go_wp2_with fail
  go_ret
  refine ⟨?_, rfl⟩
  simp [ror, ← e5, ← e3, ← e4]
theorem rot22 (x : BitVec 32) (w : World) : Calls Tryz.prog 155 #[.int .u32 (u x), .int .i64 (-22)] w fun e w' => e = .returned (.int .u32 (u (ror x 22))) ∧ w = w' := by
  have e1 : IntKind.u64.wrap (-22) = 18446744073709551594 := by decide
  have e2 : bits .and .u64 18446744073709551594 31 = 10 := by decide
  have e3 : u x * 1024 % 4294967296 = u (x <<< 10) := u_shl x 10
  have e4 : u x / 4194304 = u (x >>> 22) := u_shr x 22
  have e5 := u_or (x <<< 10) (x >>> 22)
  have h1 := u_lo x
  have h2 := u_hi x
  go_enter Tryz.func155, Tryz.ntmps155
  go_wp2_with fail
  go_ret
  refine ⟨?_, rfl⟩
  simp [ror, ← e5, ← e3, ← e4]
end Go.Proofs.YtdfpmlfdmhlhcaaGreat

/- SHA-256, said plainly: over words of 32 bits. Its table reckoned by primes and roots. -/
namespace Go.Proofs.YtdfpmlfdmhlhcaaGreat
open Go.RowKit

/-- words as cells -/
def wc (l : List (BitVec 32)) : List Value := l.map (fun x => Value.int .u32 (u x))
theorem wc_length (l : List (BitVec 32)) : (wc l).length = l.length := by simp [wc]
theorem wc_get (l : List (BitVec 32)) (i : Nat) (h : i < l.length) : (wc l)[i]? = some (.int .u32 (u (l.getD i 0))) := by simp [wc, h]
theorem wc_set (l : List (BitVec 32)) (i : Nat) (x : BitVec 32) : (wc l).set i (.int .u32 (u x)) = wc (l.set i x) := by simp [wc, List.map_set]
theorem wc_append (l m : List (BitVec 32)) : wc (l ++ m) = wc l ++ wc m := by simp [wc]
-- primes and roots
def primeB (n : Nat) : Bool := (List.range n).all (fun d => decide (d < 2) || decide (n < d * d) || decide (n % d ≠ 0))
def squareB (x p : Nat) : Bool := decide (x * x ≤ p * 2 ^ 64)
def cubeB (x p : Nat) : Bool := decide (x * x * x ≤ p * 2 ^ 96)
/-- the greatest number of 41 bits that fits, bit by bit -/
def rootG (f : Nat → Nat → Bool) (p : Nat) : Nat → Nat → Nat
  | 0, x => x
  | k + 1, x => rootG f p k (if f (x + 2 ^ k) p then x + 2 ^ k else x)
def rootW (f : Nat → Nat → Bool) (p : Nat) : BitVec 32 := BitVec.ofNat 32 (rootG f p 41 0)
def primes : List Nat := [2, 3, 5, 7, 11, 13, 17, 19, 23, 29, 31, 37, 41, 43, 47, 53, 59, 61, 67, 71, 73, 79, 83, 89, 97, 101, 103, 107, 109, 113, 127, 131, 137, 139, 149, 151, 157, 163, 167, 173, 179, 181, 191, 193, 197, 199, 211, 223, 227, 229, 233, 239, 241, 251, 257, 263, 269, 271, 277, 281, 283, 293, 307, 311]
def kTab : List (BitVec 32) := primes.map (rootW cubeB)
def hTab : List (BitVec 32) := (primes.take 8).map (rootW squareB)
theorem primes_length : primes.length = 64 := rfl
theorem kTab_length : kTab.length = 64 := by simp [kTab, primes_length]
theorem hTab_length : hTab.length = 8 := by simp [hTab, primes]
def primesOk : Bool := (List.range 64).all (fun i => primeB (primes.getD i 0) && decide (primes.getD i 0 < 320) && (List.range 320).all (fun q => (decide (q < (if i = 0 then 2 else primes.getD (i - 1) 0 + 1))) || decide (primes.getD i 0 ≤ q) || !primeB q) && decide ((if i = 0 then 2 else primes.getD (i - 1) 0 + 1) ≤ primes.getD i 0))
theorem primes_ok : primesOk = true := by kernel_rfl
/-- from where the i-th prime is looked for -/
def pFrom (i : Nat) : Nat := if i = 0 then 2 else primes.getD (i - 1) 0 + 1
theorem prime_at (i : Nat) (hi : i < 64) : primeB (primes.getD i 0) = true ∧ primes.getD i 0 < 320 ∧ pFrom i ≤ primes.getD i 0 ∧ ∀ q, pFrom i ≤ q → q < primes.getD i 0 → primeB q = false := by
  have h := primes_ok
  unfold primesOk at h
  rw [List.all_eq_true] at h
  have h1 := h i (List.mem_range.2 hi)
  simp only [Bool.and_eq_true, decide_eq_true_eq] at h1
  obtain ⟨⟨⟨a, b⟩, c⟩, d⟩ := h1
  refine ⟨a, b, d, fun q hq1 hq2 => ?_⟩
  rw [List.all_eq_true] at c
  have h2 := c q (List.mem_range.2 (by omega))
  simp only [Bool.or_eq_true, decide_eq_true_eq, Bool.not_eq_true'] at h2
  rcases h2 with (h2 | h2) | h2
  · unfold pFrom at hq1; omega
  · omega
  · exact h2
-- the words of a block
def w8 (c : UInt8) : BitVec 32 := BitVec.ofNat 32 c.toNat
def wordOf (l : List UInt8) : BitVec 32 := l.foldl (fun x c => x <<< 8 ||| w8 c) 0#32
def mwords (b : List UInt8) : List (BitVec 32) := (List.range 16).map (fun i => wordOf ((b.drop (4 * i)).take 4))
def s0 (x : BitVec 32) : BitVec 32 := (ror x 7 ^^^ ror x 18) ^^^ x >>> 3
def s1 (x : BitVec 32) : BitVec 32 := (ror x 17 ^^^ ror x 19) ^^^ x >>> 10
def wNext (m l : List (BitVec 32)) (k : Nat) : BitVec 32 := if k < 16 then m.getD k 0 else l.getD (k - 16) 0 + s0 (l.getD (k - 15) 0) + l.getD (k - 7) 0 + s1 (l.getD (k - 2) 0)
def schedTo (m : List (BitVec 32)) : Nat → List (BitVec 32)
  | 0 => []
  | k + 1 => schedTo m k ++ [wNext m (schedTo m k) k]
theorem schedTo_length (m : List (BitVec 32)) (k : Nat) : (schedTo m k).length = k := by
  induction k with
  | zero => rfl
  | succ k ih => simp [schedTo, ih]
structure V8 where
  (a b c d e f g h : BitVec 32)
def V8.list (v : V8) : List (BitVec 32) := [v.a, v.b, v.c, v.d, v.e, v.f, v.g, v.h]
def bigS1 (e : BitVec 32) : BitVec 32 := (ror e 6 ^^^ ror e 11) ^^^ ror e 25
def bigS0 (a : BitVec 32) : BitVec 32 := (ror a 2 ^^^ ror a 13) ^^^ ror a 22
def oneV (v : V8) (k w : BitVec 32) : BitVec 32 := v.h + bigS1 v.e + ((v.e &&& v.f) ^^^ (~~~v.e &&& v.g)) + k + w
def twoV (v : V8) : BitVec 32 := bigS0 v.a + (((v.a &&& v.b) ^^^ (v.a &&& v.c)) ^^^ (v.b &&& v.c))
def roundV (v : V8) (k w : BitVec 32) : V8 := ⟨oneV v k w + twoV v, v.a, v.b, v.c, v.d + oneV v k w, v.e, v.f, v.g⟩
def rounds (kt ws : List (BitVec 32)) (v : V8) : Nat → V8
  | 0 => v
  | i + 1 => roundV (rounds kt ws v i) (kt.getD i 0) (ws.getD i 0)
def addV (v r : V8) : V8 := ⟨v.a + r.a, v.b + r.b, v.c + r.c, v.d + r.d, v.e + r.e, v.f + r.f, v.g + r.g, v.h + r.h⟩
/-- a block of 64 bytes is taken -/
def mixV (b : List UInt8) (v : V8) : V8 := addV v (rounds kTab (schedTo (mwords b) 64) v 64)
end Go.Proofs.YtdfpmlfdmhlhcaaGreat

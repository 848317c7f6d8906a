/- SHA-256, said plainly: over words of 32 bits. Its table reckoned by primes and roots. -/
import Derived.KernelRfl
import Derived.Test.YtdfahddpkkeldaaGreatShort
namespace Go.Proofs.YtdfahddpkkeldaaGreat
open Go.RowKit
/-- words as cells -/
def wc (l : List (BitVec 32)) : List Value := l.map (fun x => Value.int .u32 (u x))
theorem wc_length (l : List (BitVec 32)) : (wc l).length = l.length := by simp [wc]
theorem wc_get (l : List (BitVec 32)) (i : Nat) (h : i < l.length) : (wc l)[i]? = some (.int .u32 (u (l.getD i 0))) := by simp [wc, h]
theorem wc_set (l : List (BitVec 32)) (i : Nat) (x : BitVec 32) : (wc l).set i (.int .u32 (u x)) = wc (l.set i x) := by simp [wc, List.map_set]
def primeB (n : Nat) : Bool := (List.range n).all (fun d => decide (d < 2) || decide (n < d * d) || decide (n % d ≠ 0))
def squareB (x p : Nat) : Bool := decide (x * x ≤ p * 2 ^ 64)
def cubeB (x p : Nat) : Bool := decide (x * x * x ≤ p * 2 ^ 96)
/-- the greatest number of 41 bits that fits, bit by bit -/
def rootG (f : Nat → Nat → Bool) (p : Nat) : Nat → Nat → Nat
 | 0, x => x
 | k + 1, x => rootG f p k (if f (x + 2 ^ k) p then x + 2 ^ k else x)
def rootW (f : Nat → Nat → Bool) (p : Nat) : BitVec 32 := BitVec.ofNat 32 (rootG f p 41 0)
def primes : List Nat := [2, 3, 5, 7, 11, 13, 17, 19, 23, 29, 31, 37, 41, 43, 47, 53, 59, 61, 67, 71, 73, 79, 83, 89, 97, 101, 103, 107, 109, 113, 127, 131, 137, 139, 149, 151, 157, 163, 167, 173, 179, 181, 191, 193, 197, 199, 211, 223, 227, 229, 233, 239, 241, 251, 257, 263, 269, 271, 277, 281, 283, 293, 307, 311]
def kTab : List (BitVec 32) := primes.map (rootW cubeB)
def hTab : List (BitVec 32) := (primes.take 8).map (rootW squareB)
theorem primes_length : primes.length = 64 := rfl
theorem kTab_length : kTab.length = 64 := by simp [kTab, primes_length]
theorem hTab_length : hTab.length = 8 := by simp [hTab, primes]
def primesOk : Bool := (List.range 64).all (fun i => primeB (primes.getD i 0) && decide (primes.getD i 0 < 320) && (List.range 320).all (fun q => (decide (q < (if i = 0 then 2 else primes.getD (i - 1) 0 + 1))) || decide (primes.getD i 0 ≤ q) || !primeB q) && decide ((if i = 0 then 2 else primes.getD (i - 1) 0 + 1) ≤ primes.getD i 0))
theorem primes_ok : primesOk = true := by kernel_rfl
/-- from where the i-th prime is looked for -/
def pFrom (i : Nat) : Nat := if i = 0 then 2 else primes.getD (i - 1) 0 + 1
theorem prime_at (i : Nat) (hi : i < 64) : primeB (primes.getD i 0) = true ∧ primes.getD i 0 < 320 ∧ pFrom i ≤ primes.getD i 0 ∧ ∀ q, pFrom i ≤ q → q < primes.getD i 0 → primeB q = false := by
 have h := primes_ok
 unfold primesOk at h
 rw [List.all_eq_true] at h
 have h1 := h i (List.mem_range.2 hi)
 simp only [Bool.and_eq_true, decide_eq_true_eq] at h1
 obtain ⟨⟨⟨a, b⟩, c⟩, d⟩ := h1
 refine ⟨a, b, d, fun q hq1 hq2 => ?_⟩
 rw [List.all_eq_true] at c
 have h2 := c q (List.mem_range.2 (by omega))
 simp only [Bool.or_eq_true, decide_eq_true_eq, Bool.not_eq_true'] at h2
 rcases h2 with (h2 | h2) | h2
 ·unfold pFrom at hq1; omega
 ·omega
 ·exact h2
def w8 (c : UInt8) : BitVec 32 := BitVec.ofNat 32 c.toNat
def wordOf (l : List UInt8) : BitVec 32 := l.foldl (fun x c => x <<< 8 ||| w8 c) 0#32
def mwords (b : List UInt8) : List (BitVec 32) := (List.range 16).map (fun i => wordOf ((b.drop (4 * i)).take 4))
def s0 (x : BitVec 32) : BitVec 32 := (ror x 7 ^^^ ror x 18) ^^^ x >>> 3
def s1 (x : BitVec 32) : BitVec 32 := (ror x 17 ^^^ ror x 19) ^^^ x >>> 10
def wNext (m l : List (BitVec 32)) (k : Nat) : BitVec 32 := if k < 16 then m.getD k 0 else l.getD (k - 16) 0 + s0 (l.getD (k - 15) 0) + l.getD (k - 7) 0 + s1 (l.getD (k - 2) 0)
def schedTo (m : List (BitVec 32)) : Nat → List (BitVec 32)
 | 0 => []
 | k + 1 => schedTo m k ++ [wNext m (schedTo m k) k]
theorem schedTo_length (m : List (BitVec 32)) (k : Nat) : (schedTo m k).length = k := by
 induction k with
 | zero => rfl
 | succ k ih => simp [schedTo, ih]
structure V8 where
 (a b c d e f g h : BitVec 32)
def V8.list (v : V8) : List (BitVec 32) := [v.a, v.b, v.c, v.d, v.e, v.f, v.g, v.h]
def bigS1 (e : BitVec 32) : BitVec 32 := (ror e 6 ^^^ ror e 11) ^^^ ror e 25
def bigS0 (a : BitVec 32) : BitVec 32 := (ror a 2 ^^^ ror a 13) ^^^ ror a 22
def oneV (v : V8) (k w : BitVec 32) : BitVec 32 := v.h + bigS1 v.e + ((v.e &&& v.f) ^^^ (~~~v.e &&& v.g)) + k + w
def twoV (v : V8) : BitVec 32 := bigS0 v.a + (((v.a &&& v.b) ^^^ (v.a &&& v.c)) ^^^ (v.b &&& v.c))
def roundV (v : V8) (k w : BitVec 32) : V8 := ⟨oneV v k w + twoV v, v.a, v.b, v.c, v.d + oneV v k w, v.e, v.f, v.g⟩
def rounds (kt ws : List (BitVec 32)) (v : V8) : Nat → V8
 | 0 => v
 | i + 1 => roundV (rounds kt ws v i) (kt.getD i 0) (ws.getD i 0)
def addV (v r : V8) : V8 := ⟨v.a + r.a, v.b + r.b, v.c + r.c, v.d + r.d, v.e + r.e, v.f + r.f, v.g + r.g, v.h + r.h⟩
/-- a block of 64 bytes is taken -/
def mixV (b : List UInt8) (v : V8) : V8 := addV v (rounds kTab (schedTo (mwords b) 64) v 64)
end Go.Proofs.YtdfahddpkkeldaaGreat

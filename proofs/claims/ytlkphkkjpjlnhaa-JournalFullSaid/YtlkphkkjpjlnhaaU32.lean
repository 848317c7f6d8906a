/- Words of 32 bits as the walk writes them ('u'), and math/bits.RotateLeft32 at the counts that SHA-256 has. -/
import Derived.Test.YtlkphkkjpjlnhaaChecked
import Derived.Test.YtlkphkkjpjlnhaaBitsAnd
namespace Go.Proofs.Ytlkphkkjpjlnhaa
open Go.RowKit

def u (x : BitVec 32) : Int := (x.toNat : Int)
theorem u_lo (x : BitVec 32) : 0 ≤ u x := by unfold u; omega
theorem u_hi (x : BitVec 32) : u x < 4294967296 := by have := x.isLt; unfold u; omega
theorem u_zero : u 0#32 = 0 := rfl
theorem u_ofInt (x : BitVec 32) : BitVec.ofInt 32 (u x) = x := by
  unfold u
  rw [BitVec.ofInt_natCast]
  exact BitVec.eq_of_toNat_eq (by simp)
theorem u_wrap (x : BitVec 32) : IntKind.u32.wrap (x.toNat : Int) = u x := by
  have := x.isLt
  simp only [IntKind.wrap, IntKind.bits, IntKind.signed, u]
  simp
  omega
theorem u_xor (x y : BitVec 32) : bits .xor .u32 (u x) (u y) = u (x ^^^ y) := by
  show IntKind.u32.wrap ((BitVec.ofInt 32 (u x) ^^^ BitVec.ofInt 32 (u y)).toNat : Int) = _
  rw [u_ofInt, u_ofInt, u_wrap]
theorem u_and (x y : BitVec 32) : bits .and .u32 (u x) (u y) = u (x &&& y) := by
  show IntKind.u32.wrap ((BitVec.ofInt 32 (u x) &&& BitVec.ofInt 32 (u y)).toNat : Int) = _
  rw [u_ofInt, u_ofInt, u_wrap]
theorem u_or (x y : BitVec 32) : bits .or .u32 (u x) (u y) = u (x ||| y) := by
  show IntKind.u32.wrap ((BitVec.ofInt 32 (u x) ||| BitVec.ofInt 32 (u y)).toNat : Int) = _
  rw [u_ofInt, u_ofInt, u_wrap]
theorem u_not (x : BitVec 32) : bits .xor .u32 4294967295 (u x) = u (~~~x) := by
  show IntKind.u32.wrap ((BitVec.ofInt 32 4294967295 ^^^ BitVec.ofInt 32 (u x)).toNat : Int) = _
  rw [u_ofInt, u_wrap, show BitVec.ofInt 32 4294967295 = BitVec.allOnes 32 from rfl, BitVec.allOnes_xor]
theorem u_add (x y : BitVec 32) : (u x + u y) % 4294967296 = u (x + y) := by
  unfold u
  rw [BitVec.toNat_add]
  omega
theorem u_addw (x y : BitVec 32) : IntKind.u32.wrap (u x + u y) = u (x + y) := by rw [IntKind.wrap_u32, u_add]
theorem u_notw (x : BitVec 32) : bits .xor .u32 (if IntKind.u32.signed = true then -1 else IntKind.u32.max) (u x) = u (~~~x) := u_not x
theorem u_shl (x : BitVec 32) (k : Nat) : (u x * (2 ^ k : Nat)) % 4294967296 = u (x <<< k) := by
  unfold u
  rw [BitVec.toNat_shiftLeft, Nat.shiftLeft_eq]
  simp
theorem u_shr (x : BitVec 32) (k : Nat) : u x / (2 ^ k : Nat) = u (x >>> k) := by
  unfold u
  rw [BitVec.toNat_ushiftRight, Nat.shiftRight_eq_div_pow]
  simp
/-- turned to the right by k -/
def ror (x : BitVec 32) (k : Nat) : BitVec 32 := x <<< (32 - k) ||| x >>> k
theorem rot7 (x : BitVec 32) (w : World) : Calls Try.prog 58 #[.int .u32 (u x), .int .i64 (-7)] w fun e w' => e = .returned (.int .u32 (u (ror x 7))) ∧ w = w' := by
  have e1 : IntKind.u64.wrap (-7) = 18446744073709551609 := by decide
  have e2 : bits .and .u64 18446744073709551609 31 = 25 := by decide
  have e3 : u x * 33554432 % 4294967296 = u (x <<< 25) := u_shl x 25
  have e4 : u x / 128 = u (x >>> 7) := u_shr x 7
  have e5 := u_or (x <<< 25) (x >>> 7)
  have h1 := u_lo x
  have h2 := u_hi x
  go_enter Try.func58, Try.ntmps58
  go_wp2_with fail
  go_ret
  refine ⟨?_, rfl⟩
  simp [ror, ← e5, ← e3, ← e4]
theorem rot18 (x : BitVec 32) (w : World) : Calls Try.prog 58 #[.int .u32 (u x), .int .i64 (-18)] w fun e w' => e = .returned (.int .u32 (u (ror x 18))) ∧ w = w' := by
  have e1 : IntKind.u64.wrap (-18) = 18446744073709551598 := by decide
  have e2 : bits .and .u64 18446744073709551598 31 = 14 := by decide
  have e3 : u x * 16384 % 4294967296 = u (x <<< 14) := u_shl x 14
  have e4 : u x / 262144 = u (x >>> 18) := u_shr x 18
  have e5 := u_or (x <<< 14) (x >>> 18)
  have h1 := u_lo x
  have h2 := u_hi x
  go_enter Try.func58, Try.ntmps58
  go_wp2_with fail
  go_ret
  refine ⟨?_, rfl⟩
  simp [ror, ← e5, ← e3, ← e4]
theorem rot17 (x : BitVec 32) (w : World) : Calls Try.prog 58 #[.int .u32 (u x), .int .i64 (-17)] w fun e w' => e = .returned (.int .u32 (u (ror x 17))) ∧ w = w' := by
  have e1 : IntKind.u64.wrap (-17) = 18446744073709551599 := by decide
  have e2 : bits .and .u64 18446744073709551599 31 = 15 := by decide
  have e3 : u x * 32768 % 4294967296 = u (x <<< 15) := u_shl x 15
  have e4 : u x / 131072 = u (x >>> 17) := u_shr x 17
  have e5 := u_or (x <<< 15) (x >>> 17)
  have h1 := u_lo x
  have h2 := u_hi x
  go_enter Try.func58, Try.ntmps58
  go_wp2_with fail
  go_ret
  refine ⟨?_, rfl⟩
  simp [ror, ← e5, ← e3, ← e4]
theorem rot19 (x : BitVec 32) (w : World) : Calls Try.prog 58 #[.int .u32 (u x), .int .i64 (-19)] w fun e w' => e = .returned (.int .u32 (u (ror x 19))) ∧ w = w' := by
  have e1 : IntKind.u64.wrap (-19) = 18446744073709551597 := by decide
  have e2 : bits .and .u64 18446744073709551597 31 = 13 := by decide
  have e3 : u x * 8192 % 4294967296 = u (x <<< 13) := u_shl x 13
  have e4 : u x / 524288 = u (x >>> 19) := u_shr x 19
  have e5 := u_or (x <<< 13) (x >>> 19)
  have h1 := u_lo x
  have h2 := u_hi x
  go_enter Try.func58, Try.ntmps58
  go_wp2_with fail
  go_ret
  refine ⟨?_, rfl⟩
  simp [ror, ← e5, ← e3, ← e4]
theorem rot6 (x : BitVec 32) (w : World) : Calls Try.prog 58 #[.int .u32 (u x), .int .i64 (-6)] w fun e w' => e = .returned (.int .u32 (u (ror x 6))) ∧ w = w' := by
  have e1 : IntKind.u64.wrap (-6) = 18446744073709551610 := by decide
  have e2 : bits .and .u64 18446744073709551610 31 = 26 := by decide
  have e3 : u x * 67108864 % 4294967296 = u (x <<< 26) := u_shl x 26
  have e4 : u x / 64 = u (x >>> 6) := u_shr x 6
  have e5 := u_or (x <<< 26) (x >>> 6)
  have h1 := u_lo x
  have h2 := u_hi x
  go_enter Try.func58, Try.ntmps58
  go_wp2_with fail
  go_ret
  refine ⟨?_, rfl⟩
  simp [ror, ← e5, ← e3, ← e4]
theorem rot11 (x : BitVec 32) (w : World) : Calls Try.prog 58 #[.int .u32 (u x), .int .i64 (-11)] w fun e w' => e = .returned (.int .u32 (u (ror x 11))) ∧ w = w' := by
  have e1 : IntKind.u64.wrap (-11) = 18446744073709551605 := by decide
  have e2 : bits .and .u64 18446744073709551605 31 = 21 := by decide
  have e3 : u x * 2097152 % 4294967296 = u (x <<< 21) := u_shl x 21
  have e4 : u x / 2048 = u (x >>> 11) := u_shr x 11
  have e5 := u_or (x <<< 21) (x >>> 11)
  have h1 := u_lo x
  have h2 := u_hi x
  go_enter Try.func58, Try.ntmps58
  go_wp2_with fail
  go_ret
  refine ⟨?_, rfl⟩
  simp [ror, ← e5, ← e3, ← e4]
theorem rot25 (x : BitVec 32) (w : World) : Calls Try.prog 58 #[.int .u32 (u x), .int .i64 (-25)] w fun e w' => e = .returned (.int .u32 (u (ror x 25))) ∧ w = w' := by
  have e1 : IntKind.u64.wrap (-25) = 18446744073709551591 := by decide
  have e2 : bits .and .u64 18446744073709551591 31 = 7 := by decide
  have e3 : u x * 128 % 4294967296 = u (x <<< 7) := u_shl x 7
  have e4 : u x / 33554432 = u (x >>> 25) := u_shr x 25
  have e5 := u_or (x <<< 7) (x >>> 25)
  have h1 := u_lo x
  have h2 := u_hi x
  go_enter Try.func58, Try.ntmps58
  go_wp2_with fail
  go_ret
  refine ⟨?_, rfl⟩
  simp [ror, ← e5, ← e3, ← e4]
theorem rot2 (x : BitVec 32) (w : World) : Calls Try.prog 58 #[.int .u32 (u x), .int .i64 (-2)] w fun e w' => e = .returned (.int .u32 (u (ror x 2))) ∧ w = w' := by
  have e1 : IntKind.u64.wrap (-2) = 18446744073709551614 := by decide
  have e2 : bits .and .u64 18446744073709551614 31 = 30 := by decide
  have e3 : u x * 1073741824 % 4294967296 = u (x <<< 30) := u_shl x 30
  have e4 : u x / 4 = u (x >>> 2) := u_shr x 2
  have e5 := u_or (x <<< 30) (x >>> 2)
  have h1 := u_lo x
  have h2 := u_hi x
  go_enter Try.func58, Try.ntmps58
  go_wp2_with fail
  go_ret
  refine ⟨?_, rfl⟩
  simp [ror, ← e5, ← e3, ← e4]
theorem rot13 (x : BitVec 32) (w : World) : Calls Try.prog 58 #[.int .u32 (u x), .int .i64 (-13)] w fun e w' => e = .returned (.int .u32 (u (ror x 13))) ∧ w = w' := by
  have e1 : IntKind.u64.wrap (-13) = 18446744073709551603 := by decide
  have e2 : bits .and .u64 18446744073709551603 31 = 19 := by decide
  have e3 : u x * 524288 % 4294967296 = u (x <<< 19) := u_shl x 19
  have e4 : u x / 8192 = u (x >>> 13) := u_shr x 13
  have e5 := u_or (x <<< 19) (x >>> 13)
  have h1 := u_lo x
  have h2 := u_hi x
  go_enter Try.func58, Try.ntmps58
  go_wp2_with fail
  go_ret
  refine ⟨?_, rfl⟩
  simp [ror, ← e5, ← e3, ← e4]
theorem rot22 (x : BitVec 32) (w : World) : Calls Try.prog 58 #[.int .u32 (u x), .int .i64 (-22)] w fun e w' => e = .returned (.int .u32 (u (ror x 22))) ∧ w = w' := by
  have e1 : IntKind.u64.wrap (-22) = 18446744073709551594 := by decide
  have e2 : bits .and .u64 18446744073709551594 31 = 10 := by decide
  have e3 : u x * 1024 % 4294967296 = u (x <<< 10) := u_shl x 10
  have e4 : u x / 4194304 = u (x >>> 22) := u_shr x 22
  have e5 := u_or (x <<< 10) (x >>> 22)
  have h1 := u_lo x
  have h2 := u_hi x
  go_enter Try.func58, Try.ntmps58
  go_wp2_with fail
  go_ret
  refine ⟨?_, rfl⟩
  simp [ror, ← e5, ← e3, ← e4]
end Go.Proofs.Ytlkphkkjpjlnhaa

/- Words of 32 bits as the walk writes them ('u'), and math/bits.RotateLeft32 at the counts that SHA-256 has. -/
import Derived.Test.YtpkhjdhbkkepgaaChecked
import Derived.Test.YtpkhjdhbkkepgaaBase
import Derived.Test.YtpkhjdhbkkepgaaBytes
namespace Go.Proofs.Ytpkhjdhbkkepgaa
open Go.RowKit

def u (x : BitVec 32) : Int := (x.toNat : Int)
theorem u_lo (x : BitVec 32) : 0 ≤ u x := by unfold u; omega
theorem u_hi (x : BitVec 32) : u x < 4294967296 := by have := x.isLt; unfold u; omega
theorem u_zero : u 0#32 = 0 := rfl
theorem u_ofInt (x : BitVec 32) : BitVec.ofInt 32 (u x) = x := by
  unfold u
  rw [BitVec.ofInt_natCast]
  exact BitVec.eq_of_toNat_eq (by simp)
theorem u_wrap (x : BitVec 32) : IntKind.u32.wrap (x.toNat : Int) = u x := by
  have := x.isLt
  simp only [IntKind.wrap, IntKind.bits, IntKind.signed, u]
  simp
  omega
theorem u_xor (x y : BitVec 32) : bits .xor .u32 (u x) (u y) = u (x ^^^ y) := by
  show IntKind.u32.wrap ((BitVec.ofInt 32 (u x) ^^^ BitVec.ofInt 32 (u y)).toNat : Int) = _
  rw [u_ofInt, u_ofInt, u_wrap]
theorem u_and (x y : BitVec 32) : bits .and .u32 (u x) (u y) = u (x &&& y) := by
  show IntKind.u32.wrap ((BitVec.ofInt 32 (u x) &&& BitVec.ofInt 32 (u y)).toNat : Int) = _
  rw [u_ofInt, u_ofInt, u_wrap]
theorem u_or (x y : BitVec 32) : bits .or .u32 (u x) (u y) = u (x ||| y) := by
  show IntKind.u32.wrap ((BitVec.ofInt 32 (u x) ||| BitVec.ofInt 32 (u y)).toNat : Int) = _
  rw [u_ofInt, u_ofInt, u_wrap]
theorem u_not (x : BitVec 32) : bits .xor .u32 4294967295 (u x) = u (~~~x) := by
  show IntKind.u32.wrap ((BitVec.ofInt 32 4294967295 ^^^ BitVec.ofInt 32 (u x)).toNat : Int) = _
  rw [u_ofInt, u_wrap, show BitVec.ofInt 32 4294967295 = BitVec.allOnes 32 from rfl, BitVec.allOnes_xor]
theorem u_add (x y : BitVec 32) : (u x + u y) % 4294967296 = u (x + y) := by
  unfold u
  rw [BitVec.toNat_add]
  omega
theorem u_addw (x y : BitVec 32) : IntKind.u32.wrap (u x + u y) = u (x + y) := by rw [IntKind.wrap_u32, u_add]
theorem u_notw (x : BitVec 32) : bits .xor .u32 (if IntKind.u32.signed = true then -1 else IntKind.u32.max) (u x) = u (~~~x) := u_not x
theorem u_shl (x : BitVec 32) (k : Nat) : (u x * (2 ^ k : Nat)) % 4294967296 = u (x <<< k) := by
  unfold u
  rw [BitVec.toNat_shiftLeft, Nat.shiftLeft_eq]
  simp
theorem u_shr (x : BitVec 32) (k : Nat) : u x / (2 ^ k : Nat) = u (x >>> k) := by
  unfold u
  rw [BitVec.toNat_ushiftRight, Nat.shiftRight_eq_div_pow]
  simp
/-- turned to the right by k -/
def ror (x : BitVec 32) (k : Nat) : BitVec 32 := x <<< (32 - k) ||| x >>> k
end Go.Proofs.Ytpkhjdhbkkepgaa

/- Package sha: a number's bytes are laid. -/
namespace Go.Proofs.Ytpkhjdhbkkepgaa
open Go.RowKit

def byteAt (n k : Nat) : UInt8 := UInt8.ofNat (n / 2 ^ (8 * k))
/-- the first c bytes of so many -/
def layC (n size c : Nat) : List UInt8 := (List.range c).map (fun j => byteAt n (size - 1 - j))
theorem layC_succ (n size c : Nat) : layC n size (c + 1) = layC n size c ++ [byteAt n (size - 1 - c)] := by simp [layC, List.range_succ]
theorem layC_length (n size c : Nat) : (layC n size c).length = c := by simp [layC]
theorem byteAt_nat (n k : Nat) : ((byteAt n k).toNat : Int) = ((n / 2 ^ (8 * k) % 256 : Nat) : Int) := by simp [byteAt]
theorem row_one {w : World} (b : UInt8) (g : Nat) (hg : w.heap.size = g) : IsRow (· = g) (w.alloc (.cells #[.int .u8 b.toNat] 5)) (.slice (some ⟨g, 0, none⟩) 1 1) (bys [b]) := by
  subst hg
  have h : (w.alloc (.cells #[.int .u8 b.toNat] 5)).heap[w.heap.size]? = some (.cells (bys [b]).toArray 5 (0, 0)) := heap_alloc_new w _
  exact IsRow.ofBlock (S := (· = w.heap.size)) h rfl 1 1 rfl
end Go.Proofs.Ytpkhjdhbkkepgaa

/- And with a mask of low bits, at int. -/
import Derived.Test.YtpkhjdhbkkepgaaChecked
import Derived.Test.YtpkhjdhbkkepgaaBase
namespace Go.Proofs.Ytpkhjdhbkkepgaa
open Go.RowKit

theorem and_low (j m : Nat) (hj : j ≤ 62) (hm : m = 2 ^ j - 1) (x : Int) : bits .and .i64 x (m : Int) = x % (2 ^ j : Nat) := by
  subst hm
  have h62 : 2 ^ j ≤ 2 ^ 62 := Nat.pow_le_pow_right (by omega) hj
  have hdvd : (2 : Nat) ^ j ∣ 2 ^ 64 := Nat.pow_dvd_pow 2 (by omega)
  have hpos : 0 < 2 ^ j := Nat.pos_of_ne_zero (by simp)
  generalize hp : 2 ^ j = p at *
  have h1 : (BitVec.ofInt 64 x &&& BitVec.ofInt 64 ((p - 1 : Nat) : Int)).toNat = (x % (p : Nat)).toNat := by
    rw [BitVec.toNat_and, BitVec.toNat_ofInt, BitVec.toNat_ofInt]
    have h2 : (((p - 1 : Nat) : Int) % ((2 ^ 64 : Nat) : Int)).toNat = 2 ^ j - 1 := by
      rw [Int.emod_eq_of_lt (by omega) (by omega), Int.toNat_natCast, hp]
    rw [h2, Nat.and_two_pow_sub_one_eq_mod, hp]
    have h3 : ((x % ((2 ^ 64 : Nat) : Int)).toNat % p : Nat) = ((x % ((2 ^ 64 : Nat) : Int)) % (p : Int)).toNat := by
      rw [Int.toNat_emod (Int.emod_nonneg _ (by omega)) (by omega), Int.toNat_natCast]
    rw [h3, Int.emod_emod_of_dvd x (Int.natCast_dvd_natCast.2 hdvd)]
  show IntKind.i64.wrap ((BitVec.ofInt 64 x &&& BitVec.ofInt 64 ((p - 1 : Nat) : Int)).toNat : Int) = x % (p : Int)
  rw [h1]
  have h4 : 0 ≤ x % (p : Int) := Int.emod_nonneg _ (by omega)
  have h5 : x % (p : Int) < p := Int.emod_lt_of_pos _ (by omega)
  rw [Int.toNat_of_nonneg h4]
  generalize x % (p : Int) = y at h4 h5
  simp only [IntKind.wrap, IntKind.bits, IntKind.signed]
  simp
  omega
theorem and15 (x : Int) : bits .and .i64 x 15 = x % 16 := and_low 4 15 (by omega) rfl x
theorem and3 (x : Int) : bits .and .i64 x 3 = x % 4 := and_low 2 3 (by omega) rfl x
theorem and1 (x : Int) : bits .and .i64 x 1 = x % 2 := and_low 1 1 (by omega) rfl x
end Go.Proofs.Ytpkhjdhbkkepgaa

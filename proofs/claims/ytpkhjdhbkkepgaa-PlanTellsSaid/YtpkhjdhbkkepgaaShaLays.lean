/- Package sha: a number's bytes are laid. -/
import Derived.Test.YtpkhjdhbkkepgaaBytes
import Derived.Test.YtpkhjdhbkkepgaaU32
namespace Go.Proofs.Ytpkhjdhbkkepgaa
open Go.RowKit

def byteAt (n k : Nat) : UInt8 := UInt8.ofNat (n / 2 ^ (8 * k))
/-- the first c bytes of so many -/
def layC (n size c : Nat) : List UInt8 := (List.range c).map (fun j => byteAt n (size - 1 - j))
theorem layC_succ (n size c : Nat) : layC n size (c + 1) = layC n size c ++ [byteAt n (size - 1 - c)] := by simp [layC, List.range_succ]
theorem layC_length (n size c : Nat) : (layC n size c).length = c := by simp [layC]
theorem byteAt_nat (n k : Nat) : ((byteAt n k).toNat : Int) = ((n / 2 ^ (8 * k) % 256 : Nat) : Int) := by simp [byteAt]
theorem row_one {w : World} (b : UInt8) (g : Nat) (hg : w.heap.size = g) : IsRow (· = g) (w.alloc (.cells #[.int .u8 b.toNat] 5)) (.slice (some ⟨g, 0, none⟩) 1 1) (bys [b]) := by
  subst hg
  have h : (w.alloc (.cells #[.int .u8 b.toNat] 5)).heap[w.heap.size]? = some (.cells (bys [b]).toArray 5 (0, 0)) := heap_alloc_new w _
  exact IsRow.ofBlock (S := (· = w.heap.size)) h rfl 1 1 rfl
end Go.Proofs.Ytpkhjdhbkkepgaa

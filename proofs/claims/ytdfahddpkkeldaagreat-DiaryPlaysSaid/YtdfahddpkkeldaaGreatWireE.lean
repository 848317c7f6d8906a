/- wire's writer, with its error: any number, any text, Done. -/
import Derived.Test.YtdfahddpkkeldaaGreatWireB
import Derived.Test.YtdfahddpkkeldaaGreatNb
import Derived.Test.YtdfahddpkkeldaaGreatBytesB
namespace Go.Proofs.YtdfahddpkkeldaaGreat
open Go.RowKit
/-- a writer at block b, all of it at blocks of S: it has written l; er: its error -/
structure IsEncE (S : Nat → Prop) (w : World) (b : Nat) (l : List UInt8) (er : Int) : Prop where
 lo : S b
 ex : ∃ p q, w.heap[b]? = some (.cells #[.slice p l.length q, .int .i64 er] 168 (0, 0)) ∧ IsVec (fun k => S k ∧ k ≠ b) w 5 1 (.slice p l.length q) l.length (bys l)
theorem IsEncE.mono {S T : Nat → Prop} {w : World} {b : Nat} {l : List UInt8} {er : Int} (h : IsEncE S w b l er) (hs : ∀ k, k < w.heap.size → S k → T k) : IsEncE T w b l er := by
 obtain ⟨p, q, h1, h2⟩ := h.ex
 exact ⟨hs b (heap_lt h1) h.lo, p, q, h1, h2.mono (fun k hk h => ⟨hs k hk h.1, h.2⟩)⟩
theorem IsEncE.mod {S T : Nat → Prop} {w w' : World} {b : Nat} {l : List UInt8} {er : Int} (h : IsEncE S w b l er) (m : Mod T w w') (hs : ∀ k, k < w.heap.size → S k → ¬ T k) : IsEncE S w' b l er := by
 obtain ⟨p, q, h1, h2⟩ := h.ex
 exact ⟨h.lo, p, q, (m.block b (heap_lt h1) (hs b (heap_lt h1) h.lo)).trans h1, h2.mod m (fun k hk h => hs k hk h.1)⟩
theorem IsEncE.modNil {S : Nat → Prop} {w w' : World} {b : Nat} {l : List UInt8} {er : Int} (h : IsEncE S w b l er) (m : Mod nil w w') : IsEncE S w' b l er := h.mod m (fun _ _ _ h => h)
theorem IsEncE.lt {S : Nat → Prop} {w : World} {b : Nat} {l : List UInt8} {er : Int} (h : IsEncE S w b l er) : b < w.heap.size := by
 obtain ⟨p, q, h1, h2⟩ := h.ex
 exact heap_lt h1
theorem IsEncE.ok {S : Nat → Prop} {w : World} {b : Nat} {l : List UInt8} (h : IsEncE S w b l 0) : IsEncS S w b l := ⟨h.lo, h.ex⟩
theorem IsEncS.e {S : Nat → Prop} {w : World} {b : Nat} {l : List UInt8} (h : IsEncS S w b l) : IsEncE S w b l 0 := ⟨h.lo, h.ex⟩
theorem IsEnc.e {B : Nat} {w : World} {b : Nat} {l : List UInt8} (h : IsEnc B w b l) : IsEncE (fun k => B ≤ k) w b l 0 := h.wide.e
/-- does a number go into so many bytes? -/
def fitsN (n : Int) (size : Nat) : Prop := 0 ≤ n ∧ n ≤ 4611686018427387904 ∧ n.toNat < 2 ^ (8 * size)
instance (n : Int) (size : Nat) : Decidable (fitsN n size) := inferInstanceAs (Decidable (_ ∧ _))
end Go.Proofs.YtdfahddpkkeldaaGreat

/- A range over a function, in a function that is called from anywhere: what a walk wants beside the kit's law. -/
import Derived.RangeFuncFrom
import Derived.Test.YtdfahddpkkeldaaGreatChunk
namespace Go.Proofs.YtdfahddpkkeldaaGreat
open Go.RowKit
/-- a fact on blocks below B is kept by what the loop's own books turn -/
theorem ownFrom_of {β : Type} {B : Nat} {I : β → World → Prop} (h : ∀ s W W', I s W → Mod (fun k => B ≤ k) W W' → I s W') : OwnFrom B I := fun s W W' _ hs hg hr =>
 h s W W' hs ⟨hg.os, hg.tape, hg.output, hg.size, fun k hk hn => hg.block k hk (fun e => hn (hr k e.symm).1)⟩
theorem mod_putObj {S : Nat → Prop} (W : World) (l : Nat) (o' : Obj) (hS : S l) : Mod S W (W.putObj l o') := by
 have hg := grownBy_putObj' W l o'
 exact ⟨hg.os, hg.tape, hg.output, hg.size, fun k hk hn => hg.block k hk (fun e => by cases e; exact hn hS)⟩
theorem keepsOthers_of {S : Nat → Prop} {W W' : World} (m : Mod S W W') (h : ∀ k o, S k → W.heap[k]? = some o → o.isCells = true) : KeepsOthers W W' :=
 ⟨m.size, fun k o ho hc => (m.block k (heap_lt ho) (fun hs => by rw [h k o hs ho] at hc; cases hc)).trans ho⟩
/-- a function whose body holds a range over a function -/
theorem calls_over {P : Program} {f : FuncId} {fn : Func} {c : Code} {args : Array Value} {w : World} {R : Ending → World → Prop} (hf : P.funcs[f]? = some fn) (hb : fn.body = some c)
  (h : c.wp P (bodyPostM Fence.wide 9 P fn R) { tmps := args ++ Array.replicate (fn.ntmps - args.size) undef, defers := [] } w) : Calls P f args w R :=
 callsIn_wide.1 (callsIn_of_wp_marks hf hb trivial (wpIn_wide.2 h) rfl)
theorem IsVec.own {S : Nat → Prop} {w : World} {E : TypeId} {sz n : Nat} {v : Value} {xs : List Value} (h : IsVec S w E sz v n xs) : IsVec (fun k => v.ownBlock = some k) w E sz v n xs := ⟨h.1, fun _ h => h⟩
end Go.Proofs.YtdfahddpkkeldaaGreat

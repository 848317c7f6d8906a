/- TradeSides: the walk. -/
import Derived.Test.YtdpaklpaanojpaaSides0
import Derived.Test.YtdpaklpaanojpaaSides1
import Derived.Test.YtdpaklpaanojpaaSides2
import Derived.Test.YtdpaklpaanojpaaSides3
namespace Go.Proofs.Ytdpaklpaanojpaa
open Go.RowKit

theorem walkTradeSides (v0 v1 v2 : Value) (W : World) (r0 : Rd W 31 v0) (r1 : Rd W 3 v1) (r2 : Rd W 4 v2) :
    Calls Try.prog 5 #[v0, v1, v2] W fun e w' => e = .returned (.bool true) ∧ Below W.heap.size W w' := by
  obtain ⟨⟨t1, t2, t3, t4, t5, t6, t7⟩, rfl⟩ := r0.trade
  obtain ⟨fl, rfl, -⟩ := r1.int Try.underlying3
  obtain ⟨sw, rfl⟩ := r2.bool Try.underlying4
  clear r0 r1 r2
  have h := and3 fl
  have hy : bits .and .i64 fl 3 = 0 ∨ bits .and .i64 fl 3 = 1 ∨ bits .and .i64 fl 3 = 2 ∨ bits .and .i64 fl 3 = 3 := by omega
  rcases hy with hy | hy | hy | hy
  · exact sides_0 t1 t2 t3 t4 t5 t6 t7 fl sw W hy
  · exact sides_1 t1 t2 t3 t4 t5 t6 t7 fl sw W hy
  · exact sides_2 t1 t2 t3 t4 t5 t6 t7 fl sw W hy
  · exact sides_3 t1 t2 t3 t4 t5 t6 t7 fl sw W hy
end Go.Proofs.Ytdpaklpaanojpaa

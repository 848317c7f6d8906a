/-
  No cell of these rows narrows 'for every input' (looked for: loops, veiled, ifaces, maps, wideKeys, modest, calm, conditions, laid).
  DERIVED. THE GIVEN ROWS OF THIS SEAT. 5 by the template 'for every input the law returns true; each argument reads behind the call as it read before'; 0 by the template 'total and deterministic' (their statements: YtpkhjdhbkkepgaaTotals.lean).
  GIVEN WITH THE SEED: the statements are not yours to turn. If you find one false, say at which input.
  Laid BY PROGRAM, IN A SANDBOX (cutbox-rows.mjs): the forced cells as the released guide's own fill.sh prints them over the translation e6db2aa107d4b80d… (all of the seat's roots in one cut). By AI agents, Wed Nov 11 2026. No macro, syntax, notation, axiom, sorry.
-/
import Derived.Test.YtpkhjdhbkkepgaaChecked
import GoSem.Claim
import GoSem.ClaimJoined
import GoSem.ClaimMapViews
import Derived.JoinedTies
import Derived.KernelRfl
namespace Go.Proofs.Ytpkhjdhbkkepgaa
/- THE CELL 'sum', in the pinned program and in every row, IS THE sha256 OF THE DUMP (.gsa) THAT YtpkhjdhbkkepgaaProg.lean LOADS. Nothing in Lean hashes anything: it is a label: what it is worth is what the hold of that sum in a sandbox is worth. -/
noncomputable def Try.pinned : Pinned := { name := "ytpkhjdhbkkepgaa", sum := "e6db2aa107d4b80d1637112885c07d9da07bc684210712135cab163e7d4f5dac", checked := Try.checked }
namespace Rows
def none {H : Type} : Left H := { results := [], args := [] }

/-- 'cfllaw21.PlanMade': WHATEVER THE INPUT: true; the input reads as it did. -/
def planMadeSpec : ChangeSpec := { name := "planMade", fn := fun _ => fun
  | [d1, d2, d3, d4, d5] => { results := [.lit (.bool true)], args := [d1, d2, d3, d4, d5] }
  | _ => none }
def planMadeRow : OpenClaim := { program := "ytpkhjdhbkkepgaa", sum := "e6db2aa107d4b80d1637112885c07d9da07bc684210712135cab163e7d4f5dac", func := "counterfoil/cfllaw21.PlanMade", spec := "planMade", unfollowed := true, recurses := true, apart := false }
def PlanMadeSaid : Prop := planMadeRow.holds Try.pinned (OpenSpec.ofChange planMadeSpec)

/-- ITS FALSE NEIGHBOUR: 'it returns false'. Refute it at one input. -/
def planMadeWrong : ChangeSpec := { name := "planMade", fn := fun _ => fun
  | [d1, d2, d3, d4, d5] => { results := [.lit (.bool false)], args := [d1, d2, d3, d4, d5] }
  | _ => none }
def PlanMadeWrongFalsely : Prop := planMadeRow.holds Try.pinned (OpenSpec.ofChange planMadeWrong)

/-- 'cfllaw21.PlanOdd': WHATEVER THE INPUT: true; the input reads as it did. -/
def planOddSpec : ChangeSpec := { name := "planOdd", fn := fun _ => fun
  | [d1, d2, d3] => { results := [.lit (.bool true)], args := [d1, d2, d3] }
  | _ => none }
def planOddRow : OpenClaim := { program := "ytpkhjdhbkkepgaa", sum := "e6db2aa107d4b80d1637112885c07d9da07bc684210712135cab163e7d4f5dac", func := "counterfoil/cfllaw21.PlanOdd", spec := "planOdd", unfollowed := true, recurses := true, apart := false }
def PlanOddSaid : Prop := planOddRow.holds Try.pinned (OpenSpec.ofChange planOddSpec)

/-- ITS FALSE NEIGHBOUR: 'it returns false'. Refute it at one input. -/
def planOddWrong : ChangeSpec := { name := "planOdd", fn := fun _ => fun
  | [d1, d2, d3] => { results := [.lit (.bool false)], args := [d1, d2, d3] }
  | _ => none }
def PlanOddWrongFalsely : Prop := planOddRow.holds Try.pinned (OpenSpec.ofChange planOddWrong)

/-- 'cfllaw21.PlanTells': WHATEVER THE INPUT: true; the input reads as it did. -/
def planTellsSpec : ChangeSpec := { name := "planTells", fn := fun _ => fun
  | [d1, d2, d3, d4, d5, d6, d7] => { results := [.lit (.bool true)], args := [d1, d2, d3, d4, d5, d6, d7] }
  | _ => none }
def planTellsRow : OpenClaim := { program := "ytpkhjdhbkkepgaa", sum := "e6db2aa107d4b80d1637112885c07d9da07bc684210712135cab163e7d4f5dac", func := "counterfoil/cfllaw21.PlanTells", spec := "planTells", unfollowed := true, recurses := true, apart := false }
def PlanTellsSaid : Prop := planTellsRow.holds Try.pinned (OpenSpec.ofChange planTellsSpec)

/-- ITS FALSE NEIGHBOUR: 'it returns false'. Refute it at one input. -/
def planTellsWrong : ChangeSpec := { name := "planTells", fn := fun _ => fun
  | [d1, d2, d3, d4, d5, d6, d7] => { results := [.lit (.bool false)], args := [d1, d2, d3, d4, d5, d6, d7] }
  | _ => none }
def PlanTellsWrongFalsely : Prop := planTellsRow.holds Try.pinned (OpenSpec.ofChange planTellsWrong)

/-- 'cfllaw21.PlanChecks': WHATEVER THE INPUT: true; the input reads as it did. -/
def planChecksSpec : ChangeSpec := { name := "planChecks", fn := fun _ => fun
  | [d1, d2, d3, d4, d5, d6] => { results := [.lit (.bool true)], args := [d1, d2, d3, d4, d5, d6] }
  | _ => none }
def planChecksRow : OpenClaim := { program := "ytpkhjdhbkkepgaa", sum := "e6db2aa107d4b80d1637112885c07d9da07bc684210712135cab163e7d4f5dac", func := "counterfoil/cfllaw21.PlanChecks", spec := "planChecks", unfollowed := true, recurses := true, apart := false }
def PlanChecksSaid : Prop := planChecksRow.holds Try.pinned (OpenSpec.ofChange planChecksSpec)

/-- ITS FALSE NEIGHBOUR: 'it returns false'. Refute it at one input. -/
def planChecksWrong : ChangeSpec := { name := "planChecks", fn := fun _ => fun
  | [d1, d2, d3, d4, d5, d6] => { results := [.lit (.bool false)], args := [d1, d2, d3, d4, d5, d6] }
  | _ => none }
def PlanChecksWrongFalsely : Prop := planChecksRow.holds Try.pinned (OpenSpec.ofChange planChecksWrong)

/-- 'cfllaw21.PlanLadder': WHATEVER THE INPUT: true; the input reads as it did. -/
def planLadderSpec : ChangeSpec := { name := "planLadder", fn := fun _ => fun
  | [d1, d2, d3, d4, d5, d6] => { results := [.lit (.bool true)], args := [d1, d2, d3, d4, d5, d6] }
  | _ => none }
def planLadderRow : OpenClaim := { program := "ytpkhjdhbkkepgaa", sum := "e6db2aa107d4b80d1637112885c07d9da07bc684210712135cab163e7d4f5dac", func := "counterfoil/cfllaw21.PlanLadder", spec := "planLadder", unfollowed := true, recurses := true, apart := false }
def PlanLadderSaid : Prop := planLadderRow.holds Try.pinned (OpenSpec.ofChange planLadderSpec)

/-- ITS FALSE NEIGHBOUR: 'it returns false'. Refute it at one input. -/
def planLadderWrong : ChangeSpec := { name := "planLadder", fn := fun _ => fun
  | [d1, d2, d3, d4, d5, d6] => { results := [.lit (.bool false)], args := [d1, d2, d3, d4, d5, d6] }
  | _ => none }
def PlanLadderWrongFalsely : Prop := planLadderRow.holds Try.pinned (OpenSpec.ofChange planLadderWrong)

/- THE SECOND FORM. 'bulk': how many values and letters a reading holds, each counted each time it is reached (what is shared counts as often as it is met; a slice's spare places count too). A statement '..UptoSaid' is the law's where the arguments, and the package variables that the reading takes, are together of bulk at most 1048576: NARROWER than '..Said'. Prove '..Said' where nothing that the law and all that it calls make is longer than what came in: it says more and counts as full. Else prove '..UptoSaid'. A law counts once. -/
mutual
def uptoBulk {H : Type} : DataW H → Nat
  | .lit (.string bytes) => bytes.length + 1
  | .lit _ => 1
  | .nil => 1
  | .ptr d => uptoBulk d + 1
  | .slice elems spare => uptoBulkAll elems + uptoBulkAll spare + 1
  | .agg parts => uptoBulkAll parts + 1
  | .iface _ d => uptoBulk d + 1
  | .map entries => uptoBulkEntries entries + 1
  | .held _ => 1
def uptoBulkAll {H : Type} : List (DataW H) → Nat
  | [] => 0
  | d :: r => uptoBulk d + uptoBulkAll r
def uptoBulkEntries {H : Type} : List (Lit × DataW H) → Nat
  | [] => 0
  | x :: r => uptoBulkEntry x + uptoBulkEntries r
def uptoBulkEntry {H : Type} : Lit × DataW H → Nat
  | (.string bytes, d) => bytes.length + uptoBulk d + 1
  | (_, d) => uptoBulk d + 1
 end
def uptoSmall : (H : Type) → List (DataW H) → Bool := fun _ ds => decide (uptoBulkAll ds ≤ 1048576)
def OpenSpec.upto (s : _root_.Go.ChangeSpec) : _root_.Go.OpenSpec := { _root_.Go.OpenSpec.ofChange s with cond := some uptoSmall }

/-- 'cfllaw21.PlanMade', WHERE WHAT IT READS IS OF BULK AT MOST 1048576: true; the input reads as it did. -/
def planMadeUptoRow : OpenClaim := { program := "ytpkhjdhbkkepgaa", sum := "e6db2aa107d4b80d1637112885c07d9da07bc684210712135cab163e7d4f5dac", func := "counterfoil/cfllaw21.PlanMade", spec := "planMade", unfollowed := true, recurses := true, apart := false, narrowed := true }
def PlanMadeUptoSaid : Prop := planMadeUptoRow.holds Try.pinned (OpenSpec.upto planMadeSpec)

/-- 'cfllaw21.PlanOdd', WHERE WHAT IT READS IS OF BULK AT MOST 1048576: true; the input reads as it did. -/
def planOddUptoRow : OpenClaim := { program := "ytpkhjdhbkkepgaa", sum := "e6db2aa107d4b80d1637112885c07d9da07bc684210712135cab163e7d4f5dac", func := "counterfoil/cfllaw21.PlanOdd", spec := "planOdd", unfollowed := true, recurses := true, apart := false, narrowed := true }
def PlanOddUptoSaid : Prop := planOddUptoRow.holds Try.pinned (OpenSpec.upto planOddSpec)

/-- 'cfllaw21.PlanTells', WHERE WHAT IT READS IS OF BULK AT MOST 1048576: true; the input reads as it did. -/
def planTellsUptoRow : OpenClaim := { program := "ytpkhjdhbkkepgaa", sum := "e6db2aa107d4b80d1637112885c07d9da07bc684210712135cab163e7d4f5dac", func := "counterfoil/cfllaw21.PlanTells", spec := "planTells", unfollowed := true, recurses := true, apart := false, narrowed := true }
def PlanTellsUptoSaid : Prop := planTellsUptoRow.holds Try.pinned (OpenSpec.upto planTellsSpec)

/-- 'cfllaw21.PlanChecks', WHERE WHAT IT READS IS OF BULK AT MOST 1048576: true; the input reads as it did. -/
def planChecksUptoRow : OpenClaim := { program := "ytpkhjdhbkkepgaa", sum := "e6db2aa107d4b80d1637112885c07d9da07bc684210712135cab163e7d4f5dac", func := "counterfoil/cfllaw21.PlanChecks", spec := "planChecks", unfollowed := true, recurses := true, apart := false, narrowed := true }
def PlanChecksUptoSaid : Prop := planChecksUptoRow.holds Try.pinned (OpenSpec.upto planChecksSpec)

/-- 'cfllaw21.PlanLadder', WHERE WHAT IT READS IS OF BULK AT MOST 1048576: true; the input reads as it did. -/
def planLadderUptoRow : OpenClaim := { program := "ytpkhjdhbkkepgaa", sum := "e6db2aa107d4b80d1637112885c07d9da07bc684210712135cab163e7d4f5dac", func := "counterfoil/cfllaw21.PlanLadder", spec := "planLadder", unfollowed := true, recurses := true, apart := false, narrowed := true }
def PlanLadderUptoSaid : Prop := planLadderUptoRow.holds Try.pinned (OpenSpec.upto planLadderSpec)

end Rows
end Go.Proofs.Ytpkhjdhbkkepgaa

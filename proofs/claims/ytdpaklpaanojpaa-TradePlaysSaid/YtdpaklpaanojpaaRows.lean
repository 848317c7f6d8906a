/-
  No cell of these rows narrows 'for every input' (looked for: loops, veiled, ifaces, maps, wideKeys, modest, calm, conditions, laid).
  DERIVED. THE GIVEN ROWS OF THIS SEAT. 4 by the template 'for every input the law returns true; each argument reads behind the call as it read before'; 0 by the template 'total and deterministic' (their statements: YtdpaklpaanojpaaTotals.lean).
  GIVEN WITH THE SEED: the statements are not yours to turn. If you find one false, say at which input.
  Laid BY PROGRAM, IN A SANDBOX (cutbox-rows.mjs): the forced cells as the released guide's own fill.sh prints them over the translation ff157fb4ad7f84a5… (all of the seat's roots in one cut). By AI agents, Wed Nov 11 2026. No macro, syntax, notation, axiom, sorry.
-/
import Derived.Test.YtdpaklpaanojpaaChecked
import GoSem.Claim
import GoSem.ClaimJoined
import GoSem.ClaimMapViews
import Derived.JoinedTies
import Derived.KernelRfl
namespace Go.Proofs.Ytdpaklpaanojpaa
/- THE CELL 'sum', in the pinned program and in every row, IS THE sha256 OF THE DUMP (.gsa) THAT YtdpaklpaanojpaaProg.lean LOADS. Nothing in Lean hashes anything: it is a label: what it is worth is what the hold of that sum in a sandbox is worth. -/
noncomputable def Try.pinned : Pinned := { name := "ytdpaklpaanojpaa", sum := "ff157fb4ad7f84a5ff5f127197136d1005ba8d6c4052315d317e4e614aa6b292", checked := Try.checked }
namespace Rows
def none {H : Type} : Left H := { results := [], args := [] }

/-- 'cfllaw18.TradeBoth': WHATEVER THE INPUT: true; the input reads as it did. -/
def tradeBothSpec : ChangeSpec := { name := "tradeBoth", fn := fun _ => fun
  | [d1, d2, d3, d4] => { results := [.lit (.bool true)], args := [d1, d2, d3, d4] }
  | _ => none }
def tradeBothRow : OpenClaim := { program := "ytdpaklpaanojpaa", sum := "ff157fb4ad7f84a5ff5f127197136d1005ba8d6c4052315d317e4e614aa6b292", func := "counterfoil/cfllaw18.TradeBoth", spec := "tradeBoth", unfollowed := true, recurses := true, apart := false }
def TradeBothSaid : Prop := tradeBothRow.holds Try.pinned (OpenSpec.ofChange tradeBothSpec)

/-- ITS FALSE NEIGHBOUR: 'it returns false'. Refute it at one input. -/
def tradeBothWrong : ChangeSpec := { name := "tradeBoth", fn := fun _ => fun
  | [d1, d2, d3, d4] => { results := [.lit (.bool false)], args := [d1, d2, d3, d4] }
  | _ => none }
def TradeBothWrongFalsely : Prop := tradeBothRow.holds Try.pinned (OpenSpec.ofChange tradeBothWrong)

/-- 'cfllaw18.TradePlays': WHATEVER THE INPUT: true; the input reads as it did. -/
def tradePlaysSpec : ChangeSpec := { name := "tradePlays", fn := fun _ => fun
  | [d1, d2, d3, d4] => { results := [.lit (.bool true)], args := [d1, d2, d3, d4] }
  | _ => none }
def tradePlaysRow : OpenClaim := { program := "ytdpaklpaanojpaa", sum := "ff157fb4ad7f84a5ff5f127197136d1005ba8d6c4052315d317e4e614aa6b292", func := "counterfoil/cfllaw18.TradePlays", spec := "tradePlays", unfollowed := true, recurses := true, apart := false }
def TradePlaysSaid : Prop := tradePlaysRow.holds Try.pinned (OpenSpec.ofChange tradePlaysSpec)

/-- ITS FALSE NEIGHBOUR: 'it returns false'. Refute it at one input. -/
def tradePlaysWrong : ChangeSpec := { name := "tradePlays", fn := fun _ => fun
  | [d1, d2, d3, d4] => { results := [.lit (.bool false)], args := [d1, d2, d3, d4] }
  | _ => none }
def TradePlaysWrongFalsely : Prop := tradePlaysRow.holds Try.pinned (OpenSpec.ofChange tradePlaysWrong)

/-- 'cfllaw18.TradeSides': WHATEVER THE INPUT: true; the input reads as it did. -/
def tradeSidesSpec : ChangeSpec := { name := "tradeSides", fn := fun _ => fun
  | [d1, d2, d3] => { results := [.lit (.bool true)], args := [d1, d2, d3] }
  | _ => none }
def tradeSidesRow : OpenClaim := { program := "ytdpaklpaanojpaa", sum := "ff157fb4ad7f84a5ff5f127197136d1005ba8d6c4052315d317e4e614aa6b292", func := "counterfoil/cfllaw18.TradeSides", spec := "tradeSides", unfollowed := true, recurses := true, apart := false }
def TradeSidesSaid : Prop := tradeSidesRow.holds Try.pinned (OpenSpec.ofChange tradeSidesSpec)

/-- ITS FALSE NEIGHBOUR: 'it returns false'. Refute it at one input. -/
def tradeSidesWrong : ChangeSpec := { name := "tradeSides", fn := fun _ => fun
  | [d1, d2, d3] => { results := [.lit (.bool false)], args := [d1, d2, d3] }
  | _ => none }
def TradeSidesWrongFalsely : Prop := tradeSidesRow.holds Try.pinned (OpenSpec.ofChange tradeSidesWrong)

/-- 'cfllaw18.TradeMany': WHATEVER THE INPUT: true; the input reads as it did. -/
def tradeManySpec : ChangeSpec := { name := "tradeMany", fn := fun _ => fun
  | [d] => { results := [.lit (.bool true)], args := [d] }
  | _ => none }
def tradeManyRow : OpenClaim := { program := "ytdpaklpaanojpaa", sum := "ff157fb4ad7f84a5ff5f127197136d1005ba8d6c4052315d317e4e614aa6b292", func := "counterfoil/cfllaw18.TradeMany", spec := "tradeMany", unfollowed := true, recurses := true, apart := false }
def TradeManySaid : Prop := tradeManyRow.holds Try.pinned (OpenSpec.ofChange tradeManySpec)

/-- ITS FALSE NEIGHBOUR: 'it returns false'. Refute it at one input. -/
def tradeManyWrong : ChangeSpec := { name := "tradeMany", fn := fun _ => fun
  | [d] => { results := [.lit (.bool false)], args := [d] }
  | _ => none }
def TradeManyWrongFalsely : Prop := tradeManyRow.holds Try.pinned (OpenSpec.ofChange tradeManyWrong)

/- THE SECOND FORM. 'bulk': how many values and letters a reading holds, each counted each time it is reached (what is shared counts as often as it is met; a slice's spare places count too). A statement '..UptoSaid' is the law's where the arguments, and the package variables that the reading takes, are together of bulk at most 1048576: NARROWER than '..Said'. Prove '..Said' where nothing that the law and all that it calls make is longer than what came in: it says more and counts as full. Else prove '..UptoSaid'. A law counts once. -/
mutual
def uptoBulk {H : Type} : DataW H → Nat
  | .lit (.string bytes) => bytes.length + 1
  | .lit _ => 1
  | .nil => 1
  | .ptr d => uptoBulk d + 1
  | .slice elems spare => uptoBulkAll elems + uptoBulkAll spare + 1
  | .agg parts => uptoBulkAll parts + 1
  | .iface _ d => uptoBulk d + 1
  | .map entries => uptoBulkEntries entries + 1
  | .held _ => 1
def uptoBulkAll {H : Type} : List (DataW H) → Nat
  | [] => 0
  | d :: r => uptoBulk d + uptoBulkAll r
def uptoBulkEntries {H : Type} : List (Lit × DataW H) → Nat
  | [] => 0
  | x :: r => uptoBulkEntry x + uptoBulkEntries r
def uptoBulkEntry {H : Type} : Lit × DataW H → Nat
  | (.string bytes, d) => bytes.length + uptoBulk d + 1
  | (_, d) => uptoBulk d + 1
 end
def uptoSmall : (H : Type) → List (DataW H) → Bool := fun _ ds => decide (uptoBulkAll ds ≤ 1048576)
def OpenSpec.upto (s : _root_.Go.ChangeSpec) : _root_.Go.OpenSpec := { _root_.Go.OpenSpec.ofChange s with cond := some uptoSmall }

/-- 'cfllaw18.TradeBoth', WHERE WHAT IT READS IS OF BULK AT MOST 1048576: true; the input reads as it did. -/
def tradeBothUptoRow : OpenClaim := { program := "ytdpaklpaanojpaa", sum := "ff157fb4ad7f84a5ff5f127197136d1005ba8d6c4052315d317e4e614aa6b292", func := "counterfoil/cfllaw18.TradeBoth", spec := "tradeBoth", unfollowed := true, recurses := true, apart := false, narrowed := true }
def TradeBothUptoSaid : Prop := tradeBothUptoRow.holds Try.pinned (OpenSpec.upto tradeBothSpec)

/-- 'cfllaw18.TradePlays', WHERE WHAT IT READS IS OF BULK AT MOST 1048576: true; the input reads as it did. -/
def tradePlaysUptoRow : OpenClaim := { program := "ytdpaklpaanojpaa", sum := "ff157fb4ad7f84a5ff5f127197136d1005ba8d6c4052315d317e4e614aa6b292", func := "counterfoil/cfllaw18.TradePlays", spec := "tradePlays", unfollowed := true, recurses := true, apart := false, narrowed := true }
def TradePlaysUptoSaid : Prop := tradePlaysUptoRow.holds Try.pinned (OpenSpec.upto tradePlaysSpec)

/-- 'cfllaw18.TradeSides', WHERE WHAT IT READS IS OF BULK AT MOST 1048576: true; the input reads as it did. -/
def tradeSidesUptoRow : OpenClaim := { program := "ytdpaklpaanojpaa", sum := "ff157fb4ad7f84a5ff5f127197136d1005ba8d6c4052315d317e4e614aa6b292", func := "counterfoil/cfllaw18.TradeSides", spec := "tradeSides", unfollowed := true, recurses := true, apart := false, narrowed := true }
def TradeSidesUptoSaid : Prop := tradeSidesUptoRow.holds Try.pinned (OpenSpec.upto tradeSidesSpec)

/-- 'cfllaw18.TradeMany', WHERE WHAT IT READS IS OF BULK AT MOST 1048576: true; the input reads as it did. -/
def tradeManyUptoRow : OpenClaim := { program := "ytdpaklpaanojpaa", sum := "ff157fb4ad7f84a5ff5f127197136d1005ba8d6c4052315d317e4e614aa6b292", func := "counterfoil/cfllaw18.TradeMany", spec := "tradeMany", unfollowed := true, recurses := true, apart := false, narrowed := true }
def TradeManyUptoSaid : Prop := tradeManyUptoRow.holds Try.pinned (OpenSpec.upto tradeManySpec)

end Rows
end Go.Proofs.Ytdpaklpaanojpaa

/-
  No cell of these rows narrows 'for every input' (looked for: loops, veiled, ifaces, maps, wideKeys, modest, calm, conditions, laid).
  DERIVED. THE GIVEN ROWS OF THIS SEAT. 4 by the template 'for every input the law returns true; each argument reads behind the call as it read before'; 0 by the template 'total and deterministic' (their statements: YtjjcmdblohbneaaGreatTotals.lean).
  GIVEN WITH THE SEED: the statements are not yours to turn. If you find one false, say at which input.
  Laid BY PROGRAM, IN A SANDBOX (cutbox-rows.mjs): the forced cells as the released guide's own fill.sh prints them over the translation b80c80a8f8f76d09… (all of the seat's roots in one cut). By AI agents, Wed Nov 11 2026. No macro, syntax, notation, axiom, sorry.
-/
import Derived.Test.YtjjcmdblohbneaaGreatChecked
import GoSem.Claim
import GoSem.ClaimJoined
import GoSem.ClaimMapViews
import Derived.JoinedTies
import Derived.KernelRfl
namespace Go.Proofs.YtjjcmdblohbneaaGreat
/- THE CELL 'sum', in the pinned program and in every row, IS THE sha256 OF THE DUMP (.gsa) THAT YtjjcmdblohbneaaGreatProg.lean LOADS. Nothing in Lean hashes anything: it is a label: what it is worth is what the hold of that sum in a sandbox is worth. -/
noncomputable def Tryz.pinned : Pinned := { name := "ytjjcmdblohbneaagreat", sum := "b80c80a8f8f76d09ce28a91878b8d0620fefe079182768a3effcc664134da132", checked := Tryz.checked }
namespace Rows
def none {H : Type} : Left H := { results := [], args := [] }

/-- 'cfllaw23.DiarySmall': WHATEVER THE INPUT: true; the input reads as it did. -/
def diarySmallSpec : ChangeSpec := { name := "diarySmall", fn := fun _ => fun
  | [d1, d2] => { results := [.lit (.bool true)], args := [d1, d2] }
  | _ => none }
def diarySmallRow : OpenClaim := { program := "ytjjcmdblohbneaagreat", sum := "b80c80a8f8f76d09ce28a91878b8d0620fefe079182768a3effcc664134da132", func := "counterfoil/cfllaw23.DiarySmall", spec := "diarySmall", inPlace := ["sync/atomic.LoadUint32", "math/bits.Add64", "(*internal/sync.Mutex).Lock", "internal/race.Disable", "sync/atomic.CompareAndSwapInt32", "internal/race.Enable", "internal/race.Acquire", "(*internal/sync.Mutex).lockSlow", "internal/sync.runtime_canSpin", "internal/sync.runtime_doSpin", "internal/sync.throw", "internal/sync.runtime_nanotime", "internal/sync.runtime_SemacquireMutex", "sync/atomic.AddInt32", "(*internal/sync.Mutex).Unlock", "internal/race.ReleaseMerge", "(*internal/sync.Mutex).unlockSlow", "internal/sync.fatal", "internal/sync.runtime_Semrelease", "sync/atomic.StoreUint32"], unfollowed := true, recurses := true, apart := false }
def DiarySmallSaid : Prop := diarySmallRow.holds Tryz.pinned (OpenSpec.ofChange diarySmallSpec)

/-- ITS FALSE NEIGHBOUR: 'it returns false'. Refute it at one input. -/
def diarySmallWrong : ChangeSpec := { name := "diarySmall", fn := fun _ => fun
  | [d1, d2] => { results := [.lit (.bool false)], args := [d1, d2] }
  | _ => none }
def DiarySmallWrongFalsely : Prop := diarySmallRow.holds Tryz.pinned (OpenSpec.ofChange diarySmallWrong)

/-- 'cfllaw23.DiaryBundle': WHATEVER THE INPUT: true; the input reads as it did. -/
def diaryBundleSpec : ChangeSpec := { name := "diaryBundle", fn := fun _ => fun
  | [d] => { results := [.lit (.bool true)], args := [d] }
  | _ => none }
def diaryBundleRow : OpenClaim := { program := "ytjjcmdblohbneaagreat", sum := "b80c80a8f8f76d09ce28a91878b8d0620fefe079182768a3effcc664134da132", func := "counterfoil/cfllaw23.DiaryBundle", spec := "diaryBundle", inPlace := ["sync/atomic.LoadUint32", "math/bits.Add64", "(*internal/sync.Mutex).Lock", "internal/race.Disable", "sync/atomic.CompareAndSwapInt32", "internal/race.Enable", "internal/race.Acquire", "(*internal/sync.Mutex).lockSlow", "internal/sync.runtime_canSpin", "internal/sync.runtime_doSpin", "internal/sync.throw", "internal/sync.runtime_nanotime", "internal/sync.runtime_SemacquireMutex", "sync/atomic.AddInt32", "(*internal/sync.Mutex).Unlock", "internal/race.ReleaseMerge", "(*internal/sync.Mutex).unlockSlow", "internal/sync.fatal", "internal/sync.runtime_Semrelease", "sync/atomic.StoreUint32"], unfollowed := true, recurses := true, apart := false }
def DiaryBundleSaid : Prop := diaryBundleRow.holds Tryz.pinned (OpenSpec.ofChange diaryBundleSpec)

/-- ITS FALSE NEIGHBOUR: 'it returns false'. Refute it at one input. -/
def diaryBundleWrong : ChangeSpec := { name := "diaryBundle", fn := fun _ => fun
  | [d] => { results := [.lit (.bool false)], args := [d] }
  | _ => none }
def DiaryBundleWrongFalsely : Prop := diaryBundleRow.holds Tryz.pinned (OpenSpec.ofChange diaryBundleWrong)

/-- 'cfllaw23.DiaryLasts': WHATEVER THE INPUT: true; the input reads as it did. -/
def diaryLastsSpec : ChangeSpec := { name := "diaryLasts", fn := fun _ => fun
  | [d] => { results := [.lit (.bool true)], args := [d] }
  | _ => none }
def diaryLastsRow : OpenClaim := { program := "ytjjcmdblohbneaagreat", sum := "b80c80a8f8f76d09ce28a91878b8d0620fefe079182768a3effcc664134da132", func := "counterfoil/cfllaw23.DiaryLasts", spec := "diaryLasts", inPlace := ["sync/atomic.LoadUint32", "math/bits.Add64", "(*internal/sync.Mutex).Lock", "internal/race.Disable", "sync/atomic.CompareAndSwapInt32", "internal/race.Enable", "internal/race.Acquire", "(*internal/sync.Mutex).lockSlow", "internal/sync.runtime_canSpin", "internal/sync.runtime_doSpin", "internal/sync.throw", "internal/sync.runtime_nanotime", "internal/sync.runtime_SemacquireMutex", "sync/atomic.AddInt32", "(*internal/sync.Mutex).Unlock", "internal/race.ReleaseMerge", "(*internal/sync.Mutex).unlockSlow", "internal/sync.fatal", "internal/sync.runtime_Semrelease", "sync/atomic.StoreUint32"], unfollowed := true, recurses := true, apart := false }
def DiaryLastsSaid : Prop := diaryLastsRow.holds Tryz.pinned (OpenSpec.ofChange diaryLastsSpec)

/-- ITS FALSE NEIGHBOUR: 'it returns false'. Refute it at one input. -/
def diaryLastsWrong : ChangeSpec := { name := "diaryLasts", fn := fun _ => fun
  | [d] => { results := [.lit (.bool false)], args := [d] }
  | _ => none }
def DiaryLastsWrongFalsely : Prop := diaryLastsRow.holds Tryz.pinned (OpenSpec.ofChange diaryLastsWrong)

/-- 'cfllaw23.DiaryPlays': WHATEVER THE INPUT: true; the input reads as it did. -/
def diaryPlaysSpec : ChangeSpec := { name := "diaryPlays", fn := fun _ => fun
  | [d1, d2] => { results := [.lit (.bool true)], args := [d1, d2] }
  | _ => none }
def diaryPlaysRow : OpenClaim := { program := "ytjjcmdblohbneaagreat", sum := "b80c80a8f8f76d09ce28a91878b8d0620fefe079182768a3effcc664134da132", func := "counterfoil/cfllaw23.DiaryPlays", spec := "diaryPlays", inPlace := ["sync/atomic.LoadUint32", "math/bits.Add64", "(*internal/sync.Mutex).Lock", "internal/race.Disable", "sync/atomic.CompareAndSwapInt32", "internal/race.Enable", "internal/race.Acquire", "(*internal/sync.Mutex).lockSlow", "internal/sync.runtime_canSpin", "internal/sync.runtime_doSpin", "internal/sync.throw", "internal/sync.runtime_nanotime", "internal/sync.runtime_SemacquireMutex", "sync/atomic.AddInt32", "(*internal/sync.Mutex).Unlock", "internal/race.ReleaseMerge", "(*internal/sync.Mutex).unlockSlow", "internal/sync.fatal", "internal/sync.runtime_Semrelease", "sync/atomic.StoreUint32"], unfollowed := true, recurses := true, apart := false }
def DiaryPlaysSaid : Prop := diaryPlaysRow.holds Tryz.pinned (OpenSpec.ofChange diaryPlaysSpec)

/-- ITS FALSE NEIGHBOUR: 'it returns false'. Refute it at one input. -/
def diaryPlaysWrong : ChangeSpec := { name := "diaryPlays", fn := fun _ => fun
  | [d1, d2] => { results := [.lit (.bool false)], args := [d1, d2] }
  | _ => none }
def DiaryPlaysWrongFalsely : Prop := diaryPlaysRow.holds Tryz.pinned (OpenSpec.ofChange diaryPlaysWrong)

/- THE SECOND FORM. 'bulk': how many values and letters a reading holds, each counted each time it is reached (what is shared counts as often as it is met; a slice's spare places count too). A statement '..UptoSaid' is the law's where the arguments, and the package variables that the reading takes, are together of bulk at most 1048576: NARROWER than '..Said'. Prove '..Said' where nothing that the law and all that it calls make is longer than what came in: it says more and counts as full. Else prove '..UptoSaid'. A law counts once. -/
mutual
def uptoBulk {H : Type} : DataW H → Nat
  | .lit (.string bytes) => bytes.length + 1
  | .lit _ => 1
  | .nil => 1
  | .ptr d => uptoBulk d + 1
  | .slice elems spare => uptoBulkAll elems + uptoBulkAll spare + 1
  | .agg parts => uptoBulkAll parts + 1
  | .iface _ d => uptoBulk d + 1
  | .map entries => uptoBulkEntries entries + 1
  | .held _ => 1
def uptoBulkAll {H : Type} : List (DataW H) → Nat
  | [] => 0
  | d :: r => uptoBulk d + uptoBulkAll r
def uptoBulkEntries {H : Type} : List (Lit × DataW H) → Nat
  | [] => 0
  | x :: r => uptoBulkEntry x + uptoBulkEntries r
def uptoBulkEntry {H : Type} : Lit × DataW H → Nat
  | (.string bytes, d) => bytes.length + uptoBulk d + 1
  | (_, d) => uptoBulk d + 1
 end
def uptoSmall : (H : Type) → List (DataW H) → Bool := fun _ ds => decide (uptoBulkAll ds ≤ 1048576)
def OpenSpec.upto (s : _root_.Go.ChangeSpec) : _root_.Go.OpenSpec := { _root_.Go.OpenSpec.ofChange s with cond := some uptoSmall }

/-- 'cfllaw23.DiarySmall', WHERE WHAT IT READS IS OF BULK AT MOST 1048576: true; the input reads as it did. -/
def diarySmallUptoRow : OpenClaim := { program := "ytjjcmdblohbneaagreat", sum := "b80c80a8f8f76d09ce28a91878b8d0620fefe079182768a3effcc664134da132", func := "counterfoil/cfllaw23.DiarySmall", spec := "diarySmall", inPlace := ["sync/atomic.LoadUint32", "math/bits.Add64", "(*internal/sync.Mutex).Lock", "internal/race.Disable", "sync/atomic.CompareAndSwapInt32", "internal/race.Enable", "internal/race.Acquire", "(*internal/sync.Mutex).lockSlow", "internal/sync.runtime_canSpin", "internal/sync.runtime_doSpin", "internal/sync.throw", "internal/sync.runtime_nanotime", "internal/sync.runtime_SemacquireMutex", "sync/atomic.AddInt32", "(*internal/sync.Mutex).Unlock", "internal/race.ReleaseMerge", "(*internal/sync.Mutex).unlockSlow", "internal/sync.fatal", "internal/sync.runtime_Semrelease", "sync/atomic.StoreUint32"], unfollowed := true, recurses := true, apart := false, narrowed := true }
def DiarySmallUptoSaid : Prop := diarySmallUptoRow.holds Tryz.pinned (OpenSpec.upto diarySmallSpec)

/-- 'cfllaw23.DiaryBundle', WHERE WHAT IT READS IS OF BULK AT MOST 1048576: true; the input reads as it did. -/
def diaryBundleUptoRow : OpenClaim := { program := "ytjjcmdblohbneaagreat", sum := "b80c80a8f8f76d09ce28a91878b8d0620fefe079182768a3effcc664134da132", func := "counterfoil/cfllaw23.DiaryBundle", spec := "diaryBundle", inPlace := ["sync/atomic.LoadUint32", "math/bits.Add64", "(*internal/sync.Mutex).Lock", "internal/race.Disable", "sync/atomic.CompareAndSwapInt32", "internal/race.Enable", "internal/race.Acquire", "(*internal/sync.Mutex).lockSlow", "internal/sync.runtime_canSpin", "internal/sync.runtime_doSpin", "internal/sync.throw", "internal/sync.runtime_nanotime", "internal/sync.runtime_SemacquireMutex", "sync/atomic.AddInt32", "(*internal/sync.Mutex).Unlock", "internal/race.ReleaseMerge", "(*internal/sync.Mutex).unlockSlow", "internal/sync.fatal", "internal/sync.runtime_Semrelease", "sync/atomic.StoreUint32"], unfollowed := true, recurses := true, apart := false, narrowed := true }
def DiaryBundleUptoSaid : Prop := diaryBundleUptoRow.holds Tryz.pinned (OpenSpec.upto diaryBundleSpec)

/-- 'cfllaw23.DiaryLasts', WHERE WHAT IT READS IS OF BULK AT MOST 1048576: true; the input reads as it did. -/
def diaryLastsUptoRow : OpenClaim := { program := "ytjjcmdblohbneaagreat", sum := "b80c80a8f8f76d09ce28a91878b8d0620fefe079182768a3effcc664134da132", func := "counterfoil/cfllaw23.DiaryLasts", spec := "diaryLasts", inPlace := ["sync/atomic.LoadUint32", "math/bits.Add64", "(*internal/sync.Mutex).Lock", "internal/race.Disable", "sync/atomic.CompareAndSwapInt32", "internal/race.Enable", "internal/race.Acquire", "(*internal/sync.Mutex).lockSlow", "internal/sync.runtime_canSpin", "internal/sync.runtime_doSpin", "internal/sync.throw", "internal/sync.runtime_nanotime", "internal/sync.runtime_SemacquireMutex", "sync/atomic.AddInt32", "(*internal/sync.Mutex).Unlock", "internal/race.ReleaseMerge", "(*internal/sync.Mutex).unlockSlow", "internal/sync.fatal", "internal/sync.runtime_Semrelease", "sync/atomic.StoreUint32"], unfollowed := true, recurses := true, apart := false, narrowed := true }
def DiaryLastsUptoSaid : Prop := diaryLastsUptoRow.holds Tryz.pinned (OpenSpec.upto diaryLastsSpec)

/-- 'cfllaw23.DiaryPlays', WHERE WHAT IT READS IS OF BULK AT MOST 1048576: true; the input reads as it did. -/
def diaryPlaysUptoRow : OpenClaim := { program := "ytjjcmdblohbneaagreat", sum := "b80c80a8f8f76d09ce28a91878b8d0620fefe079182768a3effcc664134da132", func := "counterfoil/cfllaw23.DiaryPlays", spec := "diaryPlays", inPlace := ["sync/atomic.LoadUint32", "math/bits.Add64", "(*internal/sync.Mutex).Lock", "internal/race.Disable", "sync/atomic.CompareAndSwapInt32", "internal/race.Enable", "internal/race.Acquire", "(*internal/sync.Mutex).lockSlow", "internal/sync.runtime_canSpin", "internal/sync.runtime_doSpin", "internal/sync.throw", "internal/sync.runtime_nanotime", "internal/sync.runtime_SemacquireMutex", "sync/atomic.AddInt32", "(*internal/sync.Mutex).Unlock", "internal/race.ReleaseMerge", "(*internal/sync.Mutex).unlockSlow", "internal/sync.fatal", "internal/sync.runtime_Semrelease", "sync/atomic.StoreUint32"], unfollowed := true, recurses := true, apart := false, narrowed := true }
def DiaryPlaysUptoSaid : Prop := diaryPlaysUptoRow.holds Tryz.pinned (OpenSpec.upto diaryPlaysSpec)

end Rows
end Go.Proofs.YtjjcmdblohbneaaGreat

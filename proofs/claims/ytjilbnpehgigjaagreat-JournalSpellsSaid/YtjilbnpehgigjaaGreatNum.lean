/- Plain facts on worlds and blocks that all walks of this seat share: what a call may turn (Mod), a block's cells. Nothing of the program is named here. -/
import Derived.WalkKit
import Derived.WalkSpells
import Derived.WalkLawsBesides
import Derived.Deep.QuietTactic
import Derived.BigQuiet
import Derived.Deep.RegionHeld3
import Derived.Deep.DeepCutAuto
import Derived.Deep.CutBlock
import Derived.Lib.Hide
import Derived.Test.YtjilbnpehgigjaaGreatChecked
namespace Go.Proofs.YtjilbnpehgigjaaGreat
open Go.RowKit

/-- nothing turns but the blocks of S and what is new -/
structure Mod (S : Nat → Prop) (w w' : World) : Prop where
  os : w'.os = w.os
  tape : w'.tape = w.tape
  output : w'.output = w.output
  size : w.heap.size ≤ w'.heap.size
  block : ∀ k, k < w.heap.size → ¬ S k → w'.heap[k]? = w.heap[k]?

def nil : Nat → Prop := fun _ => False
theorem not_nil (k : Nat) : ¬ nil k := id
theorem Mod.refl (S : Nat → Prop) (w : World) : Mod S w w := ⟨rfl, rfl, rfl, Nat.le_refl _, fun _ _ _ => rfl⟩
theorem Mod.trans {S T : Nat → Prop} {a b c : World} (h : Mod S a b) (k : Mod T b c) (hT : ∀ i, i < a.heap.size → T i → S i) : Mod S a c :=
  ⟨k.os.trans h.os, k.tape.trans h.tape, k.output.trans h.output, Nat.le_trans h.size k.size, fun i hi hs =>
    (k.block i (Nat.lt_of_lt_of_le hi h.size) (fun ht => hs (hT i hi ht))).trans (h.block i hi hs)⟩
theorem Mod.thenNil {S : Nat → Prop} {a b c : World} (h : Mod S a b) (k : Mod nil b c) : Mod S a c := h.trans k (fun _ _ f => f.elim)
theorem Mod.mono {S T : Nat → Prop} {w w' : World} (h : Mod S w w') (hT : ∀ i, i < w.heap.size → S i → T i) : Mod T w w' :=
  ⟨h.os, h.tape, h.output, h.size, fun i hi ht => h.block i hi (fun hs => ht (hT i hi hs))⟩
theorem Mod.ofNil {S : Nat → Prop} {w w' : World} (h : Mod nil w w') : Mod S w w' := h.mono (fun _ _ f => f.elim)
theorem Mod.drew {S : Nat → Prop} {a w : World} (h : Mod S a w) : Mod S a w.drew := ⟨h.os, h.tape, h.output, h.size, h.block⟩
theorem Mod.drewN {S : Nat → Prop} {a w : World} (h : Mod S a w) (n : Nat) : Mod S a (w.drewN n) := ⟨h.os, h.tape, h.output, h.size, h.block⟩
theorem Mod.alloc {S : Nat → Prop} {a w : World} (h : Mod S a w) (o : Obj) : Mod S a (w.alloc o) :=
  ⟨h.os, h.tape, h.output, by have := h.size; simp; omega, fun k hk hs => (Below.heap_alloc _ _ _ (Nat.lt_of_lt_of_le hk h.size)).trans (h.block k hk hs)⟩
theorem Mod.setCell {S : Nat → Prop} {a w : World} (h : Mod S a w) (p : Addr) (u : Value) (hp : p.block < a.heap.size → S p.block) : Mod S a (w.setCell p u) :=
  ⟨h.os, h.tape, h.output, by have := h.size; simp [World.setCell]; omega, fun k hk hs =>
    (Below.heap_setCell _ _ _ _ (fun e => hs (by rw [e]; exact hp (by rw [← e]; exact hk)))).trans (h.block k hk hs)⟩
theorem Mod.below {w w' : World} (h : Mod nil w w') : Below w.heap.size w w' := ⟨h.os, h.tape, h.output, h.size, fun k hk => h.block k hk id⟩
theorem Mod.ofBelow {w w' : World} (h : Below w.heap.size w w') : Mod nil w w' := ⟨h.os, h.tape, h.output, h.size, fun k hk _ => h.block k hk⟩
/-- only block b is written: every other one stays -/
theorem Mod.ne {b : Nat} {w w' : World} (h : Mod (· = b) w w') (k : Nat) (hk : k < w.heap.size) (hb : k ≠ b) : w'.heap[k]? = w.heap[k]? := h.block k hk hb
/-- a write to blocks that are new since a -/
theorem Mod.new {S : Nat → Prop} {a b c : World} (h : Mod nil a b) (k : Mod S b c) (hS : ∀ i, S i → a.heap.size ≤ i) : Mod nil a c :=
  h.trans k (fun i hi hs => absurd (hS i hs) (by omega))

theorem size_setCell (w : World) (p : Addr) (v : Value) : (w.setCell p v).heap.size = w.heap.size := by simp [World.setCell]
theorem heap_lt {w : World} {b : Nat} {o : Obj} (h : w.heap[b]? = some o) : b < w.heap.size := by
  by_cases hb : b < w.heap.size
  · exact hb
  · rw [Array.getElem?_eq_none (by omega)] at h; cases h
theorem heap_setCell_same {w : World} {b off : Nat} {c : Array Value} {T : TypeId} {fr : Nat × Nat} (h : w.heap[b]? = some (.cells c T fr)) (v : Value) :
    (w.setCell ⟨b, off, none⟩ v).heap[b]? = some (.cells (c.setIfInBounds off v) T fr) := by
  simp [World.setCell, Array.getElem?_modify, h]
theorem heap_setCell_other {w : World} {b off k : Nat} (v : Value) (h : k ≠ b) : (w.setCell ⟨b, off, none⟩ v).heap[k]? = w.heap[k]? := Below.heap_setCell _ _ _ _ h
theorem heap_alloc_old {w : World} {b : Nat} {o o' : Obj} (h : w.heap[b]? = some o') : (w.alloc o).heap[b]? = some o' := by
  rw [Below.heap_alloc _ _ _ (heap_lt h)]; exact h
theorem Mod.keep {w w' : World} (m : Mod nil w w') {b : Nat} {o : Obj} (h : w.heap[b]? = some o) : w'.heap[b]? = some o := (m.block b (heap_lt h) (not_nil _)).trans h
theorem cell_of {w : World} {b : Nat} {c : Array Value} {T : TypeId} {fr : Nat × Nat} (h : w.heap[b]? = some (.cells c T fr)) (k : Nat) : w.cell? ⟨b, k, none⟩ = c[k]? := by
  simp [World.cell?, h]
theorem free_of {w : World} {b : Nat} {c : Array Value} {T : TypeId} (h : w.heap[b]? = some (.cells c T (0, 0))) (k : Nat) : w.frozen? ⟨b, k, none⟩ = false := by
  simp [World.frozen?, h]

/-- a row of ints as cells -/
def ints (l : List Int) : Array Value := (l.map (Value.int .i64)).toArray
theorem ints_get {l : List Int} {k : Nat} (h : k < l.length) : (ints l)[k]? = some (.int .i64 (l.getD k 0)) := by
  simp [ints, h]
theorem ints_set (l : List Int) (k : Nat) (x : Int) : (ints l).setIfInBounds k (.int .i64 x) = ints (l.set k x) := by
  simp [ints, List.map_set]

/-- a slice of one-cell elements that reads as xs; its block is in S -/
def IsRow (S : Nat → Prop) (w : World) (v : Value) (xs : List Value) : Prop :=
  ∃ p c, v = .slice p xs.length c ∧ ∀ i, i < xs.length → ∃ b off, p = some ⟨b, off, none⟩ ∧ S b ∧ b < w.heap.size ∧ w.cell? ⟨b, off + i, none⟩ = some (xs.getD i undef)
theorem IsRow.mod {S T : Nat → Prop} {w w' : World} {v : Value} {xs : List Value} (h : IsRow S w v xs) (m : Mod T w w') (hs : ∀ i, i < w.heap.size → S i → ¬ T i) : IsRow S w' v xs := by
  obtain ⟨p, c, rfl, hc⟩ := h
  refine ⟨p, c, rfl, fun i hi => ?_⟩
  obtain ⟨b, off, rfl, hS, hb, hx⟩ := hc i hi
  refine ⟨b, off, rfl, hS, Nat.lt_of_lt_of_le hb m.size, ?_⟩
  rw [← hx]
  exact World.cell?_of_block (w := w) (m.block b hb (hs b hb hS))
/-- a cell of a row's element in a later world -/
theorem cell_kept {S : Nat → Prop} {w w' : World} {b o : Nat} {v : Value} (h : w.cell? ⟨b, o, none⟩ = some v) (m : Mod S w w') (hb : b < w.heap.size) (hs : ¬ S b) : w'.cell? ⟨b, o, none⟩ = some v :=
  (World.cell?_of_block (w := w) (m.block b hb hs)).trans h
theorem IsRow.ofBlock {S : Nat → Prop} {w : World} {b : Nat} {xs : List Value} {T : TypeId} {fr : Nat × Nat} (h : w.heap[b]? = some (.cells xs.toArray T fr)) (hS : S b) (n c : Nat) (hn : n = xs.length) :
    IsRow S w (.slice (some ⟨b, 0, none⟩) n c) xs := by
  subst hn
  refine ⟨_, c, rfl, fun i hi => ⟨b, 0, rfl, hS, heap_lt h, ?_⟩⟩
  rw [cell_of h]; simp [hi]
theorem wrap64_wrap64_add (a b : Int) : wrap64 (wrap64 a + b) = wrap64 (a + b) := by unfold wrap64; omega
end Go.Proofs.YtjilbnpehgigjaaGreat

/- Package num. -/
namespace Go.Proofs.YtjilbnpehgigjaaGreat
open Go.RowKit
theorem numAmount (n : Int) (w : World) : Calls Tryz.prog 114 #[.int .i64 n] w fun e w' => e = .returned (.bool (decide (0 ≤ n ∧ n ≤ 4611686018427387904))) ∧ w = w' := by
  rcases (show n < 0 ∨ (0 ≤ n ∧ n ≤ 4611686018427387904) ∨ (0 ≤ n ∧ ¬ n ≤ 4611686018427387904) by omega) with h | ⟨h, h'⟩ | ⟨h, h'⟩
  all_goals
    go_enter Tryz.func114, Tryz.ntmps114
    go_wp2_with fail
    go_ret
    exact ⟨by simp; try omega, rfl⟩
end Go.Proofs.YtjilbnpehgigjaaGreat

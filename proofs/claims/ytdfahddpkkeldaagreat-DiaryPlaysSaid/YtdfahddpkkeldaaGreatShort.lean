/- Plain facts on worlds and blocks that all walks of this seat share: what a call may turn (Mod), a block's cells. Nothing of the program is named here. -/
import Derived.WalkKit
import Derived.WalkSpells
import Derived.WalkLawsBesides
import Derived.Deep.QuietTactic
import Derived.BigQuiet
import Derived.Deep.RegionHeld3
import Derived.Deep.DeepCutAuto
import Derived.Deep.CutBlock
import Derived.Lib.Hide
import Derived.Test.YtdfahddpkkeldaaGreatChecked
import Derived.Test.YtdfahddpkkeldaaGreatTailB
namespace Go.Proofs.YtdfahddpkkeldaaGreat
open Go.RowKit
/-- nothing turns but the blocks of S and what is new -/
structure Mod (S : Nat → Prop) (w w' : World) : Prop where
 os : w'.os = w.os
 tape : w'.tape = w.tape
 output : w'.output = w.output
 size : w.heap.size ≤ w'.heap.size
 block : ∀ k, k < w.heap.size → ¬ S k → w'.heap[k]? = w.heap[k]?
def nil : Nat → Prop := fun _ => False
theorem not_nil (k : Nat) : ¬ nil k := id
theorem Mod.refl (S : Nat → Prop) (w : World) : Mod S w w := ⟨rfl, rfl, rfl, Nat.le_refl _, fun _ _ _ => rfl⟩
theorem Mod.trans {S T : Nat → Prop} {a b c : World} (h : Mod S a b) (k : Mod T b c) (hT : ∀ i, i < a.heap.size → T i → S i) : Mod S a c :=
 ⟨k.os.trans h.os, k.tape.trans h.tape, k.output.trans h.output, Nat.le_trans h.size k.size, fun i hi hs =>
  (k.block i (Nat.lt_of_lt_of_le hi h.size) (fun ht => hs (hT i hi ht))).trans (h.block i hi hs)⟩
theorem Mod.thenNil {S : Nat → Prop} {a b c : World} (h : Mod S a b) (k : Mod nil b c) : Mod S a c := h.trans k (fun _ _ f => f.elim)
theorem Mod.mono {S T : Nat → Prop} {w w' : World} (h : Mod S w w') (hT : ∀ i, i < w.heap.size → S i → T i) : Mod T w w' :=
 ⟨h.os, h.tape, h.output, h.size, fun i hi ht => h.block i hi (fun hs => ht (hT i hi hs))⟩
theorem Mod.ofNil {S : Nat → Prop} {w w' : World} (h : Mod nil w w') : Mod S w w' := h.mono (fun _ _ f => f.elim)
theorem Mod.drew {S : Nat → Prop} {a w : World} (h : Mod S a w) : Mod S a w.drew := ⟨h.os, h.tape, h.output, h.size, h.block⟩
theorem Mod.drewN {S : Nat → Prop} {a w : World} (h : Mod S a w) (n : Nat) : Mod S a (w.drewN n) := ⟨h.os, h.tape, h.output, h.size, h.block⟩
theorem Mod.alloc {S : Nat → Prop} {a w : World} (h : Mod S a w) (o : Obj) : Mod S a (w.alloc o) :=
 ⟨h.os, h.tape, h.output, by have := h.size; simp; omega, fun k hk hs => (Below.heap_alloc _ _ _ (Nat.lt_of_lt_of_le hk h.size)).trans (h.block k hk hs)⟩
theorem Mod.setCell {S : Nat → Prop} {a w : World} (h : Mod S a w) (p : Addr) (u : Value) (hp : p.block < a.heap.size → S p.block) : Mod S a (w.setCell p u) :=
 ⟨h.os, h.tape, h.output, by have := h.size; simp [World.setCell]; omega, fun k hk hs =>
  (Below.heap_setCell _ _ _ _ (fun e => hs (by rw [e]; exact hp (by rw [← e]; exact hk)))).trans (h.block k hk hs)⟩
theorem Mod.below {w w' : World} (h : Mod nil w w') : Below w.heap.size w w' := ⟨h.os, h.tape, h.output, h.size, fun k hk => h.block k hk id⟩
/-- only block b is written: every other one stays -/
theorem Mod.ne {b : Nat} {w w' : World} (h : Mod (· = b) w w') (k : Nat) (hk : k < w.heap.size) (hb : k ≠ b) : w'.heap[k]? = w.heap[k]? := h.block k hk hb
/-- a write to blocks that are new since a -/
theorem Mod.new {S : Nat → Prop} {a b c : World} (h : Mod nil a b) (k : Mod S b c) (hS : ∀ i, S i → a.heap.size ≤ i) : Mod nil a c :=
 h.trans k (fun i hi hs => absurd (hS i hs) (by omega))
theorem size_setCell (w : World) (p : Addr) (v : Value) : (w.setCell p v).heap.size = w.heap.size := by simp [World.setCell]
theorem heap_lt {w : World} {b : Nat} {o : Obj} (h : w.heap[b]? = some o) : b < w.heap.size := by
 by_cases hb : b < w.heap.size
 ·exact hb
 ·rw [Array.getElem?_eq_none (by omega)] at h; cases h
theorem heap_setCell_same {w : World} {b off : Nat} {c : Array Value} {T : TypeId} {fr : Nat × Nat} (h : w.heap[b]? = some (.cells c T fr)) (v : Value) :
  (w.setCell ⟨b, off, none⟩ v).heap[b]? = some (.cells (c.setIfInBounds off v) T fr) := by
 simp [World.setCell, Array.getElem?_modify, h]
theorem heap_setCell_other {w : World} {b off k : Nat} (v : Value) (h : k ≠ b) : (w.setCell ⟨b, off, none⟩ v).heap[k]? = w.heap[k]? := Below.heap_setCell _ _ _ _ h
theorem heap_alloc_old {w : World} {b : Nat} {o o' : Obj} (h : w.heap[b]? = some o') : (w.alloc o).heap[b]? = some o' := by
 rw [Below.heap_alloc _ _ _ (heap_lt h)]; exact h
theorem Mod.keep {w w' : World} (m : Mod nil w w') {b : Nat} {o : Obj} (h : w.heap[b]? = some o) : w'.heap[b]? = some o := (m.block b (heap_lt h) (not_nil _)).trans h
theorem cell_of {w : World} {b : Nat} {c : Array Value} {T : TypeId} {fr : Nat × Nat} (h : w.heap[b]? = some (.cells c T fr)) (k : Nat) : w.cell? ⟨b, k, none⟩ = c[k]? := by
 simp [World.cell?, h]
theorem free_of {w : World} {b : Nat} {c : Array Value} {T : TypeId} (h : w.heap[b]? = some (.cells c T (0, 0))) (k : Nat) : w.frozen? ⟨b, k, none⟩ = false := by
 simp [World.frozen?, h]
/-- a slice of one-cell elements that reads as xs; its block is in S -/
def IsRow (S : Nat → Prop) (w : World) (v : Value) (xs : List Value) : Prop :=
 ∃ p c, v = .slice p xs.length c ∧ ∀ i, i < xs.length → ∃ b off, p = some ⟨b, off, none⟩ ∧ S b ∧ b < w.heap.size ∧ w.cell? ⟨b, off + i, none⟩ = some (xs.getD i undef)
theorem IsRow.mod {S T : Nat → Prop} {w w' : World} {v : Value} {xs : List Value} (h : IsRow S w v xs) (m : Mod T w w') (hs : ∀ i, i < w.heap.size → S i → ¬ T i) : IsRow S w' v xs := by
 obtain ⟨p, c, rfl, hc⟩ := h
 refine ⟨p, c, rfl, fun i hi => ?_⟩
 obtain ⟨b, off, rfl, hS, hb, hx⟩ := hc i hi
 refine ⟨b, off, rfl, hS, Nat.lt_of_lt_of_le hb m.size, ?_⟩
 rw [← hx]
 exact World.cell?_of_block (w := w) (m.block b hb (hs b hb hS))
/-- a cell of a row's element in a later world -/
theorem cell_kept {S : Nat → Prop} {w w' : World} {b o : Nat} {v : Value} (h : w.cell? ⟨b, o, none⟩ = some v) (m : Mod S w w') (hb : b < w.heap.size) (hs : ¬ S b) : w'.cell? ⟨b, o, none⟩ = some v :=
 (World.cell?_of_block (w := w) (m.block b hb hs)).trans h
theorem IsRow.ofBlock {S : Nat → Prop} {w : World} {b : Nat} {xs : List Value} {T : TypeId} {fr : Nat × Nat} (h : w.heap[b]? = some (.cells xs.toArray T fr)) (hS : S b) (n c : Nat) (hn : n = xs.length) :
  IsRow S w (.slice (some ⟨b, 0, none⟩) n c) xs := by
 subst hn
 refine ⟨_, c, rfl, fun i hi => ⟨b, 0, rfl, hS, heap_lt h, ?_⟩⟩
 rw [cell_of h]; simp [hi]
end Go.Proofs.YtdfahddpkkeldaaGreat

/- Package num. -/
namespace Go.Proofs.YtdfahddpkkeldaaGreat
open Go.RowKit
theorem numAmount (n : Int) (w : World) : Calls Tryz.prog 112 #[.int .i64 n] w fun e w' => e = .returned (.bool (decide (0 ≤ n ∧ n ≤ 4611686018427387904))) ∧ w = w' := by
 rcases (show n < 0 ∨ (0 ≤ n ∧ n ≤ 4611686018427387904) ∨ (0 ≤ n ∧ ¬ n ≤ 4611686018427387904) by omega) with h | ⟨h, h'⟩ | ⟨h, h'⟩
 all_goals
  go_enter Tryz.func112, Tryz.ntmps112
  go_wp2_with fail
  go_ret
  exact ⟨by simp; try omega, rfl⟩
end Go.Proofs.YtdfahddpkkeldaaGreat

/- Two things side by side, each with blocks of its own in G: a step of one keeps the other. -/
namespace Go.Proofs.YtdfahddpkkeldaaGreat
open Go.RowKit
def PairG (A B : (Nat → Prop) → World → Prop) (tb : Nat) (G : Nat → Prop) (w : World) : Prop :=
 ∃ P R, A P w ∧ B R w ∧ (∀ k, P k → G k ∧ k < w.heap.size) ∧ (∀ k, R k → G k ∧ k < w.heap.size ∧ ¬ P k ∧ k ≠ tb) ∧ G tb ∧ tb < w.heap.size
/-- what is told of a thing with blocks of its own -/
structure Keeps (tb : Nat) (A : (Nat → Prop) → World → Prop) : Prop where
 mod : ∀ {P T : Nat → Prop} {w w' : World}, A P w → Mod T w w' → (∀ k, k < w.heap.size → P k ∨ k = tb → ¬ T k) → A P w'
 mono : ∀ {P Q : Nat → Prop} {w : World}, A P w → (∀ k, k < w.heap.size → P k → Q k) → A Q w
structure KeepsR (B : (Nat → Prop) → World → Prop) : Prop where
 mod : ∀ {P T : Nat → Prop} {w w' : World}, B P w → Mod T w w' → (∀ k, k < w.heap.size → P k → ¬ T k) → B P w'
 mono : ∀ {P Q : Nat → Prop} {w : World}, B P w → (∀ k, k < w.heap.size → P k → Q k) → B Q w
theorem PairG.mono {A B : (Nat → Prop) → World → Prop} {tb : Nat} {G H : Nat → Prop} {w : World} (h : PairG A B tb G w) (hg : ∀ k, k < w.heap.size → G k → H k) : PairG A B tb H w := by
 obtain ⟨P, R, h1, h2, h3, h4, h5, h6⟩ := h
 exact ⟨P, R, h1, h2, fun k hk => ⟨hg k (h3 k hk).2 (h3 k hk).1, (h3 k hk).2⟩, fun k hk => ⟨hg k (h4 k hk).2.1 (h4 k hk).1, (h4 k hk).2⟩, hg tb h6 h5, h6⟩
theorem PairG.modNil {A B : (Nat → Prop) → World → Prop} {tb : Nat} {G : Nat → Prop} {w w' : World} (ka : Keeps tb A) (kb : KeepsR B) (h : PairG A B tb G w) (m : Mod nil w w') : PairG A B tb G w' := by
 obtain ⟨P, R, h1, h2, h3, h4, h5, h6⟩ := h
 have hs := m.size
 exact ⟨P, R, ka.mod h1 m (fun _ _ _ f => f), kb.mod h2 m (fun _ _ _ f => f), fun k hk => ⟨(h3 k hk).1, Nat.lt_of_lt_of_le (h3 k hk).2 hs⟩, fun k hk => ⟨(h4 k hk).1, Nat.lt_of_lt_of_le (h4 k hk).2.1 hs, (h4 k hk).2.2⟩, h5, Nat.lt_of_lt_of_le h6 hs⟩
theorem PairG.imp {A B A' B' : (Nat → Prop) → World → Prop} {tb : Nat} {G : Nat → Prop} {w : World} (h : PairG A B tb G w) (ha : ∀ P, A P w → A' P w) (hb : ∀ P, B P w → B' P w) : PairG A' B' tb G w := by
 obtain ⟨P, R, h1, h2, h3⟩ := h
 exact ⟨P, R, ha P h1, hb R h2, h3⟩
/-- the left one has made a step -/
theorem PairG.left {A' B : (Nat → Prop) → World → Prop} {tb : Nat} {G P R T : Nat → Prop} {w w' : World} (ka : Keeps tb A') (kb : KeepsR B) (h2 : B R w) (h3 : ∀ k, P k → G k ∧ k < w.heap.size) (h4 : ∀ k, R k → G k ∧ k < w.heap.size ∧ ¬ P k ∧ k ≠ tb) (h5 : G tb ∧ tb < w.heap.size)
  (new : A' (fun k => P k ∨ w.heap.size ≤ k) w') (m : Mod T w w') (hT : ∀ k, k < w.heap.size → T k → P k ∨ k = tb) : PairG A' B tb (fun k => G k ∨ w.heap.size ≤ k) w' ∧ Mod G w w' := by
 have hs := m.size
 refine ⟨⟨fun k => (P k ∨ w.heap.size ≤ k) ∧ k < w'.heap.size, R, ka.mono new (fun k hk h => ⟨h, hk⟩), kb.mod h2 m (fun k hk hR hTk => ?_), fun k hk => ⟨hk.1.imp (fun h => (h3 k h).1) id, hk.2⟩, fun k hk => ⟨.inl (h4 k hk).1, Nat.lt_of_lt_of_le (h4 k hk).2.1 hs, fun hp => ?_, (h4 k hk).2.2.2⟩, .inl h5.1, Nat.lt_of_lt_of_le h5.2 hs⟩, m.mono (fun k hk hTk => ?_)⟩
 ·rcases hT k hk hTk with h | h
  ·exact (h4 k hR).2.2.1 h
  ·exact (h4 k hR).2.2.2 h
 ·rcases hp.1 with h | h
  ·exact (h4 k hk).2.2.1 h
  ·have := (h4 k hk).2.1; omega
 ·rcases hT k hk hTk with h | h
  ·exact (h3 k h).1
  ·rw [h]; exact h5.1
/-- the right one has made a step -/
theorem PairG.right {A B' : (Nat → Prop) → World → Prop} {tb : Nat} {G P R T : Nat → Prop} {w w' : World} (ka : Keeps tb A) (kb : KeepsR B') (h1 : A P w) (h3 : ∀ k, P k → G k ∧ k < w.heap.size) (h4 : ∀ k, R k → G k ∧ k < w.heap.size ∧ ¬ P k ∧ k ≠ tb) (h5 : G tb ∧ tb < w.heap.size)
  (new : B' (fun k => R k ∨ w.heap.size ≤ k) w') (m : Mod T w w') (hT : ∀ k, k < w.heap.size → T k → R k) : PairG A B' tb (fun k => G k ∨ w.heap.size ≤ k) w' ∧ Mod G w w' := by
 have hs := m.size
 refine ⟨⟨P, fun k => (R k ∨ w.heap.size ≤ k) ∧ k < w'.heap.size, ka.mod h1 m (fun k hk hp hTk => ?_), kb.mono new (fun k hk h => ⟨h, hk⟩), fun k hk => ⟨.inl (h3 k hk).1, Nat.lt_of_lt_of_le (h3 k hk).2 hs⟩, fun k hk => ⟨hk.1.imp (fun h => (h4 k h).1) id, hk.2, fun hp => ?_, fun e => ?_⟩, .inl h5.1, Nat.lt_of_lt_of_le h5.2 hs⟩, m.mono (fun k hk hTk => (h4 k (hT k hk hTk)).1)⟩
 ·have hR := h4 k (hT k hk hTk)
  rcases hp with h | h
  ·exact hR.2.2.1 h
  ·exact hR.2.2.2 h
 ·rcases hk.1 with h | h
  ·exact (h4 k h).2.2.1 hp
  ·have := (h3 k hp).2; omega
 ·rcases hk.1 with h | h
  ·exact (h4 k h).2.2.2 e
  ·have := h5.2; omega
end Go.Proofs.YtdfahddpkkeldaaGreat

/- Words of 32 bits as the walk writes them ('u'), and math/bits.RotateLeft32 at the counts that SHA-256 has. -/
namespace Go.Proofs.YtdfahddpkkeldaaGreat
open Go.RowKit
def u (x : BitVec 32) : Int := (x.toNat : Int)
theorem u_lo (x : BitVec 32) : 0 ≤ u x := by unfold u; omega
theorem u_hi (x : BitVec 32) : u x < 4294967296 := by have := x.isLt; unfold u; omega
theorem u_ofInt (x : BitVec 32) : BitVec.ofInt 32 (u x) = x := by
 unfold u
 rw [BitVec.ofInt_natCast]
 exact BitVec.eq_of_toNat_eq (by simp)
theorem u_wrap (x : BitVec 32) : IntKind.u32.wrap (x.toNat : Int) = u x := by
  have := x.isLt
  simp only [IntKind.wrap, IntKind.bits, IntKind.signed, u]
  simp
  omega
theorem u_xor (x y : BitVec 32) : bits .xor .u32 (u x) (u y) = u (x ^^^ y) := by
 show IntKind.u32.wrap ((BitVec.ofInt 32 (u x) ^^^ BitVec.ofInt 32 (u y)).toNat : Int) = _
 rw [u_ofInt, u_ofInt, u_wrap]
theorem u_and (x y : BitVec 32) : bits .and .u32 (u x) (u y) = u (x &&& y) := by
 show IntKind.u32.wrap ((BitVec.ofInt 32 (u x) &&& BitVec.ofInt 32 (u y)).toNat : Int) = _
 rw [u_ofInt, u_ofInt, u_wrap]
theorem u_or (x y : BitVec 32) : bits .or .u32 (u x) (u y) = u (x ||| y) := by
 show IntKind.u32.wrap ((BitVec.ofInt 32 (u x) ||| BitVec.ofInt 32 (u y)).toNat : Int) = _
 rw [u_ofInt, u_ofInt, u_wrap]
theorem u_not (x : BitVec 32) : bits .xor .u32 4294967295 (u x) = u (~~~x) := by
 show IntKind.u32.wrap ((BitVec.ofInt 32 4294967295 ^^^ BitVec.ofInt 32 (u x)).toNat : Int) = _
 rw [u_ofInt, u_wrap, show BitVec.ofInt 32 4294967295 = BitVec.allOnes 32 from rfl, BitVec.allOnes_xor]
theorem u_add (x y : BitVec 32) : (u x + u y) % 4294967296 = u (x + y) := by
 unfold u
 rw [BitVec.toNat_add]
 omega
theorem u_addw (x y : BitVec 32) : IntKind.u32.wrap (u x + u y) = u (x + y) := by rw [IntKind.wrap_u32, u_add]
theorem u_notw (x : BitVec 32) : bits .xor .u32 (if IntKind.u32.signed = true then -1 else IntKind.u32.max) (u x) = u (~~~x) := u_not x
theorem u_shl (x : BitVec 32) (k : Nat) : (u x * (2 ^ k : Nat)) % 4294967296 = u (x <<< k) := by
 unfold u
 rw [BitVec.toNat_shiftLeft, Nat.shiftLeft_eq]
 simp
theorem u_shr (x : BitVec 32) (k : Nat) : u x / (2 ^ k : Nat) = u (x >>> k) := by
 unfold u
 rw [BitVec.toNat_ushiftRight, Nat.shiftRight_eq_div_pow]
 simp
/-- turned to the right by k -/
def ror (x : BitVec 32) (k : Nat) : BitVec 32 := x <<< (32 - k) ||| x >>> k
theorem rot7 (x : BitVec 32) (w : World) : Calls Tryz.prog 136 #[.int .u32 (u x), .int .i64 (-7)] w fun e w' => e = .returned (.int .u32 (u (ror x 7))) ∧ w = w' := by
 have e1 : IntKind.u64.wrap (-7) = 18446744073709551609 := by decide
 have e2 : bits .and .u64 18446744073709551609 31 = 25 := by decide
 have e3 : u x * 33554432 % 4294967296 = u (x <<< 25) := u_shl x 25
 have e4 : u x / 128 = u (x >>> 7) := u_shr x 7
 have e5 := u_or (x <<< 25) (x >>> 7)
 have h1 := u_lo x
 have h2 := u_hi x
 go_enter Tryz.func136, Tryz.ntmps136
 go_wp2_with fail
 go_ret
 refine ⟨?_, rfl⟩
 simp [ror, ← e5, ← e3, ← e4]
theorem rot18 (x : BitVec 32) (w : World) : Calls Tryz.prog 136 #[.int .u32 (u x), .int .i64 (-18)] w fun e w' => e = .returned (.int .u32 (u (ror x 18))) ∧ w = w' := by
 have e1 : IntKind.u64.wrap (-18) = 18446744073709551598 := by decide
 have e2 : bits .and .u64 18446744073709551598 31 = 14 := by decide
 have e3 : u x * 16384 % 4294967296 = u (x <<< 14) := u_shl x 14
 have e4 : u x / 262144 = u (x >>> 18) := u_shr x 18
 have e5 := u_or (x <<< 14) (x >>> 18)
 have h1 := u_lo x
 have h2 := u_hi x
 go_enter Tryz.func136, Tryz.ntmps136
 go_wp2_with fail
 go_ret
 refine ⟨?_, rfl⟩
 simp [ror, ← e5, ← e3, ← e4]
theorem rot17 (x : BitVec 32) (w : World) : Calls Tryz.prog 136 #[.int .u32 (u x), .int .i64 (-17)] w fun e w' => e = .returned (.int .u32 (u (ror x 17))) ∧ w = w' := by
 have e1 : IntKind.u64.wrap (-17) = 18446744073709551599 := by decide
 have e2 : bits .and .u64 18446744073709551599 31 = 15 := by decide
 have e3 : u x * 32768 % 4294967296 = u (x <<< 15) := u_shl x 15
 have e4 : u x / 131072 = u (x >>> 17) := u_shr x 17
 have e5 := u_or (x <<< 15) (x >>> 17)
 have h1 := u_lo x
 have h2 := u_hi x
 go_enter Tryz.func136, Tryz.ntmps136
 go_wp2_with fail
 go_ret
 refine ⟨?_, rfl⟩
 simp [ror, ← e5, ← e3, ← e4]
theorem rot19 (x : BitVec 32) (w : World) : Calls Tryz.prog 136 #[.int .u32 (u x), .int .i64 (-19)] w fun e w' => e = .returned (.int .u32 (u (ror x 19))) ∧ w = w' := by
 have e1 : IntKind.u64.wrap (-19) = 18446744073709551597 := by decide
 have e2 : bits .and .u64 18446744073709551597 31 = 13 := by decide
 have e3 : u x * 8192 % 4294967296 = u (x <<< 13) := u_shl x 13
 have e4 : u x / 524288 = u (x >>> 19) := u_shr x 19
 have e5 := u_or (x <<< 13) (x >>> 19)
 have h1 := u_lo x
 have h2 := u_hi x
 go_enter Tryz.func136, Tryz.ntmps136
 go_wp2_with fail
 go_ret
 refine ⟨?_, rfl⟩
 simp [ror, ← e5, ← e3, ← e4]
theorem rot6 (x : BitVec 32) (w : World) : Calls Tryz.prog 136 #[.int .u32 (u x), .int .i64 (-6)] w fun e w' => e = .returned (.int .u32 (u (ror x 6))) ∧ w = w' := by
 have e1 : IntKind.u64.wrap (-6) = 18446744073709551610 := by decide
 have e2 : bits .and .u64 18446744073709551610 31 = 26 := by decide
 have e3 : u x * 67108864 % 4294967296 = u (x <<< 26) := u_shl x 26
 have e4 : u x / 64 = u (x >>> 6) := u_shr x 6
 have e5 := u_or (x <<< 26) (x >>> 6)
 have h1 := u_lo x
 have h2 := u_hi x
 go_enter Tryz.func136, Tryz.ntmps136
 go_wp2_with fail
 go_ret
 refine ⟨?_, rfl⟩
 simp [ror, ← e5, ← e3, ← e4]
theorem rot11 (x : BitVec 32) (w : World) : Calls Tryz.prog 136 #[.int .u32 (u x), .int .i64 (-11)] w fun e w' => e = .returned (.int .u32 (u (ror x 11))) ∧ w = w' := by
 have e1 : IntKind.u64.wrap (-11) = 18446744073709551605 := by decide
 have e2 : bits .and .u64 18446744073709551605 31 = 21 := by decide
 have e3 : u x * 2097152 % 4294967296 = u (x <<< 21) := u_shl x 21
 have e4 : u x / 2048 = u (x >>> 11) := u_shr x 11
 have e5 := u_or (x <<< 21) (x >>> 11)
 have h1 := u_lo x
 have h2 := u_hi x
 go_enter Tryz.func136, Tryz.ntmps136
 go_wp2_with fail
 go_ret
 refine ⟨?_, rfl⟩
 simp [ror, ← e5, ← e3, ← e4]
theorem rot25 (x : BitVec 32) (w : World) : Calls Tryz.prog 136 #[.int .u32 (u x), .int .i64 (-25)] w fun e w' => e = .returned (.int .u32 (u (ror x 25))) ∧ w = w' := by
 have e1 : IntKind.u64.wrap (-25) = 18446744073709551591 := by decide
 have e2 : bits .and .u64 18446744073709551591 31 = 7 := by decide
 have e3 : u x * 128 % 4294967296 = u (x <<< 7) := u_shl x 7
 have e4 : u x / 33554432 = u (x >>> 25) := u_shr x 25
 have e5 := u_or (x <<< 7) (x >>> 25)
 have h1 := u_lo x
 have h2 := u_hi x
 go_enter Tryz.func136, Tryz.ntmps136
 go_wp2_with fail
 go_ret
 refine ⟨?_, rfl⟩
 simp [ror, ← e5, ← e3, ← e4]
theorem rot2 (x : BitVec 32) (w : World) : Calls Tryz.prog 136 #[.int .u32 (u x), .int .i64 (-2)] w fun e w' => e = .returned (.int .u32 (u (ror x 2))) ∧ w = w' := by
 have e1 : IntKind.u64.wrap (-2) = 18446744073709551614 := by decide
 have e2 : bits .and .u64 18446744073709551614 31 = 30 := by decide
 have e3 : u x * 1073741824 % 4294967296 = u (x <<< 30) := u_shl x 30
 have e4 : u x / 4 = u (x >>> 2) := u_shr x 2
 have e5 := u_or (x <<< 30) (x >>> 2)
 have h1 := u_lo x
 have h2 := u_hi x
 go_enter Tryz.func136, Tryz.ntmps136
 go_wp2_with fail
 go_ret
 refine ⟨?_, rfl⟩
 simp [ror, ← e5, ← e3, ← e4]
theorem rot13 (x : BitVec 32) (w : World) : Calls Tryz.prog 136 #[.int .u32 (u x), .int .i64 (-13)] w fun e w' => e = .returned (.int .u32 (u (ror x 13))) ∧ w = w' := by
 have e1 : IntKind.u64.wrap (-13) = 18446744073709551603 := by decide
 have e2 : bits .and .u64 18446744073709551603 31 = 19 := by decide
 have e3 : u x * 524288 % 4294967296 = u (x <<< 19) := u_shl x 19
 have e4 : u x / 8192 = u (x >>> 13) := u_shr x 13
 have e5 := u_or (x <<< 19) (x >>> 13)
 have h1 := u_lo x
 have h2 := u_hi x
 go_enter Tryz.func136, Tryz.ntmps136
 go_wp2_with fail
 go_ret
 refine ⟨?_, rfl⟩
 simp [ror, ← e5, ← e3, ← e4]
theorem rot22 (x : BitVec 32) (w : World) : Calls Tryz.prog 136 #[.int .u32 (u x), .int .i64 (-22)] w fun e w' => e = .returned (.int .u32 (u (ror x 22))) ∧ w = w' := by
 have e1 : IntKind.u64.wrap (-22) = 18446744073709551594 := by decide
 have e2 : bits .and .u64 18446744073709551594 31 = 10 := by decide
 have e3 : u x * 1024 % 4294967296 = u (x <<< 10) := u_shl x 10
 have e4 : u x / 4194304 = u (x >>> 22) := u_shr x 22
 have e5 := u_or (x <<< 10) (x >>> 22)
 have h1 := u_lo x
 have h2 := u_hi x
 go_enter Tryz.func136, Tryz.ntmps136
 go_wp2_with fail
 go_ret
 refine ⟨?_, rfl⟩
 simp [ror, ← e5, ← e3, ← e4]
end Go.Proofs.YtdfahddpkkeldaaGreat

/- Short forms of the steps through a region that draws its order. -/
namespace Go.Proofs.YtdfahddpkkeldaaGreat
section
variable {P : Program} {ops : Array Oper} {Q : Exit → Act → World → Prop} {md : Region.Mode} {S : World → Prop} {n : Nat}
theorem tH (i : Nat) {oi : Oper} {v : Value} {fuel : Nat} {listed : Array Bool} {a : Act} {w : World}
  (h : wpAnyH P md ops Q S fuel (listed.setIfInBounds i true) (a.put oi.dst v) w)
  (hi : ops[i]? = some oi := by exact rfl) (hy : ∀ w, S w → (execOp a.eval oi).run P w = .ok (.value v) w := by intro w h; (try dsimp only at h); first | (go_simp; done) | (go_simp; with_reducible rfl)) (hs : Region.noSelect ops = true := by kernel_rfl) (hf : Region.free md ops listed i = true := by kernel_rfl) (hr : (Region.ready md ops listed).contains i = true := by kernel_rfl)
  (hQ : ∀ c a w, Q (.panic c) (a.put oi.dst v) w → Q (.panic c) a w := by exact fun _ _ _ h => h) (hw : Region.wanted oi (yielded ops a.tmps) = true := by kernel_rfl) (hS : S w := by assumption) :
  wpAnyH P md ops Q S (fuel + 1) listed a w := wpAnyH_take hi hs hf hr hQ (Or.inl ⟨hw, hy⟩) hS h
theorem tF (i : Nat) {o : Oper} {v : Value} {f : Nat} {l : Array Bool} {a : Act} {w : World}
  (hS : l.getD n true = false → S w) (h : AnyTill P md ops Q S n f (l.setIfInBounds i true) (a.put o.dst v) w)
  (ho : ops[i]? = some o := by exact rfl) (hy : ∀ w, True → (execOp a.eval o).run P w = .ok (.value v) w := by intro w _; first | (go_simp; done) | (go_simp; with_reducible rfl)) (hs : Region.noSelect ops = true := by kernel_rfl) (hf : Region.free md ops l i = true := by kernel_rfl) (hr : (Region.ready md ops l).contains i = true := by kernel_rfl) (hni : (n == i) = false := by kernel_rfl)
  (hQ : ∀ c a w, Q (.panic c) (a.put o.dst v) w → Q (.panic c) a w := by exact fun _ _ _ h => h) (hw : Region.wanted o (yielded ops a.tmps) = true := by kernel_rfl) :
  AnyTill P md ops Q S n (f + 1) l a w := till_free ho hs hf hr hni hQ (Or.inl ⟨hw, hy⟩) hS h
theorem tT (i : Nat) {o : Oper} {v : Value} {f : Nat} {l : Array Bool} {a : Act} {w : World}
  (hS : S w) (h : AnyTill P md ops Q S n f (l.setIfInBounds i true) (a.put o.dst v) w)
  (ho : ops[i]? = some o := by exact rfl) (hy : ∀ w, S w → (execOp a.eval o).run P w = .ok (.value v) w := by intro w h; (try dsimp only at h); first | (go_simp; done) | (go_simp; with_reducible rfl)) (hs : Region.noSelect ops = true := by kernel_rfl) (hf : Region.free md ops l i = true := by kernel_rfl) (hr : (Region.ready md ops l).contains i = true := by kernel_rfl) (hwt : waitsOn md ops n i = true := by kernel_rfl) (hni : (n == i) = false := by kernel_rfl) (hnl : l.getD n true = false := by kernel_rfl)
  (hQ : ∀ c a w, Q (.panic c) (a.put o.dst v) w → Q (.panic c) a w := by exact fun _ _ _ h => h) (hw : Region.wanted o (yielded ops a.tmps) = true := by kernel_rfl) :
  AnyTill P md ops Q S n (f + 1) l a w := till_take ho hs hf hr hwt hni hnl hQ (Or.inl ⟨hw, hy⟩) hS h
theorem g0 (x : Oper) (l : List Oper) (h : 0 < (x :: l).length) : (x :: l)[0] = x := rfl
theorem g1 (x : Oper) (l : List Oper) (k : Nat) (h : k + 1 < (x :: l).length) : (x :: l)[k + 1] = l[k]'(by simpa using h) := rfl
theorem g2 (l : List Oper) (i : Nat) (h : i < l.toArray.size) : l.toArray[i] = l[i]'(by simpa using h) := rfl
theorem pT : (∀ (l : List Value) (i : Nat) (v : Value), l.toArray.setIfInBounds i v = (l.set i v).toArray) ∧ (∀ (l : List Bool) (i : Nat) (v : Bool), l.toArray.setIfInBounds i v = (l.set i v).toArray) ∧
  (∀ (x : Value) (l : List Value) (v : Value), (x :: l).set 0 v = v :: l) ∧ (∀ (x : Bool) (l : List Bool) (v : Bool), (x :: l).set 0 v = v :: l) ∧
  (∀ (x : Value) (l : List Value) (k : Nat) (v : Value), (x :: l).set (k + 1) v = x :: l.set k v) ∧ (∀ (x : Bool) (l : List Bool) (k : Nat) (v : Bool), (x :: l).set (k + 1) v = x :: l.set k v) ∧
  (∀ (l : List Oper) (i : Nat) (h : i < l.toArray.size), l.toArray[i] = l[i]'(by simpa using h)) ∧ (∀ (x : Oper) (l : List Oper) (h : 0 < (x :: l).length), (x :: l)[0] = x) ∧ (∀ (x : Oper) (l : List Oper) (k : Nat) (h : k + 1 < (x :: l).length), (x :: l)[k + 1] = l[k]'(by simpa using h)) :=
 ⟨fun _ _ _ => List.setIfInBounds_toArray .., fun _ _ _ => List.setIfInBounds_toArray .., fun _ _ _ => rfl, fun _ _ _ => rfl, fun _ _ _ _ => rfl, fun _ _ _ _ => rfl, fun _ _ _ => rfl, fun _ _ _ => rfl, fun _ _ _ _ => rfl⟩
/-- takes whose frame is laid out by themselves -/
theorem sH (i : Nat) {oi : Oper} {v : Value} {fuel : Nat} {listed l' : Array Bool} {a a' : Act} {w : World}
  (h : wpAnyH P md ops Q S fuel l' a' w)
  (hi : ops[i]? = some oi := by exact rfl) (hy : ∀ w, S w → (execOp a.eval oi).run P w = .ok (.value v) w := by intro w h; (try dsimp only at h); first | (go_simp; done) | (go_simp; with_reducible rfl)) (hs : Region.noSelect ops = true := by kernel_rfl) (hf : Region.free md ops listed i = true := by kernel_rfl) (hr : (Region.ready md ops listed).contains i = true := by kernel_rfl)
  (hQ : ∀ c a w, Q (.panic c) (a.put oi.dst v) w → Q (.panic c) a w := by exact fun _ _ _ h => h) (hw : Region.wanted oi (yielded ops a.tmps) = true := by kernel_rfl) (hS : S w := by assumption)
  (ha : a.put oi.dst v = a' := by (try simp only [Act.put, pT]); exact rfl) (hl : listed.setIfInBounds i true = l' := by (try simp only [pT]); exact rfl) :
  wpAnyH P md ops Q S (fuel + 1) listed a w := by subst ha; subst hl; exact tH i h hi hy hs hf hr hQ hw hS
theorem sS (i : Nat) {oi : Oper} {fuel : Nat} {listed l' : Array Bool} {a a' : Act} {w : World}
  (h : wpAnyH P md ops Q S fuel l' a' w)
  (hi : ops[i]? = some oi := by exact rfl) (hs : Region.noSelect ops = true := by kernel_rfl) (hf : Region.free md ops listed i = true := by kernel_rfl) (hr : (Region.ready md ops listed).contains i = true := by kernel_rfl)
  (hQ : ∀ c a w, Q (.panic c) (a.put oi.dst undef) w → Q (.panic c) a w := by exact fun _ _ _ h => h) (hw : Region.wanted oi (yielded ops a.tmps) = false := by kernel_rfl) (hS : S w := by assumption)
  (ha : a.put oi.dst undef = a' := by (try simp only [Act.put, pT]); exact rfl) (hl : listed.setIfInBounds i true = l' := by (try simp only [pT]); exact rfl) :
  wpAnyH P md ops Q S (fuel + 1) listed a w := by subst ha; subst hl; exact wpAnyH_take hi hs hf hr hQ (Or.inr ⟨hw, rfl⟩) hS h
theorem sF (i : Nat) {o : Oper} {v : Value} {f : Nat} {l l' : Array Bool} {a a' : Act} {w : World}
  (hS : l.getD n true = false → S w) (h : AnyTill P md ops Q S n f l' a' w)
  (ho : ops[i]? = some o := by exact rfl) (hy : ∀ w, True → (execOp a.eval o).run P w = .ok (.value v) w := by intro w _; first | (go_simp; done) | (go_simp; with_reducible rfl)) (hs : Region.noSelect ops = true := by kernel_rfl) (hf : Region.free md ops l i = true := by kernel_rfl) (hr : (Region.ready md ops l).contains i = true := by kernel_rfl) (hni : (n == i) = false := by kernel_rfl)
  (hQ : ∀ c a w, Q (.panic c) (a.put o.dst v) w → Q (.panic c) a w := by exact fun _ _ _ h => h) (hw : Region.wanted o (yielded ops a.tmps) = true := by kernel_rfl)
  (ha : a.put o.dst v = a' := by (try simp only [Act.put, pT]); exact rfl) (hl : l.setIfInBounds i true = l' := by (try simp only [pT]); exact rfl) :
  AnyTill P md ops Q S n (f + 1) l a w := by subst ha; subst hl; exact tF i hS h ho hy hs hf hr hni hQ hw
theorem sT (i : Nat) {o : Oper} {v : Value} {f : Nat} {l l' : Array Bool} {a a' : Act} {w : World}
  (hS : S w) (h : AnyTill P md ops Q S n f l' a' w)
  (ho : ops[i]? = some o := by exact rfl) (hy : ∀ w, S w → (execOp a.eval o).run P w = .ok (.value v) w := by intro w h; (try dsimp only at h); first | (go_simp; done) | (go_simp; with_reducible rfl)) (hs : Region.noSelect ops = true := by kernel_rfl) (hf : Region.free md ops l i = true := by kernel_rfl) (hr : (Region.ready md ops l).contains i = true := by kernel_rfl) (hwt : waitsOn md ops n i = true := by kernel_rfl) (hni : (n == i) = false := by kernel_rfl) (hnl : l.getD n true = false := by kernel_rfl)
  (hQ : ∀ c a w, Q (.panic c) (a.put o.dst v) w → Q (.panic c) a w := by exact fun _ _ _ h => h) (hw : Region.wanted o (yielded ops a.tmps) = true := by kernel_rfl)
  (ha : a.put o.dst v = a' := by (try simp only [Act.put, pT]); exact rfl) (hl : l.setIfInBounds i true = l' := by (try simp only [pT]); exact rfl) :
  AnyTill P md ops Q S n (f + 1) l a w := by subst ha; subst hl; exact tT i hS h ho hy hs hf hr hwt hni hnl hQ hw
/-- one alone that comes up next -/
theorem rT (i : Nat) {o : Oper} {f : Nat} {l : Array Bool} {a : Act} {w : World}
  (h : ∀ K : Act → World → Prop, Shut (∀ a w, ((l.setIfInBounds i true).getD n true = false → S w) → AnyTill P md ops Q S n f (l.setIfInBounds i true) a w → K a w) → if Region.wanted o (yielded ops a.tmps) = true then Oper.wp P o a w K Q else K (a.put o.dst undef) w)
  (ho : ops[i]? = some o := by exact rfl) (hr : Region.ready md ops l = [i] := by kernel_rfl) : AnyTill P md ops Q S n (f + 1) l a w :=
 till_ready hr (by simp) (till_cons ho h till_nil)
theorem rH (i : Nat) {o : Oper} {fuel : Nat} {listed : Array Bool} {a : Act} {w : World}
  (h : ∀ K' : Act → World → Prop, Shut (∀ a w, S w → (S w → wpAnyH P md ops Q S fuel (listed.setIfInBounds i true) a w) → K' a w) → if Region.wanted o (yielded ops a.tmps) = true then Oper.wp P o a w K' Q else K' (a.put o.dst undef) w)
  (ho : ops[i]? = some o := by exact rfl) (hr : Region.ready md ops listed = [i] := by kernel_rfl) : wpAnyH P md ops Q S (fuel + 1) listed a w :=
 wpAnyH_ready hr (by simp) (AllReadyH.cons ho h AllReadyH.nil)
/-- a world behind some draws and allocations -/
theorem mD {T : Nat → Prop} {a w : World} (h : Mod T a w := by (repeat (first | assumption | exact Mod.refl _ _ | refine Mod.drew ?_ | refine Mod.alloc ?_ _))) : Mod T a w := h
theorem mS {T : Nat → Prop} {a w : World} (h : Mod T a w := by (repeat (first | assumption | exact Mod.refl _ _ | refine Mod.drew ?_ | refine Mod.setCell ?_ _ _ (fun _ => rfl)))) : Mod T a w := h
end
end Go.Proofs.YtdfahddpkkeldaaGreat

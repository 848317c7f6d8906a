/- Plain facts on worlds and blocks that all walks of this seat share: what a call may turn (Mod), a block's cells. Nothing of the program is named here. -/
import Derived.WalkKit
import Derived.WalkSpells
import Derived.WalkLawsBesides
import Derived.Deep.QuietTactic
import Derived.BigQuiet
import Derived.Deep.RegionHeld3
import Derived.Deep.DeepCutAuto
import Derived.Deep.CutBlock
import Derived.Lib.Hide
import Derived.Test.YtjilbnpehgigjaaGreatChecked
import Derived.ProofKit
import Derived.OpenShut
import Derived.ShutString
import Derived.ChangeOld
import Derived.Deep.Slices
namespace Go.Proofs.YtjilbnpehgigjaaGreat
open Go.RowKit

/-- nothing turns but the blocks of S and what is new -/
structure Mod (S : Nat → Prop) (w w' : World) : Prop where
  os : w'.os = w.os
  tape : w'.tape = w.tape
  output : w'.output = w.output
  size : w.heap.size ≤ w'.heap.size
  block : ∀ k, k < w.heap.size → ¬ S k → w'.heap[k]? = w.heap[k]?

def nil : Nat → Prop := fun _ => False
theorem not_nil (k : Nat) : ¬ nil k := id
theorem Mod.refl (S : Nat → Prop) (w : World) : Mod S w w := ⟨rfl, rfl, rfl, Nat.le_refl _, fun _ _ _ => rfl⟩
theorem Mod.trans {S T : Nat → Prop} {a b c : World} (h : Mod S a b) (k : Mod T b c) (hT : ∀ i, i < a.heap.size → T i → S i) : Mod S a c :=
  ⟨k.os.trans h.os, k.tape.trans h.tape, k.output.trans h.output, Nat.le_trans h.size k.size, fun i hi hs =>
    (k.block i (Nat.lt_of_lt_of_le hi h.size) (fun ht => hs (hT i hi ht))).trans (h.block i hi hs)⟩
theorem Mod.thenNil {S : Nat → Prop} {a b c : World} (h : Mod S a b) (k : Mod nil b c) : Mod S a c := h.trans k (fun _ _ f => f.elim)
theorem Mod.mono {S T : Nat → Prop} {w w' : World} (h : Mod S w w') (hT : ∀ i, i < w.heap.size → S i → T i) : Mod T w w' :=
  ⟨h.os, h.tape, h.output, h.size, fun i hi ht => h.block i hi (fun hs => ht (hT i hi hs))⟩
theorem Mod.ofNil {S : Nat → Prop} {w w' : World} (h : Mod nil w w') : Mod S w w' := h.mono (fun _ _ f => f.elim)
theorem Mod.drew {S : Nat → Prop} {a w : World} (h : Mod S a w) : Mod S a w.drew := ⟨h.os, h.tape, h.output, h.size, h.block⟩
theorem Mod.drewN {S : Nat → Prop} {a w : World} (h : Mod S a w) (n : Nat) : Mod S a (w.drewN n) := ⟨h.os, h.tape, h.output, h.size, h.block⟩
theorem Mod.alloc {S : Nat → Prop} {a w : World} (h : Mod S a w) (o : Obj) : Mod S a (w.alloc o) :=
  ⟨h.os, h.tape, h.output, by have := h.size; simp; omega, fun k hk hs => (Below.heap_alloc _ _ _ (Nat.lt_of_lt_of_le hk h.size)).trans (h.block k hk hs)⟩
theorem Mod.setCell {S : Nat → Prop} {a w : World} (h : Mod S a w) (p : Addr) (u : Value) (hp : p.block < a.heap.size → S p.block) : Mod S a (w.setCell p u) :=
  ⟨h.os, h.tape, h.output, by have := h.size; simp [World.setCell]; omega, fun k hk hs =>
    (Below.heap_setCell _ _ _ _ (fun e => hs (by rw [e]; exact hp (by rw [← e]; exact hk)))).trans (h.block k hk hs)⟩
theorem Mod.below {w w' : World} (h : Mod nil w w') : Below w.heap.size w w' := ⟨h.os, h.tape, h.output, h.size, fun k hk => h.block k hk id⟩
theorem Mod.ofBelow {w w' : World} (h : Below w.heap.size w w') : Mod nil w w' := ⟨h.os, h.tape, h.output, h.size, fun k hk _ => h.block k hk⟩
/-- only block b is written: every other one stays -/
theorem Mod.ne {b : Nat} {w w' : World} (h : Mod (· = b) w w') (k : Nat) (hk : k < w.heap.size) (hb : k ≠ b) : w'.heap[k]? = w.heap[k]? := h.block k hk hb
/-- a write to blocks that are new since a -/
theorem Mod.new {S : Nat → Prop} {a b c : World} (h : Mod nil a b) (k : Mod S b c) (hS : ∀ i, S i → a.heap.size ≤ i) : Mod nil a c :=
  h.trans k (fun i hi hs => absurd (hS i hs) (by omega))

theorem size_setCell (w : World) (p : Addr) (v : Value) : (w.setCell p v).heap.size = w.heap.size := by simp [World.setCell]
theorem heap_lt {w : World} {b : Nat} {o : Obj} (h : w.heap[b]? = some o) : b < w.heap.size := by
  by_cases hb : b < w.heap.size
  · exact hb
  · rw [Array.getElem?_eq_none (by omega)] at h; cases h
theorem heap_setCell_same {w : World} {b off : Nat} {c : Array Value} {T : TypeId} {fr : Nat × Nat} (h : w.heap[b]? = some (.cells c T fr)) (v : Value) :
    (w.setCell ⟨b, off, none⟩ v).heap[b]? = some (.cells (c.setIfInBounds off v) T fr) := by
  simp [World.setCell, Array.getElem?_modify, h]
theorem heap_setCell_other {w : World} {b off k : Nat} (v : Value) (h : k ≠ b) : (w.setCell ⟨b, off, none⟩ v).heap[k]? = w.heap[k]? := Below.heap_setCell _ _ _ _ h
theorem heap_alloc_old {w : World} {b : Nat} {o o' : Obj} (h : w.heap[b]? = some o') : (w.alloc o).heap[b]? = some o' := by
  rw [Below.heap_alloc _ _ _ (heap_lt h)]; exact h
theorem Mod.keep {w w' : World} (m : Mod nil w w') {b : Nat} {o : Obj} (h : w.heap[b]? = some o) : w'.heap[b]? = some o := (m.block b (heap_lt h) (not_nil _)).trans h
theorem cell_of {w : World} {b : Nat} {c : Array Value} {T : TypeId} {fr : Nat × Nat} (h : w.heap[b]? = some (.cells c T fr)) (k : Nat) : w.cell? ⟨b, k, none⟩ = c[k]? := by
  simp [World.cell?, h]
theorem free_of {w : World} {b : Nat} {c : Array Value} {T : TypeId} (h : w.heap[b]? = some (.cells c T (0, 0))) (k : Nat) : w.frozen? ⟨b, k, none⟩ = false := by
  simp [World.frozen?, h]

/-- a row of ints as cells -/
def ints (l : List Int) : Array Value := (l.map (Value.int .i64)).toArray
theorem ints_get {l : List Int} {k : Nat} (h : k < l.length) : (ints l)[k]? = some (.int .i64 (l.getD k 0)) := by
  simp [ints, h]
theorem ints_set (l : List Int) (k : Nat) (x : Int) : (ints l).setIfInBounds k (.int .i64 x) = ints (l.set k x) := by
  simp [ints, List.map_set]

/-- a slice of one-cell elements that reads as xs; its block is in S -/
def IsRow (S : Nat → Prop) (w : World) (v : Value) (xs : List Value) : Prop :=
  ∃ p c, v = .slice p xs.length c ∧ ∀ i, i < xs.length → ∃ b off, p = some ⟨b, off, none⟩ ∧ S b ∧ b < w.heap.size ∧ w.cell? ⟨b, off + i, none⟩ = some (xs.getD i undef)
theorem IsRow.mod {S T : Nat → Prop} {w w' : World} {v : Value} {xs : List Value} (h : IsRow S w v xs) (m : Mod T w w') (hs : ∀ i, i < w.heap.size → S i → ¬ T i) : IsRow S w' v xs := by
  obtain ⟨p, c, rfl, hc⟩ := h
  refine ⟨p, c, rfl, fun i hi => ?_⟩
  obtain ⟨b, off, rfl, hS, hb, hx⟩ := hc i hi
  refine ⟨b, off, rfl, hS, Nat.lt_of_lt_of_le hb m.size, ?_⟩
  rw [← hx]
  exact World.cell?_of_block (w := w) (m.block b hb (hs b hb hS))
/-- a cell of a row's element in a later world -/
theorem cell_kept {S : Nat → Prop} {w w' : World} {b o : Nat} {v : Value} (h : w.cell? ⟨b, o, none⟩ = some v) (m : Mod S w w') (hb : b < w.heap.size) (hs : ¬ S b) : w'.cell? ⟨b, o, none⟩ = some v :=
  (World.cell?_of_block (w := w) (m.block b hb hs)).trans h
theorem IsRow.ofBlock {S : Nat → Prop} {w : World} {b : Nat} {xs : List Value} {T : TypeId} {fr : Nat × Nat} (h : w.heap[b]? = some (.cells xs.toArray T fr)) (hS : S b) (n c : Nat) (hn : n = xs.length) :
    IsRow S w (.slice (some ⟨b, 0, none⟩) n c) xs := by
  subst hn
  refine ⟨_, c, rfl, fun i hi => ⟨b, 0, rfl, hS, heap_lt h, ?_⟩⟩
  rw [cell_of h]; simp [hi]
theorem wrap64_wrap64_add (a b : Int) : wrap64 (wrap64 a + b) = wrap64 (a + b) := by unfold wrap64; omega
end Go.Proofs.YtjilbnpehgigjaaGreat

/- Package num. -/
namespace Go.Proofs.YtjilbnpehgigjaaGreat
open Go.RowKit
theorem numAmount (n : Int) (w : World) : Calls Tryz.prog 114 #[.int .i64 n] w fun e w' => e = .returned (.bool (decide (0 ≤ n ∧ n ≤ 4611686018427387904))) ∧ w = w' := by
  rcases (show n < 0 ∨ (0 ≤ n ∧ n ≤ 4611686018427387904) ∨ (0 ≤ n ∧ ¬ n ≤ 4611686018427387904) by omega) with h | ⟨h, h'⟩ | ⟨h, h'⟩
  all_goals
    go_enter Tryz.func114, Tryz.ntmps114
    go_wp2_with fail
    go_ret
    exact ⟨by simp; try omega, rfl⟩
end Go.Proofs.YtjilbnpehgigjaaGreat

/- What a statement's arguments are, said plainly: 'Rc w t cs': the cells cs read as a value of type t in the world w; 'Rd w t v': so does the value v. And what each shape gives. -/
namespace Go.Proofs.YtjilbnpehgigjaaGreat
open Go.ChangeShapes Go.WideShapes Go.ChangeAt Go.RowKit

def Rc (w : World) (t : TypeId) (cs : List Value) : Prop :=
  ∃ (H : Type) (enc : TypeId × Value → H) (fuel : Nat) (x : DataW H × List MemPlace), DataW.trod enc Tryz.prog w 0 (fun _ => true) true fuel t cs = some x
def Rd (w : World) (t : TypeId) (v : Value) : Prop := (∃ base, Value.okWide Tryz.prog w .any base t v) ∧ Rc w t v.cells.toList

theorem Rc.int {w : World} {t : TypeId} {cs : List Value} {k : IntKind} (ht : Tryz.prog.underlying t = some (.int k)) (h : Rc w t cs) : ∃ n, cs = [.int k n] ∧ (Lit.int k n).wf = true := by
  obtain ⟨H, enc, fuel, x, h⟩ := h
  obtain ⟨n, h, _, hw⟩ := DataW.trod_int ht h
  exact ⟨n, h, hw⟩
theorem Rc.bool {w : World} {t : TypeId} {cs : List Value} (ht : Tryz.prog.underlying t = some .bool) (h : Rc w t cs) : ∃ b, cs = [.bool b] := by
  obtain ⟨H, enc, fuel, x, h⟩ := h
  obtain ⟨b, h, _⟩ := DataW.trod_bool ht h
  exact ⟨b, h⟩
theorem Rc.string {w : World} {t : TypeId} {cs : List Value} (ht : Tryz.prog.underlying t = some .string) (h : Rc w t cs) : ∃ s, cs = [.string s] ∧ s.size ≤ maxLen := by
  obtain ⟨H, enc, fuel, x, h⟩ := h
  obtain ⟨s, h, _, hs⟩ := DataW.trod_string ht h
  exact ⟨s, h, hs⟩
theorem cells?_some {w : World} {base : Nat} {a : Addr} {n : Nat} {cs : List Value} (h : w.cells? base a n = some cs) : cs.length = n ∧ ∀ j, (hj : j < cs.length) → w.cell? (a.add j) = some cs[j] := by
  obtain ⟨_, hl, hc⟩ := World.cells?_some h
  refine ⟨hl, fun j hj => ?_⟩
  rw [hc j (by omega)]; simp [hj]
theorem cell?_spot {w : World} {a : Addr} {v : Value} (h : w.cell? a = some v) : a = ⟨a.block, a.off, none⟩ ∧ a.block < w.heap.size := by
  obtain ⟨e, n, hs, _, hsp⟩ := World.shape?_of_cell? h
  refine ⟨by cases a; simp_all, ?_⟩
  unfold World.shape? at hs
  split at hs
  · rename_i hb; exact heap_lt hb
  · cases hs
theorem Rc.slice {w : World} {t e : TypeId} {cs : List Value} (ht : Tryz.prog.underlying t = some (.slice e)) (hpos : 0 < Tryz.prog.cellsOf e) (h : Rc w t cs) :
    ∃ p len cap, cs = [.slice p len cap] ∧ len ≤ cap ∧ cap ≤ maxLen ∧ ∀ i, i < len → ∃ b off cs', p = some ⟨b, off, none⟩ ∧ b < w.heap.size ∧ cs'.length = Tryz.prog.cellsOf e ∧
      (∀ j, (hj : j < cs'.length) → w.cell? ⟨b, off + i * Tryz.prog.cellsOf e + j, none⟩ = some cs'[j]) ∧ Rc w e cs' := by
  obtain ⟨H, enc, fuel, x, h⟩ := h
  rcases Deep.open_slice ht h with ⟨rfl, _⟩ | ⟨a, len, cap, m, n, D, Pl, rfl, _, hl, hm, hmm, _, hall⟩
  · exact ⟨none, 0, 0, rfl, Nat.le_refl _, by simp, fun i hi => by omega⟩
  · refine ⟨some a, len, cap, rfl, hl, hm, fun i hi => ?_⟩
    have h0 : a = ⟨a.block, a.off, none⟩ ∧ a.block < w.heap.size := by
      obtain ⟨cs0, hc0, _⟩ := hall 0 (by simp at hmm; omega)
      obtain ⟨hl0, hcell0⟩ := cells?_some hc0
      have := hcell0 0 (by omega)
      simp only [Nat.zero_mul, Addr.add, if_true] at this
      exact cell?_spot this
    have hspot := h0.1
    have hblk := h0.2
    obtain ⟨ab, ao, asp⟩ := a
    have hsp : asp = none := by simpa using hspot
    subst hsp
    clear hspot h0
    have hadd2 : ∀ o j, (⟨ab, o, none⟩ : Addr).add j = ⟨ab, o + j, none⟩ := by
      intro o j; unfold Addr.add; split <;> simp_all
    obtain ⟨cs', hc, ht'⟩ := hall i (by simp at hmm; omega)
    obtain ⟨hlen, hcell⟩ := cells?_some hc
    exact ⟨ab, ao, cs', rfl, hblk, hlen, fun j hj => by have := hcell j hj; rw [hadd2, hadd2] at this; exact this, ⟨H, enc, n, _, ht'⟩⟩
theorem Rc.struct {w : World} {t : TypeId} {cs : List Value} {fs : Array Field} (ht : Tryz.prog.underlying t = some (.struct fs)) (h : Rc w t cs) :
    cs.length = Tryz.prog.cellsOf t ∧ ∀ (i : Nat) (f : Field), fs[i]? = some f → Rc w f.type ((cs.drop f.offset).take (Tryz.prog.cellsOf f.type)) := by
  obtain ⟨H, enc, fuel, x, hx⟩ := h
  obtain ⟨xs, n, _, _, hl, hxl, hf⟩ := DataW.trod_struct ht hx
  refine ⟨hl, fun i f hi => ?_⟩
  have hlt : i < xs.length := by rw [hxl]; exact (Array.getElem?_eq_some_iff.1 hi).1
  have := hf i f hi
  rw [List.getElem?_eq_getElem hlt] at this
  exact ⟨H, enc, n, _, this⟩
set_option maxRecDepth 100000 in
theorem Rd.struct {w : World} {t : TypeId} {v : Value} {fs : Array Field} (ht : Tryz.prog.underlying t = some (.struct fs)) (h : Rd w t v) :
    ∃ cs : List Value, v = .agg cs.toArray ∧ cs.length = Tryz.prog.cellsOf t ∧ ∀ (i : Nat) (f : Field), fs[i]? = some f → Rc w f.type ((cs.drop f.offset).take (Tryz.prog.cellsOf f.type)) := by
  obtain ⟨⟨base, h0⟩, h1⟩ := h
  obtain ⟨cs, rfl, _⟩ := okWide_struct ht h0
  exact ⟨cs.toList, by simp, h1.struct ht⟩
theorem choose_list {α : Type} {n : Nat} {P : Nat → α → Prop} (h : ∀ i, i < n → ∃ x, P i x) : ∃ l : List α, l.length = n ∧ ∀ i, (hi : i < l.length) → P i l[i] := by
  induction n with
  | zero => exact ⟨[], rfl, fun i hi => by simp at hi⟩
  | succ n ih =>
    obtain ⟨l, hl, hp⟩ := ih (fun i hi => h i (by omega))
    obtain ⟨x, hx⟩ := h n (by omega)
    refine ⟨l ++ [x], by simp [hl], fun i hi => ?_⟩
    by_cases hin : i < l.length
    · rw [List.getElem_append_left hin]; exact hp i hin
    · have : i = n := by simp at hi; omega
      subst this
      rw [List.getElem_append_right (by omega)]
      simpa [hl] using hx
set_option maxRecDepth 100000 in
theorem Rd.int {w : World} {t : TypeId} {v : Value} {k : IntKind} (ht : Tryz.prog.underlying t = some (.int k)) (h : Rd w t v) : ∃ n, v = .int k n ∧ (Lit.int k n).wf = true := by
  obtain ⟨⟨base, h0⟩, h1⟩ := h
  obtain ⟨n, rfl⟩ := okWide_int ht h0
  obtain ⟨m, hm, hw⟩ := h1.int ht
  simp [Value.cells] at hm
  subst hm
  exact ⟨n, rfl, hw⟩
set_option maxRecDepth 100000 in
theorem Rd.bool {w : World} {t : TypeId} {v : Value} (ht : Tryz.prog.underlying t = some .bool) (h : Rd w t v) : ∃ b, v = .bool b := by
  obtain ⟨⟨base, h0⟩, h1⟩ := h
  exact okWide_bool ht h0
set_option maxRecDepth 100000 in
theorem Rd.string {w : World} {t : TypeId} {v : Value} (ht : Tryz.prog.underlying t = some .string) (h : Rd w t v) : ∃ s, v = .string s ∧ s.size ≤ maxLen := by
  obtain ⟨⟨base, h0⟩, h1⟩ := h
  obtain ⟨s, rfl⟩ := okWide_string ht h0
  obtain ⟨m, hm, hw⟩ := h1.string ht
  simp [Value.cells] at hm
  subst hm
  exact ⟨s, rfl, hw⟩
set_option maxRecDepth 100000 in
theorem Rd.slice {w : World} {t e : TypeId} {v : Value} (ht : Tryz.prog.underlying t = some (.slice e)) (hpos : 0 < Tryz.prog.cellsOf e) (h : Rd w t v) :
    ∃ p len cap, v = .slice p len cap ∧ len ≤ cap ∧ cap ≤ maxLen ∧ ∀ i, i < len → ∃ b off cs', p = some ⟨b, off, none⟩ ∧ b < w.heap.size ∧ cs'.length = Tryz.prog.cellsOf e ∧
      (∀ j, (hj : j < cs'.length) → w.cell? ⟨b, off + i * Tryz.prog.cellsOf e + j, none⟩ = some cs'[j]) ∧ Rc w e cs' := by
  obtain ⟨⟨base, h0⟩, h1⟩ := h
  obtain ⟨p, len, cap, rfl⟩ := okWide_slice ht h0
  obtain ⟨p', len', cap', hm, r⟩ := h1.slice ht hpos
  simp [Value.cells] at hm
  obtain ⟨rfl, rfl, rfl⟩ := hm
  exact ⟨_, _, _, rfl, r⟩
set_option maxRecDepth 100000 in
/-- a slice of integers of one kind -/
theorem Rd.intRow {w : World} {t e : TypeId} {v : Value} {k : IntKind} (ht : Tryz.prog.underlying t = some (.slice e)) (he : Tryz.prog.underlying e = some (.int k)) (hc : Tryz.prog.cellsOf e = 1) (h : Rd w t v) :
    ∃ l : List Int, IsRow (· < w.heap.size) w v (l.map (.int k)) ∧ l.length ≤ maxLen ∧ ∀ x ∈ l, (Lit.int k x).wf = true := by
  obtain ⟨p, len, cap, rfl, hl, hm, hall⟩ := h.slice ht (by omega)
  have : ∀ i, i < len → ∃ x : Int, (Lit.int k x).wf = true ∧ ∃ b off, p = some ⟨b, off, none⟩ ∧ b < w.heap.size ∧ w.cell? ⟨b, off + i, none⟩ = some (.int k x) := by
    intro i hi
    obtain ⟨b, off, cs', hp, hb, hlen, hcell, hrc⟩ := hall i hi
    obtain ⟨x, rfl, hx⟩ := hrc.int he
    refine ⟨x, hx, b, off, hp, hb, ?_⟩
    have := hcell 0 (by simp)
    simpa [hc] using this
  obtain ⟨l, hlen, hP⟩ := choose_list this
  refine ⟨l, ⟨p, cap, by simp [hlen], fun i hi => ?_⟩, by omega, fun x hx => ?_⟩
  · simp at hi
    obtain ⟨_, b, off, hp, hb, hcell⟩ := hP i hi
    exact ⟨b, off, hp, hb, hb, by rw [hcell]; simp [hi]⟩
  · obtain ⟨i, hi, rfl⟩ := List.getElem_of_mem hx
    exact (hP i hi).1
end Go.Proofs.YtjilbnpehgigjaaGreat

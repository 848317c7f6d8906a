/- Plain facts on worlds and blocks that all walks of this seat share: what a call may turn (Mod), a block's cells. Nothing of the program is named here. -/
import Derived.WalkKit
import Derived.WalkSpells
import Derived.WalkLawsBesides
import Derived.Deep.QuietTactic
import Derived.BigQuiet
import Derived.Deep.RegionHeld3
import Derived.Deep.DeepCutAuto
import Derived.Deep.CutBlock
import Derived.Lib.Hide
import Derived.Test.YtdfpmlfdmhlhcaaGreatChecked
namespace Go.Proofs.YtdfpmlfdmhlhcaaGreat
open Go.RowKit

/-- nothing turns but the blocks of S and what is new -/
structure Mod (S : Nat → Prop) (w w' : World) : Prop where
  os : w'.os = w.os
  tape : w'.tape = w.tape
  output : w'.output = w.output
  size : w.heap.size ≤ w'.heap.size
  block : ∀ k, k < w.heap.size → ¬ S k → w'.heap[k]? = w.heap[k]?

def nil : Nat → Prop := fun _ => False
theorem not_nil (k : Nat) : ¬ nil k := id
theorem Mod.refl (S : Nat → Prop) (w : World) : Mod S w w := ⟨rfl, rfl, rfl, Nat.le_refl _, fun _ _ _ => rfl⟩
theorem Mod.trans {S T : Nat → Prop} {a b c : World} (h : Mod S a b) (k : Mod T b c) (hT : ∀ i, i < a.heap.size → T i → S i) : Mod S a c :=
  ⟨k.os.trans h.os, k.tape.trans h.tape, k.output.trans h.output, Nat.le_trans h.size k.size, fun i hi hs =>
    (k.block i (Nat.lt_of_lt_of_le hi h.size) (fun ht => hs (hT i hi ht))).trans (h.block i hi hs)⟩
theorem Mod.thenNil {S : Nat → Prop} {a b c : World} (h : Mod S a b) (k : Mod nil b c) : Mod S a c := h.trans k (fun _ _ f => f.elim)
theorem Mod.mono {S T : Nat → Prop} {w w' : World} (h : Mod S w w') (hT : ∀ i, i < w.heap.size → S i → T i) : Mod T w w' :=
  ⟨h.os, h.tape, h.output, h.size, fun i hi ht => h.block i hi (fun hs => ht (hT i hi hs))⟩
theorem Mod.ofNil {S : Nat → Prop} {w w' : World} (h : Mod nil w w') : Mod S w w' := h.mono (fun _ _ f => f.elim)
theorem Mod.drew {S : Nat → Prop} {a w : World} (h : Mod S a w) : Mod S a w.drew := ⟨h.os, h.tape, h.output, h.size, h.block⟩
theorem Mod.drewN {S : Nat → Prop} {a w : World} (h : Mod S a w) (n : Nat) : Mod S a (w.drewN n) := ⟨h.os, h.tape, h.output, h.size, h.block⟩
theorem Mod.alloc {S : Nat → Prop} {a w : World} (h : Mod S a w) (o : Obj) : Mod S a (w.alloc o) :=
  ⟨h.os, h.tape, h.output, by have := h.size; simp; omega, fun k hk hs => (Below.heap_alloc _ _ _ (Nat.lt_of_lt_of_le hk h.size)).trans (h.block k hk hs)⟩
theorem Mod.setCell {S : Nat → Prop} {a w : World} (h : Mod S a w) (p : Addr) (u : Value) (hp : p.block < a.heap.size → S p.block) : Mod S a (w.setCell p u) :=
  ⟨h.os, h.tape, h.output, by have := h.size; simp [World.setCell]; omega, fun k hk hs =>
    (Below.heap_setCell _ _ _ _ (fun e => hs (by rw [e]; exact hp (by rw [← e]; exact hk)))).trans (h.block k hk hs)⟩
theorem Mod.below {w w' : World} (h : Mod nil w w') : Below w.heap.size w w' := ⟨h.os, h.tape, h.output, h.size, fun k hk => h.block k hk id⟩
theorem Mod.ofBelow {w w' : World} (h : Below w.heap.size w w') : Mod nil w w' := ⟨h.os, h.tape, h.output, h.size, fun k hk _ => h.block k hk⟩
/-- only block b is written: every other one stays -/
theorem Mod.ne {b : Nat} {w w' : World} (h : Mod (· = b) w w') (k : Nat) (hk : k < w.heap.size) (hb : k ≠ b) : w'.heap[k]? = w.heap[k]? := h.block k hk hb
/-- a write to blocks that are new since a -/
theorem Mod.new {S : Nat → Prop} {a b c : World} (h : Mod nil a b) (k : Mod S b c) (hS : ∀ i, S i → a.heap.size ≤ i) : Mod nil a c :=
  h.trans k (fun i hi hs => absurd (hS i hs) (by omega))

theorem size_setCell (w : World) (p : Addr) (v : Value) : (w.setCell p v).heap.size = w.heap.size := by simp [World.setCell]
theorem heap_lt {w : World} {b : Nat} {o : Obj} (h : w.heap[b]? = some o) : b < w.heap.size := by
  by_cases hb : b < w.heap.size
  · exact hb
  · rw [Array.getElem?_eq_none (by omega)] at h; cases h
theorem heap_setCell_same {w : World} {b off : Nat} {c : Array Value} {T : TypeId} {fr : Nat × Nat} (h : w.heap[b]? = some (.cells c T fr)) (v : Value) :
    (w.setCell ⟨b, off, none⟩ v).heap[b]? = some (.cells (c.setIfInBounds off v) T fr) := by
  simp [World.setCell, Array.getElem?_modify, h]
theorem heap_setCell_other {w : World} {b off k : Nat} (v : Value) (h : k ≠ b) : (w.setCell ⟨b, off, none⟩ v).heap[k]? = w.heap[k]? := Below.heap_setCell _ _ _ _ h
theorem heap_alloc_old {w : World} {b : Nat} {o o' : Obj} (h : w.heap[b]? = some o') : (w.alloc o).heap[b]? = some o' := by
  rw [Below.heap_alloc _ _ _ (heap_lt h)]; exact h
theorem Mod.keep {w w' : World} (m : Mod nil w w') {b : Nat} {o : Obj} (h : w.heap[b]? = some o) : w'.heap[b]? = some o := (m.block b (heap_lt h) (not_nil _)).trans h
theorem cell_of {w : World} {b : Nat} {c : Array Value} {T : TypeId} {fr : Nat × Nat} (h : w.heap[b]? = some (.cells c T fr)) (k : Nat) : w.cell? ⟨b, k, none⟩ = c[k]? := by
  simp [World.cell?, h]
theorem free_of {w : World} {b : Nat} {c : Array Value} {T : TypeId} (h : w.heap[b]? = some (.cells c T (0, 0))) (k : Nat) : w.frozen? ⟨b, k, none⟩ = false := by
  simp [World.frozen?, h]

/-- a row of ints as cells -/
def ints (l : List Int) : Array Value := (l.map (Value.int .i64)).toArray
theorem ints_get {l : List Int} {k : Nat} (h : k < l.length) : (ints l)[k]? = some (.int .i64 (l.getD k 0)) := by
  simp [ints, h]
theorem ints_set (l : List Int) (k : Nat) (x : Int) : (ints l).setIfInBounds k (.int .i64 x) = ints (l.set k x) := by
  simp [ints, List.map_set]

/-- a slice of one-cell elements that reads as xs; its block is in S -/
def IsRow (S : Nat → Prop) (w : World) (v : Value) (xs : List Value) : Prop :=
  ∃ p c, v = .slice p xs.length c ∧ ∀ i, i < xs.length → ∃ b off, p = some ⟨b, off, none⟩ ∧ S b ∧ b < w.heap.size ∧ w.cell? ⟨b, off + i, none⟩ = some (xs.getD i undef)
theorem IsRow.mod {S T : Nat → Prop} {w w' : World} {v : Value} {xs : List Value} (h : IsRow S w v xs) (m : Mod T w w') (hs : ∀ i, i < w.heap.size → S i → ¬ T i) : IsRow S w' v xs := by
  obtain ⟨p, c, rfl, hc⟩ := h
  refine ⟨p, c, rfl, fun i hi => ?_⟩
  obtain ⟨b, off, rfl, hS, hb, hx⟩ := hc i hi
  refine ⟨b, off, rfl, hS, Nat.lt_of_lt_of_le hb m.size, ?_⟩
  rw [← hx]
  exact World.cell?_of_block (w := w) (m.block b hb (hs b hb hS))
/-- a cell of a row's element in a later world -/
theorem cell_kept {S : Nat → Prop} {w w' : World} {b o : Nat} {v : Value} (h : w.cell? ⟨b, o, none⟩ = some v) (m : Mod S w w') (hb : b < w.heap.size) (hs : ¬ S b) : w'.cell? ⟨b, o, none⟩ = some v :=
  (World.cell?_of_block (w := w) (m.block b hb hs)).trans h
theorem IsRow.ofBlock {S : Nat → Prop} {w : World} {b : Nat} {xs : List Value} {T : TypeId} {fr : Nat × Nat} (h : w.heap[b]? = some (.cells xs.toArray T fr)) (hS : S b) (n c : Nat) (hn : n = xs.length) :
    IsRow S w (.slice (some ⟨b, 0, none⟩) n c) xs := by
  subst hn
  refine ⟨_, c, rfl, fun i hi => ⟨b, 0, rfl, hS, heap_lt h, ?_⟩⟩
  rw [cell_of h]; simp [hi]
theorem wrap64_wrap64_add (a b : Int) : wrap64 (wrap64 a + b) = wrap64 (a + b) := by unfold wrap64; omega
end Go.Proofs.YtdfpmlfdmhlhcaaGreat

/- The walk over cflref.Has. -/
namespace Go.Proofs.YtdfpmlfdmhlhcaaGreat
open Go.RowKit

theorem refHas (S : Nat → Prop) (v : Value) (l : List Int) (x : Int) (w : World) (h : IsRow S w v (l.map (.int .i64))) (hl : l.length ≤ 9223372036854775807) :
    Calls Tryz.prog 146 #[v, .int .i64 x] w fun e w' => e = .returned (.bool (decide (x ∈ l))) ∧ w = w' := by
  obtain ⟨p, c, rfl, hc⟩ := h
  simp only [List.length_map] at *
  obtain ⟨n, hn⟩ : ∃ n, l.length = n := ⟨_, rfl⟩
  rw [hn] at hl ⊢
  have HN := Lib.hid hn
  have HC := Lib.hid hc
  obtain ⟨r, hr⟩ : ∃ r, decide (x ∈ l) = r := ⟨_, rfl⟩
  rw [hr]
  have HR := Lib.hid hr
  clear hn hc hr
  go_enter Tryz.func146, Tryz.ntmps146
  go_wp2_with fail
  go_loopw [5] (fun v wr => ∃ k : Nat, k ≤ n ∧ v = .int .i64 k ∧ Hid (x ∉ l.take k) ∧ wr = w) (fun v _ => n - (intOf v).toNat)
  case atStart => exact ⟨0, by omega, rfl, Lib.hid (by simp), rfl⟩
  case round =>
    obtain ⟨k, hk, rfl, HT, rfl⟩ := hrel
    by_cases hlt : k < n
    · have hkl : k < l.length := by have := HN.out; omega
      obtain ⟨b, o, rfl, _, _, hx⟩ := HC.out k hkl
      obtain ⟨y, hy⟩ : ∃ y, l[k] = y := ⟨_, rfl⟩
      have hcell : wr.cell? ⟨b, o + k, none⟩ = some (.int .i64 y) := by rw [hx, ← hy]; simp [hkl]
      have HY := Lib.hid hy
      clear hx hy
      by_cases he : y = x
      · have hb : (y == x) = true := by simpa using he
        go_wp2_with fail
        go_ret
        refine ⟨?_, rfl⟩
        rw [← HR.out]
        have : x ∈ l := by rw [← he, ← HY.out]; exact List.getElem_mem hkl
        simp [this]
      · have hb : (y == x) = false := by simpa using he
        go_wp2_with fail
        refine ⟨⟨k + 1, by omega, by go_num, Lib.hid ?_, trivial⟩, by simp [intOf]; omega⟩
        rw [← List.take_append_getElem hkl, List.mem_append, HY.out]
        simp only [List.mem_singleton]
        exact fun h => h.elim HT.out (fun h => he h.symm)
    · obtain rfl : k = n := by omega
      go_wp2_with fail
      go_ret
      refine ⟨?_, rfl⟩
      have h := HT.out
      rw [← HN.out, List.take_length] at h
      rw [← HR.out]
      simp [h]
end Go.Proofs.YtdfpmlfdmhlhcaaGreat

/- The walks over the references' small things (package cflref). -/
namespace Go.Proofs.YtdfpmlfdmhlhcaaGreat
open Go.RowKit

theorem refInts (S T : Nat → Prop) (va vb : Value) (la lb : List Int) (w : World) (ha : IsRow S w va (la.map (.int .i64))) (hb : IsRow T w vb (lb.map (.int .i64))) (hl : la.length ≤ 9223372036854775807) :
    Calls Tryz.prog 51 #[va, vb] w fun e w' => e = .returned (.bool (decide (la = lb))) ∧ ∃ n, w' = w.drewN n := by
  obtain ⟨pa, ca, rfl, hca⟩ := ha
  obtain ⟨pb, cb, rfl, hcb⟩ := hb
  simp only [List.length_map] at *
  by_cases hlen : la.length = lb.length
  · rw [← hlen] at hcb ⊢
    have HR := Lib.hid hlen
    clear hlen
    go_enter Tryz.func51, Tryz.ntmps51
    go_wp2
    go_loopw [5] (fun v wr => ∃ k n : Nat, k ≤ la.length ∧ v = .int .i64 k ∧ la.take k = lb.take k ∧ wr = w.drewN n) (fun v _ => la.length - (intOf v).toNat)
    case atStart => exact ⟨0, 0, by omega, rfl, by simp, rfl⟩
    case round =>
      obtain ⟨k, n, hk, rfl, htk, rfl⟩ := hrel
      have Htk := Lib.hid htk
      clear htk
      by_cases hlt : k < la.length
      · obtain ⟨ba, oa, rfl, _, _, hxa⟩ := hca k hlt
        obtain ⟨bb, ob, rfl, _, _, hxb⟩ := hcb k hlt
        obtain ⟨x, hx⟩ : ∃ x, la.getD k 0 = x := ⟨_, rfl⟩
        obtain ⟨y, hy⟩ : ∃ y, lb.getD k 0 = y := ⟨_, rfl⟩
        have hlt' : k < lb.length := HR.out ▸ hlt
        have hya : w.cell? ⟨ba, oa + k, none⟩ = some (Value.int IntKind.i64 x) := by rw [hxa, ← hx]; simp [hlt]
        have hyb : w.cell? ⟨bb, ob + k, none⟩ = some (Value.int IntKind.i64 y) := by rw [hxb, ← hy]; simp [hlt']
        have Hx := Lib.hid hx
        have Hy := Lib.hid hy
        clear hca hcb hxa hxb hx hy
        go_wp2
        go_quiet (fail)
        go_wp2
        · rename_i hne
          go_ret
          refine ⟨?_, _, World.drewN_drewN ..⟩
          have : la ≠ lb := by
            intro h
            have h1 := Hx.out; have h2 := Hy.out; rw [h] at h1; simp [← h1, ← h2] at hne
          simp [this]
        · rename_i hne
          refine ⟨⟨k + 1, _, by omega, by go_num, ?_, rfl⟩, by simp [intOf]; omega⟩
          have h1 := Hx.out; have h2 := Hy.out; have h3 := Htk.out
          have h5 : x = y := by simpa using hne
          rw [List.take_succ_eq_append_getElem hlt, List.take_succ_eq_append_getElem hlt', h3]
          simp [List.getD_eq_getElem?_getD, hlt, hlt'] at h1 h2
          rw [h1, h2, h5]
      · go_wp2
        go_ret
        obtain rfl : k = la.length := by omega
        refine ⟨?_, _, rfl⟩
        have := Htk.out
        rw [List.take_of_length_le (by omega), HR.out, List.take_of_length_le (by omega)] at this
        simp [this]
  · have hb1 : ((la.length : Int) != lb.length) = true := by rw [bne_iff_ne]; omega
    go_enter Tryz.func51, Tryz.ntmps51
    go_wp2
    go_ret
    exact ⟨by simp; intro h; exact hlen (by rw [h]), 0, rfl⟩
theorem refInts_blocks (b c T U n k m : Nat) (l : List Int) (w : World) (hb : w.heap[b]? = some (.cells (ints l) T (0, 0))) (hc : w.heap[c]? = some (.cells (ints l) U (0, 0))) (hn : n = l.length) (hl : n ≤ 9223372036854775807) :
    Calls Tryz.prog 51 #[.slice (some ⟨b, 0, none⟩) n k, .slice (some ⟨c, 0, none⟩) n m] w fun e w' => e = .returned (.bool true) ∧ Mod nil w w' :=
  (refInts (fun _ => True) (fun _ => True) _ _ l l w (.ofBlock hb trivial _ _ (by simp [hn])) (.ofBlock hc trivial _ _ (by simp [hn])) (hn ▸ hl)).mono (fun e w' ⟨h1, n, h2⟩ => ⟨by rw [h1]; simp, h2 ▸ (Mod.refl nil w).drewN n⟩)
end Go.Proofs.YtdfpmlfdmhlhcaaGreat

/-
  DERIVED: THE SHELF's CONTRACTS AT THIS DUMP, IN PLAIN WORDS (tools/lay-plain.mjs out of 'TryzShelf.lean', which tools/lay-shelf.mjs wrote): THE SAME DECLARATIONS UNDER THE SAME NAMES: 'import', 'namespace', 'open', 'def', 'theorem' AND NOTHING ELSE: no command of the shelf's: FOR A HAND-IN. Each laying: the table of numbers ('.._ren') and one theorem, a field a fact of the dump's own or the kernel's comparison; each contract: ONE APPLICATION.
-/
import Derived.Shelf.Small.Bits
import Derived.Shelf.Small.Wraps
import Derived.Shelf.Strconv.Itoa0
import Derived.Shelf.Sort.Plain
import Derived.Ground.Names2Prog
import Derived.Shelf.Slices.SearchI
import Derived.Shelf.Slices.In.SortNone
import Derived.Shelf.Bytes.Small
import Derived.Ground.NamesProg
import Derived.Test.YtjilbnpehgigjaaGreatProg
import Derived.Test.YtjilbnpehgigjaaGreatStep
namespace Go.Proofs
open Go.Shelf
def Tryz.lays189_ren : Go.Shelf.Ren := ⟨fun | 189 => 38 | 125 => 65 | 257 => 64 | 128 => 96 | 129 => 97 | 294 => 87 | 295 => 88 | 296 => 89 | 297 => 90 | 298 => 91 | 299 => 92 | 216 => 93 | 300 => 94 | 301 => 95 | 328 => 107 | 329 => 108 | 330 => 109 | 331 => 110 | 332 => 111 | 215 => 112 | 343 => 120 | n => n, fun | 28 => 58 | 3 => 3 | 46 => 113 | 0 => 0 | 51 => 67 | 53 => 131 | 4 => 4 | 183 => 136 | 182 => 135 | 131 => 140 | 5 => 5 | 9 => 9 | 218 => 161 | 222 => 165 | 228 => 172 | 229 => 173 | n => n, fun | n => n⟩
theorem Tryz.lays189 : Go.Proofs.Lays.n189 Tryz.prog Tryz.lays189_ren := {
  mixed := by kernel_rfl
  f125 := Tryz.func65.trans (congrArg some (by kernel_rfl))
  f128 := Tryz.func96.trans (congrArg some (by kernel_rfl))
  f129 := Tryz.func97.trans (congrArg some (by kernel_rfl))
  f189 := Tryz.func38.trans (congrArg some (by kernel_rfl))
  f215 := Tryz.func112.trans (congrArg some (by kernel_rfl))
  f216 := Tryz.func93.trans (congrArg some (by kernel_rfl))
  f257 := Tryz.func64.trans (congrArg some (by kernel_rfl))
  f294 := Tryz.func87.trans (congrArg some (by kernel_rfl))
  f295 := Tryz.func88.trans (congrArg some (by kernel_rfl))
  f296 := Tryz.func89.trans (congrArg some (by kernel_rfl))
  f297 := Tryz.func90.trans (congrArg some (by kernel_rfl))
  f298 := Tryz.func91.trans (congrArg some (by kernel_rfl))
  f299 := Tryz.func92.trans (congrArg some (by kernel_rfl))
  f300 := Tryz.func94.trans (congrArg some (by kernel_rfl))
  f301 := Tryz.func95.trans (congrArg some (by kernel_rfl))
  f328 := Tryz.func107.trans (congrArg some (by kernel_rfl))
  f329 := Tryz.func108.trans (congrArg some (by kernel_rfl))
  f330 := Tryz.func109.trans (congrArg some (by kernel_rfl))
  f331 := Tryz.func110.trans (congrArg some (by kernel_rfl))
  f332 := Tryz.func111.trans (congrArg some (by kernel_rfl))
  f343 := Tryz.func120.trans (congrArg some (by kernel_rfl))
  t0 := Tryz.underlying0
  a0 := Tryz.isAgg0
  z0 := Tryz.sizeOf0
  v0 := Tryz.zeroValue0
  t3 := Tryz.underlying3
  a3 := Tryz.isAgg3
  z3 := Tryz.sizeOf3
  v3 := Tryz.zeroValue3
  t4 := Tryz.underlying4
  a4 := Tryz.isAgg4
  z4 := Tryz.sizeOf4
  v4 := Tryz.zeroValue4
  t5 := Tryz.underlying5
  a5 := Tryz.isAgg5
  z5 := Tryz.sizeOf5
  v5 := Tryz.zeroValue5
  t9 := Tryz.underlying9
  a9 := Tryz.isAgg9
  z9 := Tryz.sizeOf9
  v9 := Tryz.zeroValue9
  t28 := Tryz.underlying58
  a28 := Tryz.isAgg58
  z28 := Tryz.sizeOf58
  v28 := Tryz.zeroValue58
  t46 := Tryz.underlying113
  a46 := Tryz.isAgg113
  z46 := Tryz.sizeOf113
  v46 := Tryz.zeroValue113
  t51 := Tryz.underlying67
  a51 := Tryz.isAgg67
  z51 := Tryz.sizeOf67
  v51 := Tryz.zeroValue67
  t53 := Tryz.underlying131
  a53 := Tryz.isAgg131
  z53 := Tryz.sizeOf131
  v53 := Tryz.zeroValue131
  t131 := Tryz.underlying140
  a131 := Tryz.isAgg140
  z131 := Tryz.sizeOf140
  v131 := Tryz.zeroValue140
  t182 := Tryz.underlying135
  a182 := Tryz.isAgg135
  z182 := Tryz.sizeOf135
  v182 := Tryz.zeroValue135
  t183 := Tryz.underlying136
  a183 := Tryz.isAgg136
  z183 := Tryz.sizeOf136
  v183 := Tryz.zeroValue136
  t218 := Tryz.underlying161
  a218 := Tryz.isAgg161
  z218 := Tryz.sizeOf161
  v218 := Tryz.zeroValue161
  t222 := Tryz.underlying165
  a222 := Tryz.isAgg165
  z222 := Tryz.sizeOf165
  v222 := Tryz.zeroValue165
  t228 := Tryz.underlying172
  a228 := Tryz.isAgg172
  z228 := Tryz.sizeOf172
  v228 := Tryz.zeroValue172
  t229 := Tryz.underlying173
  a229 := Tryz.isAgg173
  z229 := Tryz.sizeOf173
  v229 := Tryz.zeroValue173 }
open Go.Sort Go.RowKit in
theorem Tryz.slices_Sort_int (blk off cap : Nat) (zs : List Int) (w : World) (hH : Holds (Value.int .i64) w blk off zs.toArray) (hblk : blk < w.heap.size) (hsz : zs.length < 4611686018427387904) :
    Calls Tryz.prog 38 #[.slice (some ⟨blk, off, none⟩) zs.length cap] w fun e w' =>
      e = .returned (.tuple #[]) ∧ ∃ n os, w' = grow (putRow (Value.int .i64) (Sort.ahead w n) blk off (zs.mergeSort fun x y => decide (x ≤ y)).toArray) os := Any.slices_Sort_int Tryz.lays189 blk off cap zs w hH hblk hsz
open Go.RowKit Go.Sort in
/-- .. and plain. (LAID: no walk: one application.) -/
theorem Tryz.slices_Sort_int_none (p : Option Addr) (cap : Nat) (w : World) :
    Calls Tryz.prog 38 #[.slice p 0 cap] w fun e w' => e = .returned (.tuple #[]) ∧ w' = w := Any.slices_Sort_int_none Tryz.lays189 p cap w
end Go.Proofs

/- slices.Sort at []int, met by the shelf's contract, at a slice of the program's own; and plain laws of lists of keys. -/
namespace Go.Proofs.YtjilbnpehgigjaaGreat
open Go.RowKit

def asc (l : List Int) : List Int := l.mergeSort fun x y => decide (x ≤ y)
theorem asc_length (l : List Int) : (asc l).length = l.length := by simp [asc]
theorem asc_perm (l : List Int) : (asc l).Perm l := List.mergeSort_perm l _
theorem asc_sorted (l : List Int) : (asc l).Pairwise (· ≤ ·) := by
  have h := List.pairwise_mergeSort (le := fun x y : Int => decide (x ≤ y)) (by simp only [decide_eq_true_eq]; exact fun a b c h1 h2 => Int.le_trans h1 h2) (by simp only [Bool.or_eq_true, decide_eq_true_eq]; exact fun a b => by omega) l
  exact h.imp (fun h => by simpa using h)
theorem sorted_eq : ∀ {l l' : List Int}, l.Perm l' → l.Pairwise (· ≤ ·) → l'.Pairwise (· ≤ ·) → l = l'
  | [], l', h, _, _ => by simpa using h.symm
  | a :: l, l', h, h1, h2 => by
    cases l' with
    | nil => simp at h
    | cons b l' =>
      have ha : a ∈ b :: l' := h.subset (by simp)
      have hb : b ∈ a :: l := h.symm.subset (by simp)
      rw [List.pairwise_cons] at h1 h2
      have hab : a = b := by
        rcases List.mem_cons.1 ha with e | e
        · exact e
        · rcases List.mem_cons.1 hb with e' | e'
          · exact e'.symm
          · have := h1.1 b e'; have := h2.1 a e; omega
      subst hab
      rw [sorted_eq (List.Perm.cons_inv h) h1.2 h2.2]
theorem asc_eq {l l' : List Int} (h : l.Perm l') : asc l = asc l' :=
  sorted_eq ((asc_perm l).trans (h.trans (asc_perm l').symm)) (asc_sorted l) (asc_sorted l')
/-- different keys below n are at most n -/
theorem few_keys : ∀ (n : Nat) {l : List Int}, l.Nodup → (∀ k ∈ l, 0 ≤ k ∧ k < n) → l.length ≤ n
  | 0, l, _, h => by
    cases l with
    | nil => simp
    | cons a l => have := h a (by simp); omega
  | n + 1, l, hn, h => by
    have h1 := few_keys n (l := l.erase (n : Int)) (hn.erase _) (fun k hk => by
      rw [hn.mem_erase_iff] at hk
      have := h k hk.2
      omega)
    by_cases hm : (n : Int) ∈ l
    · rw [List.length_erase_of_mem hm] at h1; omega
    · rw [List.erase_of_not_mem hm] at h1; omega
theorem perm_key {left : List (Int × Value)} {k : Int} {v : Value} (hn : (left.map (·.1)).Nodup) (h : (k, v) ∈ left) :
    (left.map (·.1)).Perm (k :: (left.filter (fun p => p.1 ≠ k)).map (·.1)) := by
  have hm : k ∈ left.map (·.1) := List.mem_map.2 ⟨_, h, rfl⟩
  have h1 := List.perm_cons_erase hm
  rw [hn.erase_eq_filter, List.filter_map] at h1
  refine h1.trans ?_
  rw [show (left.filter ((fun x => x != k) ∘ fun x => x.1)) = left.filter (fun p => p.1 ≠ k) from by congr 1; funext p; rw [Bool.eq_iff_iff]; simp]
theorem nodup_left {left : List (Int × Value)} {k : Int} (hn : (left.map (·.1)).Nodup) : ((left.filter (fun p => p.1 ≠ k)).map (·.1)).Nodup :=
  List.Pairwise.sublist (List.filter_sublist.map _) hn

theorem vecSort (S : Nat → Prop) (E : TypeId) (v : Value) (l : List Int) (w : World) (h : IsVec S w E 1 v l.length (l.map (Value.int .i64))) (hlen : l.length < 4611686018427387904) :
    Calls Tryz.prog 38 #[v] w fun e w' => e = .returned (.tuple #[]) ∧ IsRow S w' v ((asc l).map (Value.int .i64)) ∧ Mod S w w' := by
  obtain ⟨⟨hl, h1⟩, h2⟩ := h
  rcases h1 with ⟨rfl, h0⟩ | ⟨g, cap, cur, rfl, hg, hh, hn, hm, hs, ht⟩
  · obtain rfl : l = [] := List.eq_nil_of_length_eq_zero h0
    refine (Tryz.slices_Sort_int_none none 0 w).mono ?_
    rintro e w' ⟨rfl, rfl⟩
    exact ⟨rfl, ⟨none, 0, by simp [asc], fun i hi => by simp [asc] at hi⟩, Mod.refl _ _⟩
  · have hcell : ∀ j, j < l.length → w.cell? ⟨g, j, none⟩ = some (.int .i64 (l.getD j 0)) := by
      intro j hj
      rw [cell_of hh]
      have := congrArg (fun x => x[j]?) ht
      simp only [Nat.mul_one] at this
      rw [List.getElem?_take_of_lt hj] at this
      simp at this
      rw [this]
      simp [hj]
    have hH : Go.Sort.Holds (Value.int .i64) w g 0 l.toArray := by
      intro j hj
      have hj' : j < l.length := by simpa using hj
      rw [Nat.zero_add]
      exact ⟨by rw [hcell j hj']; simp [hj', getElem!_pos], free_of hh j⟩
    have hgl : g < w.heap.size := heap_lt hh
    refine (Tryz.slices_Sort_int g 0 cap l w hH hgl hlen).mono ?_
    rintro e w' ⟨rfl, n, os, rfl⟩
    have hsz : (asc l).toArray.size = l.toArray.size := by simp [asc]
    refine ⟨rfl, ⟨_, cap, by simp [asc], fun i hi => ⟨g, 0, rfl, h2 g rfl, by simp [Go.Sort.ahead]; omega, ?_⟩⟩, ?_⟩
    · have hi' : i < (asc l).toArray.size := by simpa using hi
      have hi2 : i < (asc l).length := by simpa using hi
      rw [Go.Sort.cell?_grow _ _ _ (by simpa [Go.Sort.ahead] using hgl)]
      have := Go.Sort.cell?_putRow (Value.int .i64) (Go.Sort.ahead w n) g 0 l.toArray (asc l).toArray hH hsz i hi'
      rw [show (l.mergeSort fun x y => decide (x ≤ y)) = asc l from rfl, this]
      simp [hi2, getElem!_pos]
    · refine ⟨rfl, rfl, rfl, by simp [Go.Sort.ahead], fun k hk hne => ?_⟩
      rw [Go.Sort.heap_grow_old _ _ (by simpa [Go.Sort.ahead] using hk)]
      have hkg : g ≠ k := fun e => hne (e ▸ h2 g rfl)
      simp [Go.Sort.putRow, Go.Sort.mapBlock, Go.Sort.ahead, Array.getElem?_modify, hkg]
end Go.Proofs.YtjilbnpehgigjaaGreat

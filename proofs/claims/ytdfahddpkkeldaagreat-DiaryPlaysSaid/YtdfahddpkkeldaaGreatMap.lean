/- Maps whose keys are ints, said plainly: 'IMap w b m': block b is a map that holds the pairs m (in the order in which they came). What the map's operations do to it. Nothing of the program is named here. -/
import Derived.MapKept
import Derived.Laws.IdiomRangeMap
import Derived.Test.YtdfahddpkkeldaaGreatShort
namespace Go.Proofs.YtdfahddpkkeldaaGreat
open Go.RowKit Go.MapKept
section
variable {P : Program}
def entryOf (x : (Int × Value) × Nat) : MapEntry := { key := .int .i64 x.1.1, val := x.1.2, born := x.2 }
structure IMapAt (w : World) (b : Nat) (es : List ((Int × Value) × Nat)) (clock : Nat) : Prop where
 block : w.heap[b]? = some (.map (es.map entryOf).toArray clock)
 rising : es.Pairwise (fun x y => x.2 < y.2)
 old : ∀ x ∈ es, x.2 < clock
 nodup : (es.map (·.1.1)).Nodup
def IMap (w : World) (b : Nat) (m : List (Int × Value)) : Prop := ∃ es clock, IMapAt w b es clock ∧ m = es.map (·.1)
def iput (m : List (Int × Value)) (k : Int) (v : Value) : List (Int × Value) :=
 if k ∈ m.map (·.1) then m.map (fun p => if p.1 = k then (k, v) else p) else m ++ [(k, v)]
theorem IMap.lt {w : World} {b : Nat} {m : List (Int × Value)} (h : IMap w b m) : b < w.heap.size := by
 obtain ⟨es, clock, h, _⟩ := h; exact heap_lt h.block
theorem IMap.nodup {w : World} {b : Nat} {m : List (Int × Value)} (h : IMap w b m) : (m.map (·.1)).Nodup := by
 obtain ⟨es, clock, h, rfl⟩ := h; rw [List.map_map]; exact h.nodup
theorem IMap.mod {S : Nat → Prop} {w w' : World} {b : Nat} {m : List (Int × Value)} (h : IMap w b m) (d : Mod S w w') (hs : ¬ S b) : IMap w' b m := by
 obtain ⟨es, clock, h, rfl⟩ := h
 exact ⟨es, clock, ⟨(d.block b (heap_lt h.block) hs).trans h.block, h.rising, h.old, h.nodup⟩, rfl⟩
theorem IMap.new (w : World) : IMap (w.alloc (.map #[] 0)) w.heap.size [] :=
 ⟨[], 0, ⟨heap_alloc_new _ _, .nil, by simp, by simp⟩, rfl⟩
theorem find_int (k : Int) : ∀ (es : List ((Int × Value) × Nat)) (i : Nat),
  (k ∉ es.map (·.1.1) ∧ Instr.findNow (.int .i64) (.int .i64 k) (es.map entryOf) i = some none) ∨
  ∃ j x, es[j]? = some x ∧ x.1.1 = k ∧ Instr.findNow (.int .i64) (.int .i64 k) (es.map entryOf) i = some (some (i + j, x.1.2))
 | [], i => .inl ⟨by simp, rfl⟩
 | e :: es, i => by
  by_cases h : k = e.1.1
  ·exact .inr ⟨0, e, rfl, h.symm, by simp [Instr.findNow, entryOf, Instr.sameNow, h]⟩
  ·have hf : Instr.findNow (.int .i64) (.int .i64 k) ((e :: es).map entryOf) i = Instr.findNow (.int .i64) (.int .i64 k) (es.map entryOf) (i + 1) := by
    have : (k == e.1.1) = false := by simpa using h
    simp [Instr.findNow, entryOf, Instr.sameNow, this]
   rcases find_int k es (i + 1) with ⟨h1, h2⟩ | ⟨j, x, h1, h2, h3⟩
   ·exact .inl ⟨by simp only [List.map_cons, List.mem_cons, not_or]; exact ⟨h, h1⟩, by rw [hf, h2]⟩
   ·exact .inr ⟨j + 1, x, by simpa using h1, h2, by rw [hf, h3]; congr 3; omega⟩
theorem isKey_int (k : Int) : IsKey (.int .i64) (.int .i64 k) := rfl
theorem run_lookup_some {w : World} {b : Nat} {m : List (Int × Value)} {t kt et : TypeId} (ht : P.underlying t = some (.map kt et)) (hk : P.underlying kt = some (.int .i64)) (h : IMap w b m) {k : Int} {v : Value} (hkv : (k, v) ∈ m) :
  (Instr.lookup t (.map (some b)) (.int .i64 k) true).run P w = .ok (.tuple #[v, .bool true]) w := by
 obtain ⟨es, clock, h, rfl⟩ := h
 rcases find_int k es 0 with ⟨h1, _⟩ | ⟨j, x, h1, h2, h3⟩
 ·exfalso; apply h1
  obtain ⟨y, hy, hy2⟩ := List.mem_map.1 hkv
  exact List.mem_map.2 ⟨y, hy, by rw [hy2]⟩
 ·have hx : x.1 = (k, v) := by
   obtain ⟨y, hy, hy2⟩ := List.mem_map.1 hkv
   obtain ⟨i, hi, rfl⟩ := List.getElem_of_mem hy
   obtain ⟨hj, rfl⟩ := List.getElem?_eq_some_iff.1 h1
   have hn := h.nodup
   have hij : i = j := by
    have e1 : (es.map (·.1.1))[i]'(by simpa) = (es.map (·.1.1))[j]'(by simpa) := by simp [h2, hy2]
    exact (List.getElem_inj hn).1 e1
   subst hij
   exact hy2
  simp only [Instr.lookup, Sem.run_bind, run_underlying ht, Result.andThen, MapKept.run_getObj_map h.block, run_checkKey hk (isKey_int k)]
  simp [run_findKey hk h3, hx]
theorem run_lookup_none {w : World} {b : Nat} {m : List (Int × Value)} {t kt et : TypeId} (ht : P.underlying t = some (.map kt et)) (hk : P.underlying kt = some (.int .i64)) {z : Value} (hz : (zeroValue et).run P w = .ok z w) (h : IMap w b m) {k : Int} (hkv : k ∉ m.map (·.1)) :
  (Instr.lookup t (.map (some b)) (.int .i64 k) true).run P w = .ok (.tuple #[z, .bool false]) w := by
 obtain ⟨es, clock, h, rfl⟩ := h
 rcases find_int k es 0 with ⟨h1, h3⟩ | ⟨j, x, h1, h2, h3⟩
 ·simp only [Instr.lookup, Sem.run_bind, run_underlying ht, Result.andThen, MapKept.run_getObj_map h.block, run_checkKey hk (isKey_int k)]
  simp [run_findKey hk h3, hz]
 ·exfalso; apply hkv
  exact List.mem_map.2 ⟨x.1, List.mem_map.2 ⟨x, List.mem_of_getElem? h1, rfl⟩, h2⟩
theorem mod_setBlock (w : World) (r : Nat) (o : Obj) : Mod (· = r) w { w with heap := w.heap.setIfInBounds r o } :=
 ⟨rfl, rfl, rfl, by simp, fun k hk hne => by simp only; rw [Array.getElem?_setIfInBounds_ne (Ne.symm hne)]⟩
theorem run_update {w : World} {b : Nat} {m : List (Int × Value)} {t kt et : TypeId} (ht : P.underlying t = some (.map kt et)) (hk : P.underlying kt = some (.int .i64)) (h : IMap w b m) (k : Int) (v : Value) :
  ∃ w', (Instr.mapUpdate t (.map (some b)) (.int .i64 k) v).run P w = .ok () w' ∧ IMap w' b (iput m k v) ∧ Mod (· = b) w w' ∧ w'.heap.size = w.heap.size := by
 obtain ⟨es, clock, h, rfl⟩ := h
 have hlt := heap_lt h.block
 rcases find_int k es 0 with ⟨h1, h3⟩ | ⟨j, x, h1, h2, h3⟩
 ·have hin : k ∉ (es.map (·.1)).map (·.1) := by rw [List.map_map]; exact h1
  refine ⟨{ w with heap := w.heap.setIfInBounds b (.map ((es ++ [((k, v), clock)]).map entryOf).toArray (clock + 1)) }, ?_, ⟨es ++ [((k, v), clock)], clock + 1, ⟨?_, ?_, ?_, ?_⟩, ?_⟩, mod_setBlock _ _ _, by simp⟩
  ·simp only [Instr.mapUpdate, Sem.run_bind, run_underlying ht, Result.andThen, MapKept.run_getObj_map h.block, run_checkKey hk (isKey_int k)]
   simp only [run_findKey hk h3]
   rw [run_setObj_map _ h.block]
   simp [entryOf]
  ·simp [hlt]
  ·rw [List.pairwise_append]
   exact ⟨h.rising, by simp, fun x hx y hy => by simp at hy; subst hy; exact h.old x hx⟩
  ·intro x hx
   rcases List.mem_append.1 hx with hx | hx
   ·have := h.old x hx; omega
   ·simp at hx; subst hx; simp
  ·rw [List.map_append, List.nodup_append]
   refine ⟨h.nodup, by simp, fun a ha b hb => ?_⟩
   simp at hb; subst hb; intro e; subst e; exact h1 ha
  ·unfold iput; rw [if_neg hin]; simp
 ·obtain ⟨hj, rfl⟩ := List.getElem?_eq_some_iff.1 h1
  have hin : k ∈ (es.map (·.1)).map (·.1) := by rw [List.map_map]; exact List.mem_map.2 ⟨es[j], List.getElem_mem hj, h2⟩
  have hset : (es.set j ((k, v), es[j].2)).map (·.1) = iput (es.map (·.1)) k v := by
   unfold iput
   rw [if_pos hin]
   apply List.ext_getElem (by simp)
   intro i h1' h2'
   have hi : i < es.length := by simpa using h1'
   simp only [List.getElem_map, List.getElem_set]
   by_cases hij : j = i
   ·subst hij; simp [h2]
   ·have : es[i].1.1 ≠ k := by
     intro e
     apply hij
     have hn := h.nodup
     have e1 : (es.map (·.1.1))[j]'(by simpa) = (es.map (·.1.1))[i]'(by simpa using hi) := by simp [h2, e]
     exact (List.getElem_inj hn).1 e1
    simp [hij, this]
  have hkeys : (es.set j ((k, v), es[j].2)).map (·.1.1) = es.map (·.1.1) := by
   apply List.ext_getElem (by simp)
   intro i h1' h2'
   simp only [List.getElem_map, List.getElem_set]
   split
   ·rename_i e; subst e; simp [h2]
   ·rfl
  have hborn : (es.set j ((k, v), es[j].2)).map (·.2) = es.map (·.2) := by
   apply List.ext_getElem (by simp)
   intro i h1' h2'
   simp only [List.getElem_map, List.getElem_set]
   split
   ·rename_i e; subst e; simp
   ·rfl
  refine ⟨{ w with heap := w.heap.setIfInBounds b (.map ((es.set j ((k, v), es[j].2)).map entryOf).toArray clock) }, ?_, ⟨es.set j ((k, v), es[j].2), clock, ⟨?_, ?_, ?_, ?_⟩, hset.symm⟩, mod_setBlock _ _ _, by simp⟩
  ·simp only [Instr.mapUpdate, Sem.run_bind, run_underlying ht, Result.andThen, MapKept.run_getObj_map h.block, run_checkKey hk (isKey_int k)]
   simp only [run_findKey hk h3]
   have hkey : ((((es.map entryOf).toArray[0 + j]?).map (·.key)).getD (.int .i64 k)) = .int .i64 k := by simp [hj, entryOf, h2]
   simp only [Sem.run_bind, hkey, Instr.keyThatStays, Instr.sameBits]
   simp only [beq_self_eq_true, Bool.and_self, if_true, Sem.run_pure, Result.andThen]
   rw [run_setObj_map _ h.block]
   congr 4
   apply Array.ext (by simp)
   intro i h1' h2'
   simp at h1' h2'
   simp only [Array.getElem_modify, List.getElem_toArray, List.getElem_map, List.getElem_set]
   by_cases hij : j = i
   ·subst hij; simp [entryOf]
   ·have : ¬ 0 + j = i := by omega
    simp [hij]
  ·simp [hlt]
  ·have : (es.map (·.2)).Pairwise (· < ·) := List.pairwise_map.2 h.rising
   rw [← hborn] at this
   exact List.pairwise_map.1 this
  ·intro x hx
   have : x.2 ∈ (es.set j ((k, v), es[j].2)).map (·.2) := List.mem_map.2 ⟨x, hx, rfl⟩
   rw [hborn] at this
   obtain ⟨y, hy, hy2⟩ := List.mem_map.1 this
   rw [← hy2]; exact h.old y hy
  ·rw [hkeys]; exact h.nodup
theorem run_clear {w : World} {b : Nat} {m : List (Int × Value)} {t kt et r : TypeId} (ht : P.underlying t = some (.map kt et)) (h : IMap w b m) :
  ∃ w', (Builtin.clear_ #[t] r #[.map (some b)]).run P w = .ok (.tuple #[]) w' ∧ IMap w' b [] ∧ Mod (· = b) w w' ∧ w'.heap.size = w.heap.size := by
 obtain ⟨es, clock, h, rfl⟩ := h
 have hlt := heap_lt h.block
 refine ⟨{ w with heap := w.heap.setIfInBounds b (.map #[] clock) }, ?_, ⟨[], clock, ⟨by simp [hlt], .nil, by simp, by simp⟩, rfl⟩, mod_setBlock _ _ _, by simp⟩
 simp only [Builtin.clear_]
 simp [run_underlying ht, Result.andThen, MapKept.run_getObj_map h.block, run_setObj_map _ h.block]
/-- block r is an iterator over the map of block b, which holds m; what has not come out yet is 'left' -/
def IIter (w : World) (r b : Nat) (m left : List (Int × Value)) : Prop :=
 ∃ es clock seen since last, IMapAt w b es clock ∧ m = es.map (·.1) ∧ w.heap[r]? = some (.mapIter (some b) since seen last) ∧ (∀ x ∈ es, x.2 < since) ∧ since ≤ last ∧ since ≤ clock ∧
  left = (es.filter (fun x => !seen.contains x.2)).map (·.1)
theorem IIter.map {w : World} {r b : Nat} {m left : List (Int × Value)} (h : IIter w r b m left) : IMap w b m := by
 obtain ⟨es, clock, seen, since, last, h1, h2, _⟩ := h; exact ⟨es, clock, h1, h2⟩
theorem IIter.lt {w : World} {r b : Nat} {m left : List (Int × Value)} (h : IIter w r b m left) : r < w.heap.size := by
 obtain ⟨es, clock, seen, since, last, _, _, h1, _⟩ := h; exact heap_lt h1
theorem IIter.mod {S : Nat → Prop} {w w' : World} {r b : Nat} {m left : List (Int × Value)} (h : IIter w r b m left) (d : Mod S w w') (hr : ¬ S r) (hb : ¬ S b) : IIter w' r b m left := by
 obtain ⟨es, clock, seen, since, last, h1, h2, h3, h4⟩ := h
 exact ⟨es, clock, seen, since, last, ⟨(d.block b (heap_lt h1.block) hb).trans h1.block, h1.rising, h1.old, h1.nodup⟩, h2, (d.block r (heap_lt h3) hr).trans h3, h4⟩
theorem run_range {w : World} {b : Nat} {m : List (Int × Value)} {t kt et : TypeId} (ht : P.underlying t = some (.map kt et)) (h : IMap w b m) :
  ∃ w', (Instr.range t (.map (some b))).run P w = .ok (.pointer (some ⟨w.heap.size, 0, none⟩)) w' ∧ IIter w' w.heap.size b m m ∧ Mod nil w w' ∧ w'.heap.size = w.heap.size + 1 := by
 obtain ⟨es, clock, h, rfl⟩ := h
 refine ⟨_, Go.run_range_map w t kt et b _ clock ht h.block, ⟨es, clock, #[], clock, clock, ⟨heap_alloc_old h.block, h.rising, h.old, h.nodup⟩, rfl, heap_alloc_new _ _, h.old, Nat.le_refl _, Nat.le_refl _, by simp [List.filter_eq_self.2]⟩, (Mod.refl _ _).alloc _, by simp⟩
theorem run_next {w : World} {r b : Nat} {m left : List (Int × Value)} (ty : TypeId) (h : IIter w r b m left) :
    (left = [] ∧ (Instr.next (.pointer (some ⟨r, 0, none⟩)) false ty).run P w = .ok (.tuple #[.bool false]) w) ∨
    ∃ k v w', (k, v) ∈ left ∧ (Instr.next (.pointer (some ⟨r, 0, none⟩)) false ty).run P w = .ok (.tuple #[.bool true, .int .i64 k, v]) w' ∧ IIter w' r b m (left.filter (fun p => p.1 ≠ k)) ∧ Mod (· = r) w w' ∧ w'.heap.size = w.heap.size ∧
      (Instr.entry (.pointer (some ⟨r, 0, none⟩))).run P w' = .ok (.tuple #[.int .i64 k, v]) w' := by
  obtain ⟨es, clock, seen, since, last, hm, rfl, hr, hold, hsc, hcl, rfl⟩ := h
  have hne0 : r ≠ b := by intro e; subst e; have := hm.block; rw [hr] at this; cases this
  have hold' : ∀ x ∈ (es.map entryOf).toArray.toList, x.born < since := by
    intro x hx
    simp at hx
    obtain ⟨a, v, n, hin, rfl⟩ := hx
    exact hold _ hin
  have hL : (es.map entryOf).toArray.filter (fun e => !seen.contains e.born) = ((es.filter (fun x => !seen.contains x.2)).map entryOf).toArray := by
    apply Array.toList_inj.1
    simp only [Array.toList_filter, List.filter_map]
    rfl
  simp only [Instr.next, getObj, Sem.run_bind, Sem.run, hr, hm.block, Result.andThen, next_test_false seen _ since last hold' hsc, Bool.false_eq_true, if_false]
  simp only [hL]
  have hmem : ∀ x ∈ es.filter (fun x => !seen.contains x.2), x.2 < since := fun x hx => hold x (List.mem_filter.1 hx).1
  have hsub : ∀ x ∈ es.filter (fun x => !seen.contains x.2), x ∈ es := fun x hx => (List.mem_filter.1 hx).1
  have hfil : ∀ (k : Int × Value) n, (k, n) ∈ es → (es.filter (fun x => !(seen.push n).contains x.2)).map (·.1) = ((es.filter (fun x => !seen.contains x.2)).map (·.1)).filter (fun p => p.1 ≠ k.1) := by
    intro k n hin
    rw [List.filter_map, List.filter_filter]
    congr 1
    apply List.filter_congr
    intro x hx
    have hb : (x.2 = n) ↔ (x.1.1 = k.1) := by
      constructor
      · intro e
        have hpw := hm.rising
        have hnd : (es.map (·.2)).Nodup := (List.pairwise_map.2 hm.rising).imp (fun h => Nat.ne_of_lt h)
        obtain ⟨i, hi, rfl⟩ := List.getElem_of_mem hx
        obtain ⟨j, hj, hj2⟩ := List.getElem_of_mem hin
        have e1 : (es.map (·.2))[i]'(by simpa) = (es.map (·.2))[j]'(by simpa) := by simp [hj2, e]
        have := (List.getElem_inj hnd).1 e1
        subst this; rw [hj2]
      · intro e
        have hnd := hm.nodup
        obtain ⟨i, hi, rfl⟩ := List.getElem_of_mem hx
        obtain ⟨j, hj, hj2⟩ := List.getElem_of_mem hin
        have e1 : (es.map (·.1.1))[i]'(by simpa) = (es.map (·.1.1))[j]'(by simpa) := by simp [hj2, e]
        have := (List.getElem_inj hnd).1 e1
        subst this; rw [hj2]
    simp only [Array.contains_push, Function.comp, Bool.not_or]
    by_cases h : x.2 = n
    · simp [h, hb.1 h]
    · have : x.1.1 ≠ k.1 := fun e => h (hb.2 e)
      simp [h, this]
  generalize es.filter (fun x => !seen.contains x.2) = L at hmem hsub hfil ⊢
  have e1 : (L.map entryOf).toArray.filter (fun x => decide (x.born < since)) = (L.map entryOf).toArray := Array.filter_eq_self.2 (fun x hx => by
    simp at hx; obtain ⟨a, v, n, hin, rfl⟩ := hx; exact decide_eq_true (hmem _ hin))
  have e2 : (L.map entryOf).toArray.filter (fun x => decide (x.born ≥ since)) = #[] := by
    rw [Array.filter_eq_empty_iff]
    intro x hx
    simp at hx; obtain ⟨a, v, n, hin, rfl⟩ := hx
    have := hmem _ hin
    simp [entryOf] at this ⊢
    omega
  simp only [e1, e2, Array.append_empty]
  by_cases h0 : L = []
  · left
    subst h0
    refine ⟨rfl, ?_⟩
    simp [choose, Sem.run, Question.forced]
  · right
    have hpos : 0 < L.length := List.length_pos_iff.2 h0
    have hne : (L.map entryOf).toArray.isEmpty = false := by simp [h0]
    simp only [hne, Bool.false_eq_true, if_false, Array.empty_append, Array.size_map]
    have hch : ∃ (j : Nat) (w1 : World), j < L.length ∧ (w1 = w ∨ w1 = w.drew) ∧ (choose (Question.mapNext (L.map entryOf).toArray.size)).run P w = .ok j w1 := by
      by_cases hf : L.length ≤ 1
      · exact ⟨0, w, by omega, .inl rfl, by simp [choose, Sem.run, Question.forced, hf]⟩
      · exact ⟨_, w.drew, Nat.mod_lt _ (by omega), .inr rfl, by
          simp only [choose, Sem.run, Question.forced, decide_eq_true_eq, List.size_toArray, List.length_map, hf, if_false, Question.cut]
          rfl⟩
    obtain ⟨j, w1, hj, hal, hrun⟩ := hch
    have hr1 : w1.heap[r]? = some (.mapIter (some b) since seen last) := by rcases hal with rfl | rfl <;> exact hr
    have hb1 : w1.heap[b]? = some (.map (es.map entryOf).toArray clock) := by rcases hal with rfl | rfl <;> exact hm.block
    have hm1 : Mod (· = r) w w1 := by
      rcases hal with rfl | rfl
      · exact Mod.refl _ _
      · exact (Mod.refl _ _).drew
    have hz1 : w1.heap.size = w.heap.size := by rcases hal with rfl | rfl <;> rfl
    have hset : ∀ o : Obj, (setObj r o).run P w1 = .ok () { w1 with heap := w1.heap.setIfInBounds r o } := fun o => by simp [setObj, Sem.run, hr1]
    refine ⟨L[j].1.1, L[j].1.2, { w1 with heap := w1.heap.setIfInBounds r (.mapIter (some b) since (seen.push L[j].2) clock) }, List.mem_map.2 ⟨L[j], List.getElem_mem hj, rfl⟩, ?_, ?_, hm1.trans (mod_setBlock _ _ _) (fun _ _ h => h), by simp [hz1], ?_⟩
    · simp only [hrun, Array.getElem?_map, List.getElem?_toArray, List.getElem?_map, List.getElem?_eq_getElem hj, Option.map_some, Sem.run_bind, hset, Result.andThen]
      rfl
    · refine ⟨es, clock, seen.push L[j].2, since, clock, ⟨?_, hm.rising, hm.old, hm.nodup⟩, rfl, ?_, hold, hcl, hcl, ?_⟩
      · simp only; rw [Array.getElem?_setIfInBounds_ne hne0]; exact hb1
      · simp [heap_lt hr1]
      · exact (hfil L[j].1 L[j].2 (hsub _ (List.getElem_mem hj))).symm
    · have hnd : (((es.map entryOf).toArray.toList).map (·.born)).Nodup := by
        have h1 : (es.map (·.2)).Nodup := (List.pairwise_map.2 hm.rising).imp (fun h => Nat.ne_of_lt h)
        have h2 : ((es.map entryOf).toArray.toList).map (·.born) = es.map (·.2) := by simp [entryOf, Function.comp]
        rw [h2]; exact h1
      have hf := find_born (entryOf L[j]) _ hnd (by simp; exact ⟨_, _, _, hsub _ (List.getElem_mem hj), rfl⟩)
      rw [Array.find?_toList] at hf
      have hf' : (es.map entryOf).toArray.find? (fun x => x.born == L[j].2) = some (entryOf L[j]) := hf
      have hrr : (w1.heap.setIfInBounds r (.mapIter (some b) since (seen.push L[j].2) clock))[r]? = some (.mapIter (some b) since (seen.push L[j].2) clock) := by simp [heap_lt hr1]
      have hbb : (w1.heap.setIfInBounds r (.mapIter (some b) since (seen.push L[j].2) clock))[b]? = some (.map (es.map entryOf).toArray clock) := by rw [Array.getElem?_setIfInBounds_ne hne0]; exact hb1
      simp only [Instr.entry, getObj, Sem.run_bind, Sem.run, hrr, hbb, Result.andThen, Array.back?_push, bne_self_eq_false, Bool.false_eq_true, if_false, hf']
      rfl
/-- how many of a map's pairs an iterator has not handed out: a loop's measure -/
def iterLeft (w : World) (r b : Nat) : Nat :=
 match w.heap[r]?, w.heap[b]? with
 | some (.mapIter _ _ seen _), some (.map es _) => (es.toList.filter (fun e => !seen.contains e.born)).length
 | _, _ => 0
theorem IIter.left {w : World} {r b : Nat} {m left : List (Int × Value)} (h : IIter w r b m left) : iterLeft w r b = left.length := by
 obtain ⟨es, clock, seen, since, last, h1, _, h3, _, _, _, rfl⟩ := h
 unfold iterLeft
 rw [h3, h1.block]
 simp only [List.filter_map, List.length_map]
 rfl
theorem filter_less {left : List (Int × Value)} {k : Int} {v : Value} (h : (k, v) ∈ left) : (left.filter (fun p => p.1 ≠ k)).length < left.length := by
  rcases Nat.lt_or_ge (left.filter (fun p => p.1 ≠ k)).length left.length with h1 | h1
  · exact h1
  · have h2 := List.length_filter_le (fun p : Int × Value => decide (p.1 ≠ k)) left
    have h3 : (left.filter (fun p : Int × Value => decide (p.1 ≠ k))).length = left.length := by omega
    have := List.length_filter_eq_length_iff.1 h3 _ h
    simp at this
end
end Go.Proofs.YtdfahddpkkeldaaGreat

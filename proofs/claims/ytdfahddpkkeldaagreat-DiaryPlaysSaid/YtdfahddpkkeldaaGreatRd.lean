/- What a statement's arguments are, said plainly: 'Rc w t cs': the cells cs read as a value of type t in the world w; 'Rd w t v': so does the value v. And what each shape gives. -/
import Derived.Test.YtdfahddpkkeldaaGreatChecked
import Derived.ProofKit
import Derived.OpenShut
import Derived.ShutString
import Derived.ChangeOld
import Derived.Deep.Slices
import Derived.Test.YtdfahddpkkeldaaGreatShort
namespace Go.Proofs.YtdfahddpkkeldaaGreat
open Go.ChangeShapes Go.WideShapes Go.ChangeAt Go.RowKit
def Rc (w : World) (t : TypeId) (cs : List Value) : Prop :=
 ∃ (H : Type) (enc : TypeId × Value → H) (fuel : Nat) (x : DataW H × List MemPlace), DataW.trod enc Tryz.prog w 0 (fun _ => true) true fuel t cs = some x
def Rd (w : World) (t : TypeId) (v : Value) : Prop := (∃ base, Value.okWide Tryz.prog w .any base t v) ∧ Rc w t v.cells.toList
theorem Rc.int {w : World} {t : TypeId} {cs : List Value} {k : IntKind} (ht : Tryz.prog.underlying t = some (.int k)) (h : Rc w t cs) : ∃ n, cs = [.int k n] ∧ (Lit.int k n).wf = true := by
 obtain ⟨H, enc, fuel, x, h⟩ := h
 obtain ⟨n, h, _, hw⟩ := DataW.trod_int ht h
 exact ⟨n, h, hw⟩
theorem Rc.bool {w : World} {t : TypeId} {cs : List Value} (ht : Tryz.prog.underlying t = some .bool) (h : Rc w t cs) : ∃ b, cs = [.bool b] := by
 obtain ⟨H, enc, fuel, x, h⟩ := h
 obtain ⟨b, h, _⟩ := DataW.trod_bool ht h
 exact ⟨b, h⟩
theorem Rc.string {w : World} {t : TypeId} {cs : List Value} (ht : Tryz.prog.underlying t = some .string) (h : Rc w t cs) : ∃ s, cs = [.string s] ∧ s.size ≤ maxLen := by
 obtain ⟨H, enc, fuel, x, h⟩ := h
 obtain ⟨s, h, _, hs⟩ := DataW.trod_string ht h
 exact ⟨s, h, hs⟩
theorem cells?_some {w : World} {base : Nat} {a : Addr} {n : Nat} {cs : List Value} (h : w.cells? base a n = some cs) : cs.length = n ∧ ∀ j, (hj : j < cs.length) → w.cell? (a.add j) = some cs[j] := by
 obtain ⟨_, hl, hc⟩ := World.cells?_some h
 refine ⟨hl, fun j hj => ?_⟩
 rw [hc j (by omega)]; simp [hj]
theorem cell?_spot {w : World} {a : Addr} {v : Value} (h : w.cell? a = some v) : a = ⟨a.block, a.off, none⟩ ∧ a.block < w.heap.size := by
 obtain ⟨e, n, hs, _, hsp⟩ := World.shape?_of_cell? h
 refine ⟨by cases a; simp_all, ?_⟩
 unfold World.shape? at hs
 split at hs
 ·rename_i hb; exact heap_lt hb
 ·cases hs
theorem Rc.slice {w : World} {t e : TypeId} {cs : List Value} (ht : Tryz.prog.underlying t = some (.slice e)) (hpos : 0 < Tryz.prog.cellsOf e) (h : Rc w t cs) :
    ∃ p len cap, cs = [.slice p len cap] ∧ len ≤ cap ∧ cap ≤ maxLen ∧ ∀ i, i < len → ∃ b off cs', p = some ⟨b, off, none⟩ ∧ b < w.heap.size ∧ cs'.length = Tryz.prog.cellsOf e ∧
      (∀ j, (hj : j < cs'.length) → w.cell? ⟨b, off + i * Tryz.prog.cellsOf e + j, none⟩ = some cs'[j]) ∧ Rc w e cs' := by
  obtain ⟨H, enc, fuel, x, h⟩ := h
  rcases Deep.open_slice ht h with ⟨rfl, _⟩ | ⟨a, len, cap, m, n, D, Pl, rfl, _, hl, hm, hmm, _, hall⟩
  · exact ⟨none, 0, 0, rfl, Nat.le_refl _, by simp, fun i hi => by omega⟩
  · refine ⟨some a, len, cap, rfl, hl, hm, fun i hi => ?_⟩
    have h0 : a = ⟨a.block, a.off, none⟩ ∧ a.block < w.heap.size := by
      obtain ⟨cs0, hc0, _⟩ := hall 0 (by simp at hmm; omega)
      obtain ⟨hl0, hcell0⟩ := cells?_some hc0
      have := hcell0 0 (by omega)
      simp only [Nat.zero_mul, Addr.add, if_true] at this
      exact cell?_spot this
    have hspot := h0.1
    have hblk := h0.2
    obtain ⟨ab, ao, asp⟩ := a
    have hsp : asp = none := by simpa using hspot
    subst hsp
    clear hspot h0
    have hadd2 : ∀ o j, (⟨ab, o, none⟩ : Addr).add j = ⟨ab, o + j, none⟩ := by
      intro o j; unfold Addr.add; split <;> simp_all
    obtain ⟨cs', hc, ht'⟩ := hall i (by simp at hmm; omega)
    obtain ⟨hlen, hcell⟩ := cells?_some hc
    exact ⟨ab, ao, cs', rfl, hblk, hlen, fun j hj => by have := hcell j hj; rw [hadd2, hadd2] at this; exact this, ⟨H, enc, n, _, ht'⟩⟩
theorem Rc.struct {w : World} {t : TypeId} {cs : List Value} {fs : Array Field} (ht : Tryz.prog.underlying t = some (.struct fs)) (h : Rc w t cs) :
    cs.length = Tryz.prog.cellsOf t ∧ ∀ (i : Nat) (f : Field), fs[i]? = some f → Rc w f.type ((cs.drop f.offset).take (Tryz.prog.cellsOf f.type)) := by
  obtain ⟨H, enc, fuel, x, hx⟩ := h
  obtain ⟨xs, n, _, _, hl, hxl, hf⟩ := DataW.trod_struct ht hx
  refine ⟨hl, fun i f hi => ?_⟩
  have hlt : i < xs.length := by rw [hxl]; exact (Array.getElem?_eq_some_iff.1 hi).1
  have := hf i f hi
  rw [List.getElem?_eq_getElem hlt] at this
  exact ⟨H, enc, n, _, this⟩
set_option maxRecDepth 100000 in
theorem Rd.struct {w : World} {t : TypeId} {v : Value} {fs : Array Field} (ht : Tryz.prog.underlying t = some (.struct fs)) (h : Rd w t v) :
  ∃ cs : List Value, v = .agg cs.toArray ∧ cs.length = Tryz.prog.cellsOf t ∧ ∀ (i : Nat) (f : Field), fs[i]? = some f → Rc w f.type ((cs.drop f.offset).take (Tryz.prog.cellsOf f.type)) := by
 obtain ⟨⟨base, h0⟩, h1⟩ := h
 obtain ⟨cs, rfl, _⟩ := okWide_struct ht h0
 exact ⟨cs.toList, by simp, h1.struct ht⟩
theorem choose_list {α : Type} {n : Nat} {P : Nat → α → Prop} (h : ∀ i, i < n → ∃ x, P i x) : ∃ l : List α, l.length = n ∧ ∀ i, (hi : i < l.length) → P i l[i] := by
 induction n with
 | zero => exact ⟨[], rfl, fun i hi => by simp at hi⟩
 | succ n ih =>
  obtain ⟨l, hl, hp⟩ := ih (fun i hi => h i (by omega))
  obtain ⟨x, hx⟩ := h n (by omega)
  refine ⟨l ++ [x], by simp [hl], fun i hi => ?_⟩
  by_cases hin : i < l.length
  ·rw [List.getElem_append_left hin]; exact hp i hin
  ·have : i = n := by simp at hi; omega
   subst this
   rw [List.getElem_append_right (by omega)]
   simpa [hl] using hx
set_option maxRecDepth 100000 in
theorem Rd.int {w : World} {t : TypeId} {v : Value} {k : IntKind} (ht : Tryz.prog.underlying t = some (.int k)) (h : Rd w t v) : ∃ n, v = .int k n ∧ (Lit.int k n).wf = true := by
 obtain ⟨⟨base, h0⟩, h1⟩ := h
 obtain ⟨n, rfl⟩ := okWide_int ht h0
 obtain ⟨m, hm, hw⟩ := h1.int ht
 simp [Value.cells] at hm
 subst hm
 exact ⟨n, rfl, hw⟩
set_option maxRecDepth 100000 in
theorem Rd.bool {w : World} {t : TypeId} {v : Value} (ht : Tryz.prog.underlying t = some .bool) (h : Rd w t v) : ∃ b, v = .bool b := by
 obtain ⟨⟨base, h0⟩, h1⟩ := h
 exact okWide_bool ht h0
set_option maxRecDepth 100000 in
theorem Rd.string {w : World} {t : TypeId} {v : Value} (ht : Tryz.prog.underlying t = some .string) (h : Rd w t v) : ∃ s, v = .string s ∧ s.size ≤ maxLen := by
 obtain ⟨⟨base, h0⟩, h1⟩ := h
 obtain ⟨s, rfl⟩ := okWide_string ht h0
 obtain ⟨m, hm, hw⟩ := h1.string ht
 simp [Value.cells] at hm
 subst hm
 exact ⟨s, rfl, hw⟩
set_option maxRecDepth 100000 in
theorem Rd.slice {w : World} {t e : TypeId} {v : Value} (ht : Tryz.prog.underlying t = some (.slice e)) (hpos : 0 < Tryz.prog.cellsOf e) (h : Rd w t v) :
  ∃ p len cap, v = .slice p len cap ∧ len ≤ cap ∧ cap ≤ maxLen ∧ ∀ i, i < len → ∃ b off cs', p = some ⟨b, off, none⟩ ∧ b < w.heap.size ∧ cs'.length = Tryz.prog.cellsOf e ∧
   (∀ j, (hj : j < cs'.length) → w.cell? ⟨b, off + i * Tryz.prog.cellsOf e + j, none⟩ = some cs'[j]) ∧ Rc w e cs' := by
 obtain ⟨⟨base, h0⟩, h1⟩ := h
 obtain ⟨p, len, cap, rfl⟩ := okWide_slice ht h0
 obtain ⟨p', len', cap', hm, r⟩ := h1.slice ht hpos
 simp [Value.cells] at hm
 obtain ⟨rfl, rfl, rfl⟩ := hm
 exact ⟨_, _, _, rfl, r⟩
end Go.Proofs.YtdfahddpkkeldaaGreat

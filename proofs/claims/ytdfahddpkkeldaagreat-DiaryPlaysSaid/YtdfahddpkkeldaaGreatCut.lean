/- Cuts out of slices of bytes; an append in a region's step, its run known. -/
import Derived.LoopTactic
import Derived.Test.YtdfahddpkkeldaaGreatWireB
namespace Go.Proofs.YtdfahddpkkeldaaGreat
open Go.RowKit
theorem row_take {S : Nat → Prop} {w : World} {p : Option Addr} {n c : Nat} {xs : List Value} (h : IsRow S w (.slice p n c) xs) (k : Nat) (hk : k ≤ xs.length) : IsRow S w (.slice p k c) (xs.take k) := by
 obtain ⟨p', c', hv, hc⟩ := h
 simp only [Value.slice.injEq] at hv
 obtain ⟨rfl, -, rfl⟩ := hv
 refine ⟨p, c, by rw [List.length_take, Nat.min_eq_left hk], fun i hi => ?_⟩
 rw [List.length_take] at hi
 obtain ⟨b, off, h1, h2, h3, h4⟩ := hc i (by omega)
 exact ⟨b, off, h1, h2, h3, by rw [h4, List.getD_eq_getElem?_getD, List.getD_eq_getElem?_getD, List.getElem?_take_of_lt (by omega)]⟩
theorem bys_take (b : List UInt8) (k : Nat) : (bys b).take k = bys (b.take k) := by simp [bys]
/-- a cut out of a slice of bytes -/
theorem slice_cut (T : Nat → Prop) (p : Option Addr) (len cap lo hi : Nat) (b : List UInt8) (w : World) (hrow : IsRow T w (.slice p len cap) (bys b)) (h1 : lo < hi) (h2 : hi ≤ len) (hcap : len ≤ cap) :
  ∃ p2, (∀ W, (Instr.slice 40 (.slice p len cap) (some (.int .i64 (lo : Int))) (some (.int .i64 (hi : Int))) none).run Tryz.prog W = .ok (.slice p2 (hi - lo) (cap - lo)) W) ∧ ∀ W, IsRow T W (.slice p len cap) (bys b) → IsRow T W (.slice p2 (hi - lo) (cap - lo)) (bys ((b.drop lo).take (hi - lo))) := by
 have hbl : b.length = len := by
  obtain ⟨_, _, h, _⟩ := hrow
  simp only [Value.slice.injEq, bys_length] at h
  exact h.2.1.symm
 obtain ⟨i0, hi0, hz0, hz1, hz2⟩ := info_parts info_u8
 have he : Tryz.prog.elem 40 = 5 := by simp [Program.elem, Tryz.underlying40]
 have hu : Tryz.prog.underlying 40 = some (.slice (Tryz.prog.elem 40)) := by rw [he]; exact Tryz.underlying40
 have hs : ∀ W, (sizeOf (Tryz.prog.elem 40)).run Tryz.prog W = .ok 1 W := fun W => by
  rw [he]
  simp [sizeOf, typeInfo, hi0, hz1]
 obtain ⟨g, o, rfl, -, -⟩ := row_some hrow (by omega)
 refine ⟨some ⟨g, o + lo, none⟩, fun W => ?_, fun W h => ?_⟩
 ·rw [run_slice_lh W _ (some ⟨g, o, none⟩) len cap hu .i64 .i64 lo hi (by omega) (by omega) (by omega), hs W]
  have hc : ¬ cap = lo := by omega
  simp [sliced, Addr.add, hc]
 ·have h3 := row_take (row_drop h lo (by rw [bys_length, hbl]; omega)) (hi - lo) (by rw [List.length_drop, bys_length, hbl]; omega)
  rw [← bys_drop, bys_take] at h3
  exact h3
theorem slice_front (T : Nat → Prop) (p : Option Addr) (len cap hi : Nat) (b : List UInt8) (w : World) (hrow : IsRow T w (.slice p len cap) (bys b)) (h1 : 0 < hi) (h2 : hi ≤ len) (hcap : len ≤ cap) :
  (∀ W, (Instr.slice 40 (.slice p len cap) none (some (.int .i64 (hi : Int))) none).run Tryz.prog W = .ok (.slice p hi cap) W) ∧ ∀ W, IsRow T W (.slice p len cap) (bys b) → IsRow T W (.slice p hi cap) (bys (b.take hi)) := by
 have hbl : b.length = len := by
  obtain ⟨_, _, h, _⟩ := hrow
  simp only [Value.slice.injEq, bys_length] at h
  exact h.2.1.symm
 obtain ⟨i0, hi0, hz0, hz1, hz2⟩ := info_parts info_u8
 have he : Tryz.prog.elem 40 = 5 := by simp [Program.elem, Tryz.underlying40]
 have hu : Tryz.prog.underlying 40 = some (.slice (Tryz.prog.elem 40)) := by rw [he]; exact Tryz.underlying40
 have hs : ∀ W, (sizeOf (Tryz.prog.elem 40)).run Tryz.prog W = .ok 1 W := fun W => by
  rw [he]
  simp [sizeOf, typeInfo, hi0, hz1]
 refine ⟨fun W => ?_, fun W h => ?_⟩
 ·rw [run_slice_h W _ p len cap hu .i64 hi (by omega) (by omega)]
  (try rw [hs W])
  have hp : p.map (fun x => x.add 0) = p := by cases p with
   | none => rfl
   | some a => cases a; simp [Addr.add]
  simp [sliced, hp]
 ·rw [← bys_take]
  exact row_take h hi (by rw [bys_length, hbl]; exact h2)
theorem step_append_run {P : Program} {ops : Array Oper} {o : Oper} {a : Act} {w w' : World} {K : Act → World → Prop} {Q : Exit → Act → World → Prop} {E : Prop} {v xv v' : Value} (hgd : o.guard = none) (s x : Operand) (t u : TypeId)
  (ho : o.op = .call { callee := .builtin .append, args := #[s, x], argTypes := #[t, u] }) (hs : a.eval s = v) (hx : a.eval x = xv)
  (hrun : (Builtin.append_ #[t, u] o.type #[v, xv]).run P w = .ok v' w') (h : K (a.put o.dst v') w') : if Region.wanted o (yielded ops a.tmps) = true then Oper.wp P o a w K Q else E := by
 have hw : Region.wanted o (yielded ops a.tmps) = true := by simp [Region.wanted, hgd]
 rw [if_pos hw]
 unfold Oper.wp execOp
 simp only [ho, resolve, invoke, builtin, Sem.run_bind, Sem.run_pure, Result.andThen_ok, List.map_toArray, List.map_cons, List.map_nil, hs, hx, hrun]
 exact h
/-- the end of a slice from a place on -/
theorem slice_from (T : Nat → Prop) (p : Option Addr) (len cap X : Nat) (b : List UInt8) (w : World) (hrow : IsRow T w (.slice p len cap) (bys b)) (hX : X ≤ len) (hcap : len ≤ cap) :
  ∃ p2, (∀ W, (Instr.slice 40 (.slice p len cap) (some (.int .i64 (X : Int))) none none).run Tryz.prog W = .ok (.slice p2 (len - X) (cap - X)) W) ∧ ∀ W, IsRow T W (.slice p len cap) (bys b) → IsRow T W (.slice p2 (len - X) (cap - X)) (bys (b.drop X)) := by
 have hbl : b.length = len := by
  obtain ⟨_, _, h, _⟩ := hrow
  simp only [Value.slice.injEq, bys_length] at h
  exact h.2.1.symm
 obtain ⟨i0, hi0, hz0, hz1, hz2⟩ := info_parts info_u8
 have he : Tryz.prog.elem 40 = 5 := by simp [Program.elem, Tryz.underlying40]
 have hu : Tryz.prog.underlying 40 = some (.slice (Tryz.prog.elem 40)) := by rw [he]; exact Tryz.underlying40
 have hs : ∀ W, (sizeOf (Tryz.prog.elem 40)).run Tryz.prog W = .ok 1 W := fun W => by
  rw [he]
  simp [sizeOf, typeInfo, hi0, hz1]
 by_cases hc : cap = X
 ·refine ⟨p, fun W => ?_, fun W h => ?_⟩
  ·rw [run_slice_l W _ p len cap hu .i64 X (by omega) (by omega), hs W]
   simp [sliced, hc]
  ·have hd : b.drop X = [] := List.drop_eq_nil_of_le (by omega)
   rw [hd]
   exact ⟨p, cap - X, by rw [show len - X = 0 by omega]; rfl, fun i hi => by simp [bys] at hi⟩
 ·rcases Nat.eq_zero_or_pos len with h0 | hpos
  ·refine ⟨p.map (·.add (X * 1)), fun W => ?_, fun W h => ?_⟩
   ·rw [run_slice_l W _ p len cap hu .i64 X (by omega) (by omega), hs W]
    simp [sliced, hc]
   ·have hd : b.drop X = [] := List.drop_eq_nil_of_le (by omega)
    rw [hd]
    exact ⟨_, cap - X, by rw [show len - X = 0 by omega]; rfl, fun i hi => by simp [bys] at hi⟩
  ·obtain ⟨g, o, rfl, -, -⟩ := row_some hrow hpos
   refine ⟨some ⟨g, o + X, none⟩, fun W => ?_, fun W h => ?_⟩
   ·rw [run_slice_l W _ (some ⟨g, o, none⟩) len cap hu .i64 X (by omega) (by omega), hs W]
    simp [sliced, hc, Addr.add]
   ·rw [bys_drop]
    exact row_drop h X (by rw [bys_length, hbl]; exact hX)
end Go.Proofs.YtdfahddpkkeldaaGreat

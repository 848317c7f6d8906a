/- Package wire: reading. -/
import Derived.Test.YtdfpmlfdmhlhcaaGreatWire
import Derived.LoopTactic
namespace Go.Proofs.YtdfpmlfdmhlhcaaGreat
open Go.RowKit
/-- the number that bytes spell, the highest byte first -/
def beN (l : List UInt8) : Nat := l.foldl (fun n c => n * 256 + c.toNat) 0
theorem beN_snoc (l : List UInt8) (c : UInt8) : beN (l ++ [c]) = beN l * 256 + c.toNat := by simp [beN]
theorem beN_take (l : List UInt8) (i : Nat) (h : i < l.length) : beN (l.take (i + 1)) = beN (l.take i) * 256 + (l.getD i 0).toNat := by
  rw [List.take_succ_eq_append_getElem h, beN_snoc, List.getD_eq_getElem?_getD, List.getElem?_eq_getElem h]; rfl
theorem beN_take_lt (l : List UInt8) (i : Nat) (h : i ≤ l.length) : beN (l.take i) < 256 ^ i := by
  induction i with
  | zero => simp [beN]
  | succ i ih =>
    rw [beN_take l i (by omega), Nat.pow_succ]
    have := ih (by omega)
    have := UInt8.toNat_lt (l.getD i 0)
    omega
/-- what number tells of bytes that it begins with: the number, and the error -/
def numF (l : List UInt8) (size : Nat) : Int × Int :=
  if l.length < size then (0, 2) else if 4611686018427387904 < beN (l.take size) then (0, 2) else (beN (l.take size), 0)
theorem or_byte (v c : Nat) (hv : v < 72057594037927936) (hc : c < 256) : bits .or .u64 ((v : Int) * 256) (c : Int) = ((v * 256 + c : Nat) : Int) := by
  have h1 : (BitVec.ofInt 64 ((v : Int) * 256) ||| BitVec.ofInt 64 (c : Int)).toNat = v * 256 + c := by
    rw [BitVec.toNat_or, BitVec.toNat_ofInt, BitVec.toNat_ofInt, show ((2 ^ 64 : Nat) : Int) = 18446744073709551616 from rfl]
    have e1 : (((v : Int) * 256) % 18446744073709551616).toNat = v * 256 := by
      rw [Int.emod_eq_of_lt (by omega) (by omega)]; omega
    have e2 : ((c : Int) % 18446744073709551616).toNat = c := by
      rw [Int.emod_eq_of_lt (by omega) (by omega)]; omega
    rw [e1, e2]
    have := Nat.shiftLeft_add_eq_or_of_lt (i := 8) (b := c) (by simpa using hc) v
    rw [Nat.shiftLeft_eq] at this
    simpa using this.symm
  show IntKind.u64.wrap ((BitVec.ofInt 64 ((v : Int) * 256) ||| BitVec.ofInt 64 (c : Int)).toNat : Int) = _
  rw [h1]
  simp only [IntKind.wrap, IntKind.bits, IntKind.signed]
  simp
  omega
theorem row_drop {S : Nat → Prop} {w : World} {g o n c : Nat} {xs : List Value} (h : IsRow S w (.slice (some ⟨g, o, none⟩) n c) xs) (k : Nat) (hk : k ≤ xs.length) : IsRow S w (.slice (some ⟨g, o + k, none⟩) (n - k) (c - k)) (xs.drop k) := by
  obtain ⟨p', c', hv, hc⟩ := h
  simp only [Value.slice.injEq] at hv
  obtain ⟨rfl, rfl, rfl⟩ := hv
  refine ⟨_, c - k, by rw [List.length_drop], fun i hi => ?_⟩
  rw [List.length_drop] at hi
  obtain ⟨b, off, h1, h2, h3, h4⟩ := hc (k + i) (by omega)
  simp only [Option.some.injEq, Addr.mk.injEq, and_true] at h1
  obtain ⟨rfl, rfl⟩ := h1
  refine ⟨g, o + k, rfl, h2, h3, ?_⟩
  rw [Nat.add_assoc, h4, List.getD_eq_getElem?_getD, List.getD_eq_getElem?_getD, List.getElem?_drop]
theorem row_some {S : Nat → Prop} {w : World} {p : Option Addr} {n c : Nat} {xs : List Value} (h : IsRow S w (.slice p n c) xs) (hn : 0 < n) : ∃ g o, p = some ⟨g, o, none⟩ ∧ S g ∧ g < w.heap.size := by
  obtain ⟨p', c', hv, hc⟩ := h
  simp only [Value.slice.injEq] at hv
  obtain ⟨rfl, rfl, rfl⟩ := hv
  obtain ⟨b, off, h1, h2, h3, h4⟩ := hc 0 hn
  exact ⟨b, off, h1, h2, h3⟩
theorem bys_drop (l : List UInt8) (k : Nat) : bys (l.drop k) = (bys l).drop k := by simp [bys, List.map_drop]
/-- what Num tells, and what is left -/
def decN (l : List UInt8) (e : Int) (size : Nat) : Int × List UInt8 × Int :=
  if e ≠ 0 then (0, l, e) else if (numF l size).2 ≠ 0 then (0, l, (numF l size).2) else ((numF l size).1, l.drop size, 0)
end Go.Proofs.YtdfpmlfdmhlhcaaGreat

/- Cuts out of slices of bytes; an append in a region's step, its run known. -/
namespace Go.Proofs.YtdfpmlfdmhlhcaaGreat
open Go.RowKit
theorem row_take {S : Nat → Prop} {w : World} {p : Option Addr} {n c : Nat} {xs : List Value} (h : IsRow S w (.slice p n c) xs) (k : Nat) (hk : k ≤ xs.length) : IsRow S w (.slice p k c) (xs.take k) := by
  obtain ⟨p', c', hv, hc⟩ := h
  simp only [Value.slice.injEq] at hv
  obtain ⟨rfl, -, rfl⟩ := hv
  refine ⟨p, c, by rw [List.length_take, Nat.min_eq_left hk], fun i hi => ?_⟩
  rw [List.length_take] at hi
  obtain ⟨b, off, h1, h2, h3, h4⟩ := hc i (by omega)
  exact ⟨b, off, h1, h2, h3, by rw [h4, List.getD_eq_getElem?_getD, List.getD_eq_getElem?_getD, List.getElem?_take_of_lt (by omega)]⟩
theorem bys_take (b : List UInt8) (k : Nat) : (bys b).take k = bys (b.take k) := by simp [bys]
/-- a cut out of a slice of bytes -/
theorem slice_cut (T : Nat → Prop) (p : Option Addr) (len cap lo hi : Nat) (b : List UInt8) (w : World) (hrow : IsRow T w (.slice p len cap) (bys b)) (h1 : lo < hi) (h2 : hi ≤ len) (hcap : len ≤ cap) :
    ∃ p2, (∀ W, (Instr.slice 26 (.slice p len cap) (some (.int .i64 (lo : Int))) (some (.int .i64 (hi : Int))) none).run Tryz.prog W = .ok (.slice p2 (hi - lo) (cap - lo)) W) ∧ ∀ W, IsRow T W (.slice p len cap) (bys b) → IsRow T W (.slice p2 (hi - lo) (cap - lo)) (bys ((b.drop lo).take (hi - lo))) := by
  have hbl : b.length = len := by
    obtain ⟨_, _, h, _⟩ := hrow
    simp only [Value.slice.injEq, bys_length] at h
    exact h.2.1.symm
  obtain ⟨i0, hi0, hz0, hz1, hz2⟩ := info_parts info_u8
  have he : Tryz.prog.elem 26 = 5 := by simp [Program.elem, Tryz.underlying26]
  have hu : Tryz.prog.underlying 26 = some (.slice (Tryz.prog.elem 26)) := by rw [he]; exact Tryz.underlying26
  have hs : ∀ W, (sizeOf (Tryz.prog.elem 26)).run Tryz.prog W = .ok 1 W := fun W => by
    rw [he]
    simp [sizeOf, typeInfo, hi0, hz1]
  obtain ⟨g, o, rfl, -, -⟩ := row_some hrow (by omega)
  refine ⟨some ⟨g, o + lo, none⟩, fun W => ?_, fun W h => ?_⟩
  · rw [run_slice_lh W _ (some ⟨g, o, none⟩) len cap hu .i64 .i64 lo hi (by omega) (by omega) (by omega), hs W]
    have hc : ¬ cap = lo := by omega
    simp [sliced, Addr.add, hc]
  · have h3 := row_take (row_drop h lo (by rw [bys_length, hbl]; omega)) (hi - lo) (by rw [List.length_drop, bys_length, hbl]; omega)
    rw [← bys_drop, bys_take] at h3
    exact h3
theorem slice_front (T : Nat → Prop) (p : Option Addr) (len cap hi : Nat) (b : List UInt8) (w : World) (hrow : IsRow T w (.slice p len cap) (bys b)) (h1 : 0 < hi) (h2 : hi ≤ len) (hcap : len ≤ cap) :
    (∀ W, (Instr.slice 26 (.slice p len cap) none (some (.int .i64 (hi : Int))) none).run Tryz.prog W = .ok (.slice p hi cap) W) ∧ ∀ W, IsRow T W (.slice p len cap) (bys b) → IsRow T W (.slice p hi cap) (bys (b.take hi)) := by
  have hbl : b.length = len := by
    obtain ⟨_, _, h, _⟩ := hrow
    simp only [Value.slice.injEq, bys_length] at h
    exact h.2.1.symm
  obtain ⟨i0, hi0, hz0, hz1, hz2⟩ := info_parts info_u8
  have he : Tryz.prog.elem 26 = 5 := by simp [Program.elem, Tryz.underlying26]
  have hu : Tryz.prog.underlying 26 = some (.slice (Tryz.prog.elem 26)) := by rw [he]; exact Tryz.underlying26
  have hs : ∀ W, (sizeOf (Tryz.prog.elem 26)).run Tryz.prog W = .ok 1 W := fun W => by
    rw [he]
    simp [sizeOf, typeInfo, hi0, hz1]
  refine ⟨fun W => ?_, fun W h => ?_⟩
  · rw [run_slice_h W _ p len cap hu .i64 hi (by omega) (by omega)]
    (try rw [hs W])
    have hp : p.map (fun x => x.add 0) = p := by cases p with
      | none => rfl
      | some a => cases a; simp [Addr.add]
    simp [sliced, hp]
  · rw [← bys_take]
    exact row_take h hi (by rw [bys_length, hbl]; exact h2)
theorem step_append_run {P : Program} {ops : Array Oper} {o : Oper} {a : Act} {w w' : World} {K : Act → World → Prop} {Q : Exit → Act → World → Prop} {E : Prop} {v xv v' : Value} (hgd : o.guard = none) (s x : Operand) (t u : TypeId)
    (ho : o.op = .call { callee := .builtin .append, args := #[s, x], argTypes := #[t, u] }) (hs : a.eval s = v) (hx : a.eval x = xv)
    (hrun : (Builtin.append_ #[t, u] o.type #[v, xv]).run P w = .ok v' w') (h : K (a.put o.dst v') w') : if Region.wanted o (yielded ops a.tmps) = true then Oper.wp P o a w K Q else E := by
  have hw : Region.wanted o (yielded ops a.tmps) = true := by simp [Region.wanted, hgd]
  rw [if_pos hw]
  unfold Oper.wp execOp
  simp only [ho, resolve, invoke, builtin, Sem.run_bind, Sem.run_pure, Result.andThen_ok, List.map_toArray, List.map_cons, List.map_nil, hs, hx, hrun]
  exact h
/-- the end of a slice from a place on -/
theorem slice_from (T : Nat → Prop) (p : Option Addr) (len cap X : Nat) (b : List UInt8) (w : World) (hrow : IsRow T w (.slice p len cap) (bys b)) (hX : X ≤ len) (hcap : len ≤ cap) :
    ∃ p2, (∀ W, (Instr.slice 26 (.slice p len cap) (some (.int .i64 (X : Int))) none none).run Tryz.prog W = .ok (.slice p2 (len - X) (cap - X)) W) ∧ ∀ W, IsRow T W (.slice p len cap) (bys b) → IsRow T W (.slice p2 (len - X) (cap - X)) (bys (b.drop X)) := by
  have hbl : b.length = len := by
    obtain ⟨_, _, h, _⟩ := hrow
    simp only [Value.slice.injEq, bys_length] at h
    exact h.2.1.symm
  obtain ⟨i0, hi0, hz0, hz1, hz2⟩ := info_parts info_u8
  have he : Tryz.prog.elem 26 = 5 := by simp [Program.elem, Tryz.underlying26]
  have hu : Tryz.prog.underlying 26 = some (.slice (Tryz.prog.elem 26)) := by rw [he]; exact Tryz.underlying26
  have hs : ∀ W, (sizeOf (Tryz.prog.elem 26)).run Tryz.prog W = .ok 1 W := fun W => by
    rw [he]
    simp [sizeOf, typeInfo, hi0, hz1]
  by_cases hc : cap = X
  · refine ⟨p, fun W => ?_, fun W h => ?_⟩
    · rw [run_slice_l W _ p len cap hu .i64 X (by omega) (by omega), hs W]
      simp [sliced, hc]
    · have hd : b.drop X = [] := List.drop_eq_nil_of_le (by omega)
      rw [hd]
      exact ⟨p, cap - X, by rw [show len - X = 0 by omega]; rfl, fun i hi => by simp [bys] at hi⟩
  · rcases Nat.eq_zero_or_pos len with h0 | hpos
    · refine ⟨p.map (·.add (X * 1)), fun W => ?_, fun W h => ?_⟩
      · rw [run_slice_l W _ p len cap hu .i64 X (by omega) (by omega), hs W]
        simp [sliced, hc]
      · have hd : b.drop X = [] := List.drop_eq_nil_of_le (by omega)
        rw [hd]
        exact ⟨_, cap - X, by rw [show len - X = 0 by omega]; rfl, fun i hi => by simp [bys] at hi⟩
    · obtain ⟨g, o, rfl, -, -⟩ := row_some hrow hpos
      refine ⟨some ⟨g, o + X, none⟩, fun W => ?_, fun W h => ?_⟩
      · rw [run_slice_l W _ (some ⟨g, o, none⟩) len cap hu .i64 X (by omega) (by omega), hs W]
        simp [sliced, hc, Addr.add]
      · rw [bys_drop]
        exact row_drop h X (by rw [bys_length, hbl]; exact hX)
end Go.Proofs.YtdfpmlfdmhlhcaaGreat

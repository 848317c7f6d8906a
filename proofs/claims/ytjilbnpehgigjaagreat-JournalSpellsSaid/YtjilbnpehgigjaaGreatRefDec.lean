/- Cuts out of slices of bytes; an append in a region's step, its run known. -/
import Derived.Test.YtjilbnpehgigjaaGreatWireB
import Derived.LoopTactic
import Derived.Test.YtjilbnpehgigjaaGreatRefLists
namespace Go.Proofs.YtjilbnpehgigjaaGreat
open Go.RowKit
theorem row_take {S : Nat → Prop} {w : World} {p : Option Addr} {n c : Nat} {xs : List Value} (h : IsRow S w (.slice p n c) xs) (k : Nat) (hk : k ≤ xs.length) : IsRow S w (.slice p k c) (xs.take k) := by
  obtain ⟨p', c', hv, hc⟩ := h
  simp only [Value.slice.injEq] at hv
  obtain ⟨rfl, -, rfl⟩ := hv
  refine ⟨p, c, by rw [List.length_take, Nat.min_eq_left hk], fun i hi => ?_⟩
  rw [List.length_take] at hi
  obtain ⟨b, off, h1, h2, h3, h4⟩ := hc i (by omega)
  exact ⟨b, off, h1, h2, h3, by rw [h4, List.getD_eq_getElem?_getD, List.getD_eq_getElem?_getD, List.getElem?_take_of_lt (by omega)]⟩
theorem bys_take (b : List UInt8) (k : Nat) : (bys b).take k = bys (b.take k) := by simp [bys]
/-- a cut out of a slice of bytes -/
theorem slice_cut (T : Nat → Prop) (p : Option Addr) (len cap lo hi : Nat) (b : List UInt8) (w : World) (hrow : IsRow T w (.slice p len cap) (bys b)) (h1 : lo < hi) (h2 : hi ≤ len) (hcap : len ≤ cap) :
    ∃ p2, (∀ W, (Instr.slice 22 (.slice p len cap) (some (.int .i64 (lo : Int))) (some (.int .i64 (hi : Int))) none).run Tryz.prog W = .ok (.slice p2 (hi - lo) (cap - lo)) W) ∧ ∀ W, IsRow T W (.slice p len cap) (bys b) → IsRow T W (.slice p2 (hi - lo) (cap - lo)) (bys ((b.drop lo).take (hi - lo))) := by
  have hbl : b.length = len := by
    obtain ⟨_, _, h, _⟩ := hrow
    simp only [Value.slice.injEq, bys_length] at h
    exact h.2.1.symm
  obtain ⟨i0, hi0, hz0, hz1, hz2⟩ := info_parts info_u8
  have he : Tryz.prog.elem 22 = 5 := by simp [Program.elem, Tryz.underlying22]
  have hu : Tryz.prog.underlying 22 = some (.slice (Tryz.prog.elem 22)) := by rw [he]; exact Tryz.underlying22
  have hs : ∀ W, (sizeOf (Tryz.prog.elem 22)).run Tryz.prog W = .ok 1 W := fun W => by
    rw [he]
    simp [sizeOf, typeInfo, hi0, hz1]
  obtain ⟨g, o, rfl, -, -⟩ := row_some hrow (by omega)
  refine ⟨some ⟨g, o + lo, none⟩, fun W => ?_, fun W h => ?_⟩
  · rw [run_slice_lh W _ (some ⟨g, o, none⟩) len cap hu .i64 .i64 lo hi (by omega) (by omega) (by omega), hs W]
    have hc : ¬ cap = lo := by omega
    simp [sliced, Addr.add, hc]
  · have h3 := row_take (row_drop h lo (by rw [bys_length, hbl]; omega)) (hi - lo) (by rw [List.length_drop, bys_length, hbl]; omega)
    rw [← bys_drop, bys_take] at h3
    exact h3
theorem slice_front (T : Nat → Prop) (p : Option Addr) (len cap hi : Nat) (b : List UInt8) (w : World) (hrow : IsRow T w (.slice p len cap) (bys b)) (h1 : 0 < hi) (h2 : hi ≤ len) (hcap : len ≤ cap) :
    (∀ W, (Instr.slice 22 (.slice p len cap) none (some (.int .i64 (hi : Int))) none).run Tryz.prog W = .ok (.slice p hi cap) W) ∧ ∀ W, IsRow T W (.slice p len cap) (bys b) → IsRow T W (.slice p hi cap) (bys (b.take hi)) := by
  have hbl : b.length = len := by
    obtain ⟨_, _, h, _⟩ := hrow
    simp only [Value.slice.injEq, bys_length] at h
    exact h.2.1.symm
  obtain ⟨i0, hi0, hz0, hz1, hz2⟩ := info_parts info_u8
  have he : Tryz.prog.elem 22 = 5 := by simp [Program.elem, Tryz.underlying22]
  have hu : Tryz.prog.underlying 22 = some (.slice (Tryz.prog.elem 22)) := by rw [he]; exact Tryz.underlying22
  have hs : ∀ W, (sizeOf (Tryz.prog.elem 22)).run Tryz.prog W = .ok 1 W := fun W => by
    rw [he]
    simp [sizeOf, typeInfo, hi0, hz1]
  refine ⟨fun W => ?_, fun W h => ?_⟩
  · rw [run_slice_h W _ p len cap hu .i64 hi (by omega) (by omega)]
    (try rw [hs W])
    have hp : p.map (fun x => x.add 0) = p := by cases p with
      | none => rfl
      | some a => cases a; simp [Addr.add]
    simp [sliced, hp]
  · rw [← bys_take]
    exact row_take h hi (by rw [bys_length, hbl]; exact h2)
theorem step_append_run {P : Program} {ops : Array Oper} {o : Oper} {a : Act} {w w' : World} {K : Act → World → Prop} {Q : Exit → Act → World → Prop} {E : Prop} {v xv v' : Value} (hgd : o.guard = none) (s x : Operand) (t u : TypeId)
    (ho : o.op = .call { callee := .builtin .append, args := #[s, x], argTypes := #[t, u] }) (hs : a.eval s = v) (hx : a.eval x = xv)
    (hrun : (Builtin.append_ #[t, u] o.type #[v, xv]).run P w = .ok v' w') (h : K (a.put o.dst v') w') : if Region.wanted o (yielded ops a.tmps) = true then Oper.wp P o a w K Q else E := by
  have hw : Region.wanted o (yielded ops a.tmps) = true := by simp [Region.wanted, hgd]
  rw [if_pos hw]
  unfold Oper.wp execOp
  simp only [ho, resolve, invoke, builtin, Sem.run_bind, Sem.run_pure, Result.andThen_ok, List.map_toArray, List.map_cons, List.map_nil, hs, hx, hrun]
  exact h
/-- the end of a slice from a place on -/
theorem slice_from (T : Nat → Prop) (p : Option Addr) (len cap X : Nat) (b : List UInt8) (w : World) (hrow : IsRow T w (.slice p len cap) (bys b)) (hX : X ≤ len) (hcap : len ≤ cap) :
    ∃ p2, (∀ W, (Instr.slice 22 (.slice p len cap) (some (.int .i64 (X : Int))) none none).run Tryz.prog W = .ok (.slice p2 (len - X) (cap - X)) W) ∧ ∀ W, IsRow T W (.slice p len cap) (bys b) → IsRow T W (.slice p2 (len - X) (cap - X)) (bys (b.drop X)) := by
  have hbl : b.length = len := by
    obtain ⟨_, _, h, _⟩ := hrow
    simp only [Value.slice.injEq, bys_length] at h
    exact h.2.1.symm
  obtain ⟨i0, hi0, hz0, hz1, hz2⟩ := info_parts info_u8
  have he : Tryz.prog.elem 22 = 5 := by simp [Program.elem, Tryz.underlying22]
  have hu : Tryz.prog.underlying 22 = some (.slice (Tryz.prog.elem 22)) := by rw [he]; exact Tryz.underlying22
  have hs : ∀ W, (sizeOf (Tryz.prog.elem 22)).run Tryz.prog W = .ok 1 W := fun W => by
    rw [he]
    simp [sizeOf, typeInfo, hi0, hz1]
  by_cases hc : cap = X
  · refine ⟨p, fun W => ?_, fun W h => ?_⟩
    · rw [run_slice_l W _ p len cap hu .i64 X (by omega) (by omega), hs W]
      simp [sliced, hc]
    · have hd : b.drop X = [] := List.drop_eq_nil_of_le (by omega)
      rw [hd]
      exact ⟨p, cap - X, by rw [show len - X = 0 by omega]; rfl, fun i hi => by simp [bys] at hi⟩
  · rcases Nat.eq_zero_or_pos len with h0 | hpos
    · refine ⟨p.map (·.add (X * 1)), fun W => ?_, fun W h => ?_⟩
      · rw [run_slice_l W _ p len cap hu .i64 X (by omega) (by omega), hs W]
        simp [sliced, hc]
      · have hd : b.drop X = [] := List.drop_eq_nil_of_le (by omega)
        rw [hd]
        exact ⟨_, cap - X, by rw [show len - X = 0 by omega]; rfl, fun i hi => by simp [bys] at hi⟩
    · obtain ⟨g, o, rfl, -, -⟩ := row_some hrow hpos
      refine ⟨some ⟨g, o + X, none⟩, fun W => ?_, fun W h => ?_⟩
      · rw [run_slice_l W _ (some ⟨g, o, none⟩) len cap hu .i64 X (by omega) (by omega), hs W]
        simp [sliced, hc, Addr.add]
      · rw [bys_drop]
        exact row_drop h X (by rw [bys_length, hbl]; exact hX)
end Go.Proofs.YtjilbnpehgigjaaGreat

/- cflref1: Dec. (Printed by wip/tools/gen_refdec.py.) -/
namespace Go.Proofs.YtjilbnpehgigjaaGreat
open Go.RowKit
/-- the reference's reader: what is left, and its error -/
structure IsRDec (S : Nat → Prop) (w : World) (b : Nat) (l : List UInt8) (e : Int) : Prop where
  ex : ∃ p q, l.length ≤ q ∧ q ≤ maxLen ∧ w.heap[b]? = some (.cells #[.slice p l.length q, .int .i64 e] 119 (0, 0)) ∧ IsRow S w (.slice p l.length q) (bys l)
theorem IsRDec.mod {S T : Nat → Prop} {w w' : World} {b : Nat} {l : List UInt8} {e : Int} (h : IsRDec S w b l e) (m : Mod T w w') (hb : ¬ T b) (hs : ∀ k, k < w.heap.size → S k → ¬ T k) : IsRDec S w' b l e := by
  obtain ⟨p, q, h1, h2, h3, h4⟩ := h.ex
  exact ⟨p, q, h1, h2, (m.block b (heap_lt h3) hb).trans h3, h4.mod m hs⟩
theorem IsRDec.lt {S : Nat → Prop} {w : World} {b : Nat} {l : List UInt8} {e : Int} (h : IsRDec S w b l e) : b < w.heap.size := by
  obtain ⟨p, q, h1, h2, h3, h4⟩ := h.ex
  exact heap_lt h3
theorem IsRDec.mono {S T : Nat → Prop} {w : World} {b : Nat} {l : List UInt8} {e : Int} (h : IsRDec S w b l e) (hs : ∀ k, k < w.heap.size → S k → T k) : IsRDec T w b l e := by
  obtain ⟨p, q, h1, h2, h3, h4⟩ := h.ex
  exact ⟨p, q, h1, h2, h3, h4.mono hs⟩
set_option maxRecDepth 100000 in
set_option maxHeartbeats 2000000 in
theorem refDNum (S : Nat → Prop) (b : Nat) (l : List UInt8) (er : Int) (size : Nat) (sz : Int) (w : World) {x e2 : Int} {l2 : List UInt8} (h : IsRDec S w b l er) (hS : ¬ S b) (hs : sz = (size : Int)) (h1 : 1 ≤ size) (h8 : size ≤ 8) (hd : decN l er size = (x, l2, e2)) :
    Calls Tryz.prog 68 #[.pointer (some ⟨b, 0, none⟩), .int .i64 sz] w fun e w' => e = .returned (.int .i64 x) ∧ IsRDec S w' b l2 e2 ∧ Mod (· = b) w w' := by
  refine (?_ : ∀ Post : Ending → World → Prop, Hid (∀ e w', (e = .returned (.int .i64 x) ∧ IsRDec S w' b l2 e2 ∧ Mod (· = b) w w') → Post e w') → Calls Tryz.prog 68 #[.pointer (some ⟨b, 0, none⟩), .int .i64 sz] w Post) _ (Lib.hid (fun _ _ h => h))
  intro Post HPOST
  have HH := Lib.hid h
  obtain ⟨p, q, hq, hqm, hb, hrow⟩ := h.ex
  obtain ⟨N, hN⟩ : ∃ N, l.length = N := ⟨_, rfl⟩
  rw [hN] at hq hb hrow
  have c0 := cell_of hb 0
  have c1 := cell_of hb 1
  have z0 := free_of hb 0
  have z1 := free_of hb 1
  simp only [List.getElem?_toArray, List.getElem?_cons_zero, List.getElem?_cons_succ] at c0 c1
  have HB := Lib.hid hb
  have HROW := Lib.hid hrow
  have HN := Lib.hid hN
  have HSZ := Lib.hid hs
  have s1 : ¬ sz < 1 := by omega
  have s8 : ¬ 8 < sz := by omega
  unfold maxLen at hqm
  have m1 : ∀ v, Mod (· = b) w (w.setCell ⟨b, 1, none⟩ v) := fun v => (Mod.refl (· = b) w).setCell _ _ (fun _ => rfl)
  have HBAD : Hid (x = 0 → l2 = l → e2 = 2 → Post (.returned (.int .i64 0)) (w.setCell ⟨b, 1, none⟩ (.int .i64 2))) := Lib.hid (fun h3 h4 h5 => HPOST.out _ _ ⟨by rw [h3], by
    rw [h4, h5]
    exact ⟨p, q, by rw [HN.out]; exact hq, by unfold maxLen; omega, by rw [HN.out]; exact heap_setCell_same HB.out _ (off := 1), by rw [HN.out]; exact HROW.out.mod (m1 _) (fun k _ h e => hS (e ▸ h))⟩, m1 _⟩)
  clear h hb hrow hN hs m1
  by_cases he : er = 0
  case neg =>
    have e1 : (er != 0) = true := by simpa using he
    have e0 : (er == 0) = false := by simpa using he
    have hdd : decN l er size = (0, l, er) := by unfold decN; rw [if_pos he]
    rw [hdd] at hd
    simp only [Prod.mk.injEq] at hd
    obtain ⟨rfl, rfl, rfl⟩ := hd
    have HE := Lib.hid (HPOST.out (.returned (.int .i64 0)) w ⟨rfl, HH.out, Mod.refl _ _⟩)
    clear hdd he
    go_enter Tryz.func68, Tryz.ntmps68
    go_wp2_with fail
    exact HE.out
  subst he
  by_cases hbig : N < size
  case pos =>
    have hdd : decN l 0 size = (0, l, 2) := by
      have hn : numF l size = (0, 2) := by unfold numF; rw [if_pos (by rw [HN.out]; exact hbig)]
      unfold decN; rw [if_neg (by simp), hn, if_pos (by simp)]
    rw [hdd] at hd
    simp only [Prod.mk.injEq] at hd
    obtain ⟨rfl, rfl, rfl⟩ := hd
    have HE := Lib.hid (HBAD.out rfl rfl rfl)
    have hc : (N : Int) < sz := by have := HSZ.out; omega
    clear hdd hbig
    go_enter Tryz.func68, Tryz.ntmps68
    go_wp2_with fail
    exact HE.out
  have hc : ¬ (N : Int) < sz := by have := HSZ.out; omega
  have HD := Lib.hid hd
  clear hd
  go_enter Tryz.func68, Tryz.ntmps68
  go_wp2_with fail
  go_loopw [5, 6] (fun v5 v6 wr => ∃ i y : Nat, i ≤ size ∧ v6 = .int .i64 i ∧ v5 = .int .u64 y ∧ Hid (y = beN (l.take i)) ∧ wr = w) (fun _ v _ => size - (intOf v).toNat)
  case atStart => exact ⟨0, 0, by omega, rfl, rfl, Lib.hid rfl, rfl⟩
  case round =>
    obtain ⟨i, y, hi, rfl, rfl, HX, rfl⟩ := hrel
    by_cases hlt : i < size
    · have hls : (i : Int) < sz := by have := HSZ.out; omega
      have hiN : i < N := by omega
      obtain ⟨g, o, rfl, hcx⟩ : ∃ g o, p = some ⟨g, o, none⟩ ∧ wr.cell? ⟨g, o + i, none⟩ = some (.int .u8 (l.getD i 0).toNat) := by
        obtain ⟨p', c', hp, hcc⟩ := HROW.out
        obtain ⟨b', o', q1, q2, q3, q4⟩ := hcc i (by rw [bys_length, HN.out]; omega)
        simp only [Value.slice.injEq] at hp
        obtain ⟨rfl, -, -⟩ := hp
        rw [bys_getD _ _ (by rw [HN.out]; omega)] at q4
        exact ⟨b', o', q1, q4⟩
      have hx56 : y < 72057594037927936 := by
        have h1 := beN_take_lt l i (by have := HN.out; omega)
        have h2 : 256 ^ i ≤ 256 ^ 7 := Nat.pow_le_pow_right (by omega) (by omega)
        rw [← HX.out] at h1
        have h3 : (256 : Nat) ^ 7 = 72057594037927936 := by decide
        omega
      have hnext : beN (l.take (i + 1)) = y * 256 + (l.getD i 0).toNat := by rw [beN_take l i (by have := HN.out; omega), HX.out]
      obtain ⟨d, hd⟩ : ∃ d, (l.getD i 0).toNat = d := ⟨_, rfl⟩
      have hd256 : d < 256 := by rw [← hd]; exact UInt8.toNat_lt _
      rw [hd] at hcx hnext
      have HNX := Lib.hid hnext
      have hor := or_byte y d hx56 hd256
      obtain ⟨y2, hy⟩ : ∃ y2, y * 256 + d = y2 := ⟨_, rfl⟩
      rw [hy] at hor
      have HY := Lib.hid hy
      clear hnext hd hy
      go_wp2_with fail
      exact ⟨⟨i + 1, y2, by omega, by go_num, rfl, Lib.hid (by rw [HNX.out, HY.out]), trivial⟩, by simp [intOf]; omega⟩
    · obtain rfl : i = size := by omega
      have hls : ¬ (i : Int) < sz := by have := HSZ.out; omega
      have hx64 : y < 18446744073709551616 := by
        have h1 := beN_take_lt l i (by have := HN.out; omega)
        have h2 : 256 ^ i ≤ 256 ^ 8 := Nat.pow_le_pow_right (by omega) (by omega)
        rw [← HX.out] at h1
        have h3 : (256 : Nat) ^ 8 = 18446744073709551616 := by decide
        omega
      by_cases hby : 4611686018427387904 < y
      · have hn : numF l i = (0, 2) := by unfold numF; rw [if_neg (by have := HN.out; omega), ← HX.out, if_pos hby]
        have hdd : decN l 0 i = (0, l, 2) := by unfold decN; rw [if_neg (by simp), hn, if_pos (by simp)]
        have hD := HD.out
        rw [hdd] at hD
        simp only [Prod.mk.injEq] at hD
        obtain ⟨rfl, rfl, rfl⟩ := hD
        have HE := Lib.hid (HBAD.out rfl rfl rfl)
        have hb' : (4611686018427387904 : Int) < (y : Int) := by omega
        clear hn hdd hby HD
        go_wp2_with fail
        exact HE.out
      · have hn : numF l i = ((y : Int), 0) := by unfold numF; rw [if_neg (by have := HN.out; omega), ← HX.out, if_neg hby]
        have hdd : decN l 0 i = ((y : Int), l.drop i, 0) := by unfold decN; rw [if_neg (by simp), hn, if_neg (by simp)]
        have hD := HD.out
        rw [hdd] at hD
        simp only [Prod.mk.injEq] at hD
        obtain ⟨rfl, rfl, rfl⟩ := hD
        obtain ⟨p2, hsl, hr2⟩ := slice_from S p N q i l wr HROW.out (by omega) hq
        rw [← HSZ.out] at hsl
        obtain ⟨n2, hn2⟩ : ∃ n, N - i = n := ⟨_, rfl⟩
        obtain ⟨q2, hq2⟩ : ∃ n, q - i = n := ⟨_, rfl⟩
        rw [hn2, hq2] at hsl hr2
        have m0 : Mod (· = b) wr (wr.setCell ⟨b, 0, none⟩ (.slice p2 n2 q2)) := (Mod.refl (· = b) wr).setCell _ _ (fun _ => rfl)
        have hln : (l.drop i).length = n2 := by rw [List.length_drop, HN.out, hn2]
        have HE := Lib.hid (HPOST.out (.returned (.int .i64 (y : Int))) (wr.setCell ⟨b, 0, none⟩ (.slice p2 n2 q2)) ⟨rfl, ⟨p2, q2, by rw [hln]; omega, by unfold maxLen; omega, by rw [hln]; exact heap_setCell_same HB.out _ (off := 0), by rw [hln]; exact (hr2 wr HROW.out).mod m0 (fun k _ h e => hS (e ▸ h))⟩, m0⟩)
        have hb' : ¬ (4611686018427387904 : Int) < (y : Int) := by omega
        have hxw : IntKind.i64.wrap (y : Int) = (y : Int) := by rw [IntKind.wrap_i64]; omega
        clear hn hdd hby HD hr2 m0 hln hn2 hq2
        go_wp2_with fail
        exact HE.out
end Go.Proofs.YtjilbnpehgigjaaGreat

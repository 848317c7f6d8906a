/- Package wire: reading. -/
import Derived.Test.YtjilbnpehgigjaaGreatWire
import Derived.LoopTactic
import Derived.Test.YtjilbnpehgigjaaGreatRefLists
namespace Go.Proofs.YtjilbnpehgigjaaGreat
open Go.RowKit
/-- the number that bytes spell, the highest byte first -/
def beN (l : List UInt8) : Nat := l.foldl (fun n c => n * 256 + c.toNat) 0
theorem beN_snoc (l : List UInt8) (c : UInt8) : beN (l ++ [c]) = beN l * 256 + c.toNat := by simp [beN]
theorem beN_take (l : List UInt8) (i : Nat) (h : i < l.length) : beN (l.take (i + 1)) = beN (l.take i) * 256 + (l.getD i 0).toNat := by
  rw [List.take_succ_eq_append_getElem h, beN_snoc, List.getD_eq_getElem?_getD, List.getElem?_eq_getElem h]; rfl
theorem beN_take_lt (l : List UInt8) (i : Nat) (h : i ≤ l.length) : beN (l.take i) < 256 ^ i := by
  induction i with
  | zero => simp [beN]
  | succ i ih =>
    rw [beN_take l i (by omega), Nat.pow_succ]
    have := ih (by omega)
    have := UInt8.toNat_lt (l.getD i 0)
    omega
/-- what number tells of bytes that it begins with: the number, and the error -/
def numF (l : List UInt8) (size : Nat) : Int × Int :=
  if l.length < size then (0, 2) else if 4611686018427387904 < beN (l.take size) then (0, 2) else (beN (l.take size), 0)
theorem or_byte (v c : Nat) (hv : v < 72057594037927936) (hc : c < 256) : bits .or .u64 ((v : Int) * 256) (c : Int) = ((v * 256 + c : Nat) : Int) := by
  have h1 : (BitVec.ofInt 64 ((v : Int) * 256) ||| BitVec.ofInt 64 (c : Int)).toNat = v * 256 + c := by
    rw [BitVec.toNat_or, BitVec.toNat_ofInt, BitVec.toNat_ofInt, show ((2 ^ 64 : Nat) : Int) = 18446744073709551616 from rfl]
    have e1 : (((v : Int) * 256) % 18446744073709551616).toNat = v * 256 := by
      rw [Int.emod_eq_of_lt (by omega) (by omega)]; omega
    have e2 : ((c : Int) % 18446744073709551616).toNat = c := by
      rw [Int.emod_eq_of_lt (by omega) (by omega)]; omega
    rw [e1, e2]
    have := Nat.shiftLeft_add_eq_or_of_lt (i := 8) (b := c) (by simpa using hc) v
    rw [Nat.shiftLeft_eq] at this
    simpa using this.symm
  show IntKind.u64.wrap ((BitVec.ofInt 64 ((v : Int) * 256) ||| BitVec.ofInt 64 (c : Int)).toNat : Int) = _
  rw [h1]
  simp only [IntKind.wrap, IntKind.bits, IntKind.signed]
  simp
  omega
set_option maxHeartbeats 1000000 in
theorem wireNumber (T : Nat → Prop) (p : Option Addr) (len cap : Nat) (l : List UInt8) (size : Nat) (w : World) (hrow : IsRow T w (.slice p len cap) (bys l)) (hcap : len ≤ cap) (h1 : 1 ≤ size) (h8 : size ≤ 8) :
    Calls Tryz.prog 98 #[.slice p len cap, .int .i64 size] w fun e w' => e = .returned (.tuple #[.int .i64 (numF l size).1, .int .i64 (numF l size).2]) ∧ w = w' := by
  have hll : l.length = len := by
    obtain ⟨_, _, h, _⟩ := hrow
    simp only [Value.slice.injEq, bys_length] at h
    exact h.2.1.symm
  by_cases hs : len < size
  · have e : numF l size = (0, 2) := by unfold numF; rw [if_pos (by omega)]
    rw [e]
    clear hrow hll e
    go_enter Tryz.func98, Tryz.ntmps98
    go_wp2_with fail
    refine (wireMay size h1 h8 _).mono ?_
    rintro e w1 ⟨rfl, rfl⟩
    go_wp2_with fail
    go_ret2
    exact ⟨rfl, rfl⟩
  · have HROW := Lib.hid hrow
    have HLL := Lib.hid hll
    clear hrow hll
    obtain ⟨F, hF⟩ : ∃ F, numF l size = F := ⟨_, rfl⟩
    have HF := Lib.hid hF
    rw [hF]
    clear hF
    go_enter Tryz.func98, Tryz.ntmps98
    go_wp2_with fail
    refine (wireMay size h1 h8 _).mono ?_
    rintro e w1 ⟨rfl, rfl⟩
    go_wp2_with fail
    go_loop [6, 20] (fun v6 v20 => ∃ i x : Nat, i ≤ size ∧ v20 = .int .i64 i ∧ v6 = .int .u64 x ∧ Hid (x = beN (l.take i))) (fun _ v => size - (intOf v).toNat)
    case atStart => exact ⟨0, 0, by omega, rfl, rfl, Lib.hid rfl⟩
    case round =>
      obtain ⟨i, x, hi, rfl, rfl, HX⟩ := hrel
      by_cases hlt : i < size
      · obtain ⟨g, o, rfl, hc⟩ : ∃ g o, p = some ⟨g, o, none⟩ ∧ w.cell? ⟨g, o + i, none⟩ = some (.int .u8 (l.getD i 0).toNat) := by
          obtain ⟨p', c', hp, hcc⟩ := HROW.out
          obtain ⟨b', o', q1, q2, q3, q4⟩ := hcc i (by rw [bys_length, HLL.out]; omega)
          simp only [Value.slice.injEq] at hp
          obtain ⟨rfl, -, -⟩ := hp
          rw [bys_getD _ _ (by rw [HLL.out]; omega)] at q4
          exact ⟨b', o', q1, q4⟩
        have hx56 : x < 72057594037927936 := by
          have h1 := beN_take_lt l i (by have := HLL.out; omega)
          have h2 : 256 ^ i ≤ 256 ^ 7 := Nat.pow_le_pow_right (by omega) (by omega)
          rw [← HX.out] at h1
          have h3 : (256 : Nat) ^ 7 = 72057594037927936 := by decide
          omega
        have hnext : beN (l.take (i + 1)) = x * 256 + (l.getD i 0).toNat := by rw [beN_take l i (by have := HLL.out; omega), HX.out]
        obtain ⟨d, hd⟩ : ∃ d, (l.getD i 0).toNat = d := ⟨_, rfl⟩
        have hd256 : d < 256 := by rw [← hd]; exact UInt8.toNat_lt _
        rw [hd] at hc hnext
        have HNX := Lib.hid hnext
        have hor := or_byte x d hx56 hd256
        obtain ⟨y, hy⟩ : ∃ y, x * 256 + d = y := ⟨_, rfl⟩
        rw [hy] at hor
        have HY := Lib.hid hy
        clear hnext hd hy
        go_wp2_with fail
        exact ⟨⟨i + 1, y, by omega, by go_num, rfl, Lib.hid (by rw [HNX.out, HY.out])⟩, by simp [intOf]; omega⟩
      · obtain rfl : i = size := by omega
        have hx64 : x < 18446744073709551616 := by
          have h1 := beN_take_lt l i (by have := HLL.out; omega)
          have h2 : 256 ^ i ≤ 256 ^ 8 := Nat.pow_le_pow_right (by omega) (by omega)
          rw [← HX.out] at h1
          have h3 : (256 : Nat) ^ 8 = 18446744073709551616 := by decide
          omega
        by_cases hbig : 4611686018427387904 < x
        · have hF : F = (0, 2) := by rw [← HF.out]; unfold numF; rw [if_neg (by have := HLL.out; omega), ← HX.out, if_pos hbig]
          have HFF := Lib.hid hF
          have hb' : (4611686018427387904 : Int) < (x : Int) := by omega
          clear hF
          go_wp2_with fail
          go_ret2
          exact ⟨by rw [HFF.out]; rfl, rfl⟩
        · have hF : F = ((x : Int), 0) := by rw [← HF.out]; unfold numF; rw [if_neg (by have := HLL.out; omega), ← HX.out, if_neg hbig]
          have HFF := Lib.hid hF
          have hb' : ¬ (4611686018427387904 : Int) < (x : Int) := by omega
          have hxw : IntKind.i64.wrap (x : Int) = (x : Int) := by rw [IntKind.wrap_i64]; omega
          clear hF
          go_wp2_with fail
          go_ret2
          exact ⟨by rw [HFF.out]; rfl, rfl⟩
theorem row_drop {S : Nat → Prop} {w : World} {g o n c : Nat} {xs : List Value} (h : IsRow S w (.slice (some ⟨g, o, none⟩) n c) xs) (k : Nat) (hk : k ≤ xs.length) : IsRow S w (.slice (some ⟨g, o + k, none⟩) (n - k) (c - k)) (xs.drop k) := by
  obtain ⟨p', c', hv, hc⟩ := h
  simp only [Value.slice.injEq] at hv
  obtain ⟨rfl, rfl, rfl⟩ := hv
  refine ⟨_, c - k, by rw [List.length_drop], fun i hi => ?_⟩
  rw [List.length_drop] at hi
  obtain ⟨b, off, h1, h2, h3, h4⟩ := hc (k + i) (by omega)
  simp only [Option.some.injEq, Addr.mk.injEq, and_true] at h1
  obtain ⟨rfl, rfl⟩ := h1
  refine ⟨g, o + k, rfl, h2, h3, ?_⟩
  rw [Nat.add_assoc, h4, List.getD_eq_getElem?_getD, List.getD_eq_getElem?_getD, List.getElem?_drop]
theorem row_some {S : Nat → Prop} {w : World} {p : Option Addr} {n c : Nat} {xs : List Value} (h : IsRow S w (.slice p n c) xs) (hn : 0 < n) : ∃ g o, p = some ⟨g, o, none⟩ ∧ S g ∧ g < w.heap.size := by
  obtain ⟨p', c', hv, hc⟩ := h
  simp only [Value.slice.injEq] at hv
  obtain ⟨rfl, rfl, rfl⟩ := hv
  obtain ⟨b, off, h1, h2, h3, h4⟩ := hc 0 hn
  exact ⟨b, off, h1, h2, h3⟩
theorem bys_drop (l : List UInt8) (k : Nat) : bys (l.drop k) = (bys l).drop k := by simp [bys, List.map_drop]
/-- a reader at block b: what it has not read, and its error -/
structure IsDec (S : Nat → Prop) (w : World) (b : Nat) (l : List UInt8) (e : Int) : Prop where
  ex : ∃ p q, l.length ≤ q ∧ q ≤ maxLen ∧ w.heap[b]? = some (.cells #[.slice p l.length q, .int .i64 e] 145 (0, 0)) ∧ IsRow S w (.slice p l.length q) (bys l)
theorem IsDec.mod {S T : Nat → Prop} {w w' : World} {b : Nat} {l : List UInt8} {e : Int} (h : IsDec S w b l e) (m : Mod T w w') (hb : ¬ T b) (hs : ∀ k, k < w.heap.size → S k → ¬ T k) : IsDec S w' b l e := by
  obtain ⟨p, q, h1, h2, h3, h4⟩ := h.ex
  exact ⟨p, q, h1, h2, (m.block b (heap_lt h3) hb).trans h3, h4.mod m hs⟩
theorem IsDec.lt {S : Nat → Prop} {w : World} {b : Nat} {l : List UInt8} {e : Int} (h : IsDec S w b l e) : b < w.heap.size := by
  obtain ⟨p, q, h1, h2, h3, h4⟩ := h.ex
  exact heap_lt h3
/-- what Num tells, and what is left -/
def decN (l : List UInt8) (e : Int) (size : Nat) : Int × List UInt8 × Int :=
  if e ≠ 0 then (0, l, e) else if (numF l size).2 ≠ 0 then (0, l, (numF l size).2) else ((numF l size).1, l.drop size, 0)
theorem wireNewDec (T : Nat → Prop) (v : Value) (l : List UInt8) (w : World) (h : IsRow T w v (bys l)) (hl : l.length ≤ 1099511627776) :
    Calls Tryz.prog 75 #[v] w fun e w' => ∃ b, e = .returned (.pointer (some ⟨b, 0, none⟩)) ∧ w.heap.size ≤ b ∧ IsDec (fun k => w.heap.size ≤ k ∧ k ≠ b) w' b l 0 ∧ Mod nil w w' := by
  have HROW := Lib.hid h
  obtain ⟨p, c, rfl, _⟩ := h
  rw [bys_length] at HROW ⊢
  go_enter Tryz.func75, Tryz.ntmps75
  go_wp2_with fail
  refine (cloneBytes T _ l w HROW.out (by omega)).mono ?_
  rintro e w1 ⟨v', rfl, hv, hm⟩
  have hcapm : ∃ p' c', v' = .slice p' l.length c' ∧ l.length ≤ c' ∧ c' ≤ maxLen := by
    rcases hv.1.2 with ⟨rfl, h0⟩ | ⟨g, cap, cur, rfl, _, _, h, hcm, _⟩
    · exact ⟨none, 0, by rw [h0], by omega, by unfold maxLen; omega⟩
    · exact ⟨_, _, rfl, h, hcm⟩
  obtain ⟨p', c', rfl, hc1, hc2⟩ := hcapm
  have HV := Lib.hid hv
  have HM := Lib.hid hm
  clear hv hm
  go_wp2_with fail
  go_ret
  refine ⟨w1.heap.size, rfl, HM.out.size, ⟨p', c', hc1, hc2, heap_alloc_new _ _, ?_⟩, HM.out.alloc _⟩
  exact (HV.out.row.mono (fun k hk h => ⟨h, by omega⟩)).modNil ((Mod.refl nil w1).alloc _)
set_option maxHeartbeats 1000000 in
theorem decNum (S : Nat → Prop) (b : Nat) (l : List UInt8) (er : Int) (size : Nat) (w : World) (h : IsDec S w b l er) (hS : ¬ S b) (h1 : 1 ≤ size) (h8 : size ≤ 8) :
    Calls Tryz.prog 76 #[.pointer (some ⟨b, 0, none⟩), .int .i64 size] w fun e w' => e = .returned (.int .i64 (decN l er size).1) ∧ IsDec S w' b (decN l er size).2.1 (decN l er size).2.2 ∧ Mod (· = b) w w' := by
  obtain ⟨p, q, hq, hqm, hb, hrow⟩ := h.ex
  have c0 := cell_of hb 0
  have c1 := cell_of hb 1
  have z0 := free_of hb 0
  have z1 := free_of hb 1
  simp only [List.getElem?_toArray, List.getElem?_cons_zero, List.getElem?_cons_succ] at c0 c1
  have HH := Lib.hid h
  have HB := Lib.hid hb
  have HROW := Lib.hid hrow
  unfold maxLen at hqm
  clear h hb hrow
  by_cases he : er = 0
  case neg =>
    have e1 : (er != 0) = true := by simpa using he
    have hd : decN l er size = (0, l, er) := by unfold decN; rw [if_pos he]
    rw [hd]
    clear hd
    go_enter Tryz.func76, Tryz.ntmps76
    go_wp2_with fail
    go_ret
    exact ⟨rfl, HH.out, Mod.refl _ _⟩
  case pos =>
    subst he
    obtain ⟨N, hN⟩ : ∃ N, l.length = N := ⟨_, rfl⟩
    rw [hN] at c0 hq HB HROW
    have HN := Lib.hid hN
    clear hN
    have hnum := wireNumber S p N q l size w HROW.out hq h1 h8
    obtain ⟨v, er, hF⟩ : ∃ v er, numF l size = (v, er) := ⟨_, _, rfl⟩
    rw [hF] at hnum
    by_cases her : er = 0
    case neg =>
      have e1 : (er != 0) = true := by simpa using her
      have hd : decN l 0 size = (0, l, er) := by unfold decN; rw [if_neg (by simp), hF, if_pos her]
      rw [hd]
      have HNUM := Lib.hid hnum
      clear hd hnum hF
      go_enter Tryz.func76, Tryz.ntmps76
      go_wp2_with fail
      refine HNUM.out.mono ?_
      rintro e w1 ⟨rfl, rfl⟩
      go_wp2_with fail
      go_ret
      exact ⟨rfl, ⟨p, q, by rw [HN.out]; exact hq, by unfold maxLen; omega, by rw [HN.out]; exact heap_setCell_same HB.out _ (off := 1), by rw [HN.out]; exact HROW.out.mod (T := (· = b)) ((Mod.refl (· = b) w).setCell _ _ (fun _ => rfl)) (fun k _ h e => hS (e ▸ h))⟩, (Mod.refl (· = b) w).setCell _ _ (fun _ => rfl)⟩
    case pos =>
      subst her
      have hsz : size ≤ N := by
        rw [← HN.out]
        unfold numF at hF
        split at hF
        · simp at hF
        · omega
      have hd : decN l 0 size = (v, l.drop size, 0) := by unfold decN; rw [if_neg (by simp), hF, if_neg (by simp)]
      rw [hd]
      have HNUM := Lib.hid hnum
      clear hd hnum hF
      obtain ⟨g, o, rfl, -, -⟩ := row_some HROW.out (by omega)
      have hld : (l.drop size).length = N - size := by rw [List.length_drop, HN.out]
      have HLD := Lib.hid hld
      clear hld
      rcases Nat.lt_or_ge size q with hlt | hge
      · have hne : ¬ q = size := by omega
        go_enter Tryz.func76, Tryz.ntmps76
        go_wp2_with fail
        refine HNUM.out.mono ?_
        rintro e w1 ⟨rfl, rfl⟩
        go_wp2_with fail
        go_ret
        refine ⟨rfl, ⟨some ⟨g, o + size, none⟩, q - size, by rw [HLD.out]; omega, by unfold maxLen; omega, by rw [HLD.out]; exact heap_setCell_same HB.out _ (off := 0), ?_⟩, (Mod.refl (· = b) w).setCell _ _ (fun _ => rfl)⟩
        rw [HLD.out, bys_drop]
        exact (row_drop HROW.out size (by rw [bys_length, HN.out]; exact hsz)).mod (T := (· = b)) ((Mod.refl (· = b) w).setCell _ _ (fun _ => rfl)) (fun k _ h e => hS (e ▸ h))
      · obtain rfl : q = size := by omega
        obtain rfl : N = q := by omega
        go_enter Tryz.func76, Tryz.ntmps76
        go_wp2_with fail
        refine HNUM.out.mono ?_
        rintro e w1 ⟨rfl, rfl⟩
        go_wp2_with fail
        go_ret
        have hd0 : l.drop N = [] := List.drop_eq_nil_of_le (by rw [HN.out]; exact Nat.le_refl _)
        refine ⟨rfl, ⟨some ⟨g, o, none⟩, 0, by rw [HLD.out]; omega, by unfold maxLen; omega, by rw [HLD.out]; simpa using heap_setCell_same HB.out (.slice (some ⟨g, o, none⟩) 0 0) (off := 0), ?_⟩, (Mod.refl (· = b) w).setCell _ _ (fun _ => rfl)⟩
        rw [hd0]
        exact ⟨_, 0, rfl, fun i hi => by simp [bys] at hi⟩
end Go.Proofs.YtjilbnpehgigjaaGreat

/- Cuts out of slices of bytes; an append in a region's step, its run known. -/
namespace Go.Proofs.YtjilbnpehgigjaaGreat
open Go.RowKit
theorem row_take {S : Nat → Prop} {w : World} {p : Option Addr} {n c : Nat} {xs : List Value} (h : IsRow S w (.slice p n c) xs) (k : Nat) (hk : k ≤ xs.length) : IsRow S w (.slice p k c) (xs.take k) := by
  obtain ⟨p', c', hv, hc⟩ := h
  simp only [Value.slice.injEq] at hv
  obtain ⟨rfl, -, rfl⟩ := hv
  refine ⟨p, c, by rw [List.length_take, Nat.min_eq_left hk], fun i hi => ?_⟩
  rw [List.length_take] at hi
  obtain ⟨b, off, h1, h2, h3, h4⟩ := hc i (by omega)
  exact ⟨b, off, h1, h2, h3, by rw [h4, List.getD_eq_getElem?_getD, List.getD_eq_getElem?_getD, List.getElem?_take_of_lt (by omega)]⟩
theorem bys_take (b : List UInt8) (k : Nat) : (bys b).take k = bys (b.take k) := by simp [bys]
/-- a cut out of a slice of bytes -/
theorem slice_cut (T : Nat → Prop) (p : Option Addr) (len cap lo hi : Nat) (b : List UInt8) (w : World) (hrow : IsRow T w (.slice p len cap) (bys b)) (h1 : lo < hi) (h2 : hi ≤ len) (hcap : len ≤ cap) :
    ∃ p2, (∀ W, (Instr.slice 22 (.slice p len cap) (some (.int .i64 (lo : Int))) (some (.int .i64 (hi : Int))) none).run Tryz.prog W = .ok (.slice p2 (hi - lo) (cap - lo)) W) ∧ ∀ W, IsRow T W (.slice p len cap) (bys b) → IsRow T W (.slice p2 (hi - lo) (cap - lo)) (bys ((b.drop lo).take (hi - lo))) := by
  have hbl : b.length = len := by
    obtain ⟨_, _, h, _⟩ := hrow
    simp only [Value.slice.injEq, bys_length] at h
    exact h.2.1.symm
  obtain ⟨i0, hi0, hz0, hz1, hz2⟩ := info_parts info_u8
  have he : Tryz.prog.elem 22 = 5 := by simp [Program.elem, Tryz.underlying22]
  have hu : Tryz.prog.underlying 22 = some (.slice (Tryz.prog.elem 22)) := by rw [he]; exact Tryz.underlying22
  have hs : ∀ W, (sizeOf (Tryz.prog.elem 22)).run Tryz.prog W = .ok 1 W := fun W => by
    rw [he]
    simp [sizeOf, typeInfo, hi0, hz1]
  obtain ⟨g, o, rfl, -, -⟩ := row_some hrow (by omega)
  refine ⟨some ⟨g, o + lo, none⟩, fun W => ?_, fun W h => ?_⟩
  · rw [run_slice_lh W _ (some ⟨g, o, none⟩) len cap hu .i64 .i64 lo hi (by omega) (by omega) (by omega), hs W]
    have hc : ¬ cap = lo := by omega
    simp [sliced, Addr.add, hc]
  · have h3 := row_take (row_drop h lo (by rw [bys_length, hbl]; omega)) (hi - lo) (by rw [List.length_drop, bys_length, hbl]; omega)
    rw [← bys_drop, bys_take] at h3
    exact h3
theorem slice_front (T : Nat → Prop) (p : Option Addr) (len cap hi : Nat) (b : List UInt8) (w : World) (hrow : IsRow T w (.slice p len cap) (bys b)) (h1 : 0 < hi) (h2 : hi ≤ len) (hcap : len ≤ cap) :
    (∀ W, (Instr.slice 22 (.slice p len cap) none (some (.int .i64 (hi : Int))) none).run Tryz.prog W = .ok (.slice p hi cap) W) ∧ ∀ W, IsRow T W (.slice p len cap) (bys b) → IsRow T W (.slice p hi cap) (bys (b.take hi)) := by
  have hbl : b.length = len := by
    obtain ⟨_, _, h, _⟩ := hrow
    simp only [Value.slice.injEq, bys_length] at h
    exact h.2.1.symm
  obtain ⟨i0, hi0, hz0, hz1, hz2⟩ := info_parts info_u8
  have he : Tryz.prog.elem 22 = 5 := by simp [Program.elem, Tryz.underlying22]
  have hu : Tryz.prog.underlying 22 = some (.slice (Tryz.prog.elem 22)) := by rw [he]; exact Tryz.underlying22
  have hs : ∀ W, (sizeOf (Tryz.prog.elem 22)).run Tryz.prog W = .ok 1 W := fun W => by
    rw [he]
    simp [sizeOf, typeInfo, hi0, hz1]
  refine ⟨fun W => ?_, fun W h => ?_⟩
  · rw [run_slice_h W _ p len cap hu .i64 hi (by omega) (by omega)]
    (try rw [hs W])
    have hp : p.map (fun x => x.add 0) = p := by cases p with
      | none => rfl
      | some a => cases a; simp [Addr.add]
    simp [sliced, hp]
  · rw [← bys_take]
    exact row_take h hi (by rw [bys_length, hbl]; exact h2)
theorem step_append_run {P : Program} {ops : Array Oper} {o : Oper} {a : Act} {w w' : World} {K : Act → World → Prop} {Q : Exit → Act → World → Prop} {E : Prop} {v xv v' : Value} (hgd : o.guard = none) (s x : Operand) (t u : TypeId)
    (ho : o.op = .call { callee := .builtin .append, args := #[s, x], argTypes := #[t, u] }) (hs : a.eval s = v) (hx : a.eval x = xv)
    (hrun : (Builtin.append_ #[t, u] o.type #[v, xv]).run P w = .ok v' w') (h : K (a.put o.dst v') w') : if Region.wanted o (yielded ops a.tmps) = true then Oper.wp P o a w K Q else E := by
  have hw : Region.wanted o (yielded ops a.tmps) = true := by simp [Region.wanted, hgd]
  rw [if_pos hw]
  unfold Oper.wp execOp
  simp only [ho, resolve, invoke, builtin, Sem.run_bind, Sem.run_pure, Result.andThen_ok, List.map_toArray, List.map_cons, List.map_nil, hs, hx, hrun]
  exact h
/-- the end of a slice from a place on -/
theorem slice_from (T : Nat → Prop) (p : Option Addr) (len cap X : Nat) (b : List UInt8) (w : World) (hrow : IsRow T w (.slice p len cap) (bys b)) (hX : X ≤ len) (hcap : len ≤ cap) :
    ∃ p2, (∀ W, (Instr.slice 22 (.slice p len cap) (some (.int .i64 (X : Int))) none none).run Tryz.prog W = .ok (.slice p2 (len - X) (cap - X)) W) ∧ ∀ W, IsRow T W (.slice p len cap) (bys b) → IsRow T W (.slice p2 (len - X) (cap - X)) (bys (b.drop X)) := by
  have hbl : b.length = len := by
    obtain ⟨_, _, h, _⟩ := hrow
    simp only [Value.slice.injEq, bys_length] at h
    exact h.2.1.symm
  obtain ⟨i0, hi0, hz0, hz1, hz2⟩ := info_parts info_u8
  have he : Tryz.prog.elem 22 = 5 := by simp [Program.elem, Tryz.underlying22]
  have hu : Tryz.prog.underlying 22 = some (.slice (Tryz.prog.elem 22)) := by rw [he]; exact Tryz.underlying22
  have hs : ∀ W, (sizeOf (Tryz.prog.elem 22)).run Tryz.prog W = .ok 1 W := fun W => by
    rw [he]
    simp [sizeOf, typeInfo, hi0, hz1]
  by_cases hc : cap = X
  · refine ⟨p, fun W => ?_, fun W h => ?_⟩
    · rw [run_slice_l W _ p len cap hu .i64 X (by omega) (by omega), hs W]
      simp [sliced, hc]
    · have hd : b.drop X = [] := List.drop_eq_nil_of_le (by omega)
      rw [hd]
      exact ⟨p, cap - X, by rw [show len - X = 0 by omega]; rfl, fun i hi => by simp [bys] at hi⟩
  · rcases Nat.eq_zero_or_pos len with h0 | hpos
    · refine ⟨p.map (·.add (X * 1)), fun W => ?_, fun W h => ?_⟩
      · rw [run_slice_l W _ p len cap hu .i64 X (by omega) (by omega), hs W]
        simp [sliced, hc]
      · have hd : b.drop X = [] := List.drop_eq_nil_of_le (by omega)
        rw [hd]
        exact ⟨_, cap - X, by rw [show len - X = 0 by omega]; rfl, fun i hi => by simp [bys] at hi⟩
    · obtain ⟨g, o, rfl, -, -⟩ := row_some hrow hpos
      refine ⟨some ⟨g, o + X, none⟩, fun W => ?_, fun W h => ?_⟩
      · rw [run_slice_l W _ (some ⟨g, o, none⟩) len cap hu .i64 X (by omega) (by omega), hs W]
        simp [sliced, hc, Addr.add]
      · rw [bys_drop]
        exact row_drop h X (by rw [bys_length, hbl]; exact hX)
end Go.Proofs.YtjilbnpehgigjaaGreat

/- cflref1: Dec. (Printed by wip/tools/gen_refdec.py.) -/
namespace Go.Proofs.YtjilbnpehgigjaaGreat
open Go.RowKit
/-- the reference's reader: what is left, and its error -/
structure IsRDec (S : Nat → Prop) (w : World) (b : Nat) (l : List UInt8) (e : Int) : Prop where
  ex : ∃ p q, l.length ≤ q ∧ q ≤ maxLen ∧ w.heap[b]? = some (.cells #[.slice p l.length q, .int .i64 e] 119 (0, 0)) ∧ IsRow S w (.slice p l.length q) (bys l)
theorem IsRDec.mod {S T : Nat → Prop} {w w' : World} {b : Nat} {l : List UInt8} {e : Int} (h : IsRDec S w b l e) (m : Mod T w w') (hb : ¬ T b) (hs : ∀ k, k < w.heap.size → S k → ¬ T k) : IsRDec S w' b l e := by
  obtain ⟨p, q, h1, h2, h3, h4⟩ := h.ex
  exact ⟨p, q, h1, h2, (m.block b (heap_lt h3) hb).trans h3, h4.mod m hs⟩
theorem IsRDec.lt {S : Nat → Prop} {w : World} {b : Nat} {l : List UInt8} {e : Int} (h : IsRDec S w b l e) : b < w.heap.size := by
  obtain ⟨p, q, h1, h2, h3, h4⟩ := h.ex
  exact heap_lt h3
theorem IsRDec.mono {S T : Nat → Prop} {w : World} {b : Nat} {l : List UInt8} {e : Int} (h : IsRDec S w b l e) (hs : ∀ k, k < w.heap.size → S k → T k) : IsRDec T w b l e := by
  obtain ⟨p, q, h1, h2, h3, h4⟩ := h.ex
  exact ⟨p, q, h1, h2, h3, h4.mono hs⟩
set_option maxRecDepth 100000 in
set_option maxHeartbeats 2000000 in
theorem refDNum (S : Nat → Prop) (b : Nat) (l : List UInt8) (er : Int) (size : Nat) (sz : Int) (w : World) {x e2 : Int} {l2 : List UInt8} (h : IsRDec S w b l er) (hS : ¬ S b) (hs : sz = (size : Int)) (h1 : 1 ≤ size) (h8 : size ≤ 8) (hd : decN l er size = (x, l2, e2)) :
    Calls Tryz.prog 68 #[.pointer (some ⟨b, 0, none⟩), .int .i64 sz] w fun e w' => e = .returned (.int .i64 x) ∧ IsRDec S w' b l2 e2 ∧ Mod (· = b) w w' := by
  refine (?_ : ∀ Post : Ending → World → Prop, Hid (∀ e w', (e = .returned (.int .i64 x) ∧ IsRDec S w' b l2 e2 ∧ Mod (· = b) w w') → Post e w') → Calls Tryz.prog 68 #[.pointer (some ⟨b, 0, none⟩), .int .i64 sz] w Post) _ (Lib.hid (fun _ _ h => h))
  intro Post HPOST
  have HH := Lib.hid h
  obtain ⟨p, q, hq, hqm, hb, hrow⟩ := h.ex
  obtain ⟨N, hN⟩ : ∃ N, l.length = N := ⟨_, rfl⟩
  rw [hN] at hq hb hrow
  have c0 := cell_of hb 0
  have c1 := cell_of hb 1
  have z0 := free_of hb 0
  have z1 := free_of hb 1
  simp only [List.getElem?_toArray, List.getElem?_cons_zero, List.getElem?_cons_succ] at c0 c1
  have HB := Lib.hid hb
  have HROW := Lib.hid hrow
  have HN := Lib.hid hN
  have HSZ := Lib.hid hs
  have s1 : ¬ sz < 1 := by omega
  have s8 : ¬ 8 < sz := by omega
  unfold maxLen at hqm
  have m1 : ∀ v, Mod (· = b) w (w.setCell ⟨b, 1, none⟩ v) := fun v => (Mod.refl (· = b) w).setCell _ _ (fun _ => rfl)
  have HBAD : Hid (x = 0 → l2 = l → e2 = 2 → Post (.returned (.int .i64 0)) (w.setCell ⟨b, 1, none⟩ (.int .i64 2))) := Lib.hid (fun h3 h4 h5 => HPOST.out _ _ ⟨by rw [h3], by
    rw [h4, h5]
    exact ⟨p, q, by rw [HN.out]; exact hq, by unfold maxLen; omega, by rw [HN.out]; exact heap_setCell_same HB.out _ (off := 1), by rw [HN.out]; exact HROW.out.mod (m1 _) (fun k _ h e => hS (e ▸ h))⟩, m1 _⟩)
  clear h hb hrow hN hs m1
  by_cases he : er = 0
  case neg =>
    have e1 : (er != 0) = true := by simpa using he
    have e0 : (er == 0) = false := by simpa using he
    have hdd : decN l er size = (0, l, er) := by unfold decN; rw [if_pos he]
    rw [hdd] at hd
    simp only [Prod.mk.injEq] at hd
    obtain ⟨rfl, rfl, rfl⟩ := hd
    have HE := Lib.hid (HPOST.out (.returned (.int .i64 0)) w ⟨rfl, HH.out, Mod.refl _ _⟩)
    clear hdd he
    go_enter Tryz.func68, Tryz.ntmps68
    go_wp2_with fail
    exact HE.out
  subst he
  by_cases hbig : N < size
  case pos =>
    have hdd : decN l 0 size = (0, l, 2) := by
      have hn : numF l size = (0, 2) := by unfold numF; rw [if_pos (by rw [HN.out]; exact hbig)]
      unfold decN; rw [if_neg (by simp), hn, if_pos (by simp)]
    rw [hdd] at hd
    simp only [Prod.mk.injEq] at hd
    obtain ⟨rfl, rfl, rfl⟩ := hd
    have HE := Lib.hid (HBAD.out rfl rfl rfl)
    have hc : (N : Int) < sz := by have := HSZ.out; omega
    clear hdd hbig
    go_enter Tryz.func68, Tryz.ntmps68
    go_wp2_with fail
    exact HE.out
  have hc : ¬ (N : Int) < sz := by have := HSZ.out; omega
  have HD := Lib.hid hd
  clear hd
  go_enter Tryz.func68, Tryz.ntmps68
  go_wp2_with fail
  go_loopw [5, 6] (fun v5 v6 wr => ∃ i y : Nat, i ≤ size ∧ v6 = .int .i64 i ∧ v5 = .int .u64 y ∧ Hid (y = beN (l.take i)) ∧ wr = w) (fun _ v _ => size - (intOf v).toNat)
  case atStart => exact ⟨0, 0, by omega, rfl, rfl, Lib.hid rfl, rfl⟩
  case round =>
    obtain ⟨i, y, hi, rfl, rfl, HX, rfl⟩ := hrel
    by_cases hlt : i < size
    · have hls : (i : Int) < sz := by have := HSZ.out; omega
      have hiN : i < N := by omega
      obtain ⟨g, o, rfl, hcx⟩ : ∃ g o, p = some ⟨g, o, none⟩ ∧ wr.cell? ⟨g, o + i, none⟩ = some (.int .u8 (l.getD i 0).toNat) := by
        obtain ⟨p', c', hp, hcc⟩ := HROW.out
        obtain ⟨b', o', q1, q2, q3, q4⟩ := hcc i (by rw [bys_length, HN.out]; omega)
        simp only [Value.slice.injEq] at hp
        obtain ⟨rfl, -, -⟩ := hp
        rw [bys_getD _ _ (by rw [HN.out]; omega)] at q4
        exact ⟨b', o', q1, q4⟩
      have hx56 : y < 72057594037927936 := by
        have h1 := beN_take_lt l i (by have := HN.out; omega)
        have h2 : 256 ^ i ≤ 256 ^ 7 := Nat.pow_le_pow_right (by omega) (by omega)
        rw [← HX.out] at h1
        have h3 : (256 : Nat) ^ 7 = 72057594037927936 := by decide
        omega
      have hnext : beN (l.take (i + 1)) = y * 256 + (l.getD i 0).toNat := by rw [beN_take l i (by have := HN.out; omega), HX.out]
      obtain ⟨d, hd⟩ : ∃ d, (l.getD i 0).toNat = d := ⟨_, rfl⟩
      have hd256 : d < 256 := by rw [← hd]; exact UInt8.toNat_lt _
      rw [hd] at hcx hnext
      have HNX := Lib.hid hnext
      have hor := or_byte y d hx56 hd256
      obtain ⟨y2, hy⟩ : ∃ y2, y * 256 + d = y2 := ⟨_, rfl⟩
      rw [hy] at hor
      have HY := Lib.hid hy
      clear hnext hd hy
      go_wp2_with fail
      exact ⟨⟨i + 1, y2, by omega, by go_num, rfl, Lib.hid (by rw [HNX.out, HY.out]), trivial⟩, by simp [intOf]; omega⟩
    · obtain rfl : i = size := by omega
      have hls : ¬ (i : Int) < sz := by have := HSZ.out; omega
      have hx64 : y < 18446744073709551616 := by
        have h1 := beN_take_lt l i (by have := HN.out; omega)
        have h2 : 256 ^ i ≤ 256 ^ 8 := Nat.pow_le_pow_right (by omega) (by omega)
        rw [← HX.out] at h1
        have h3 : (256 : Nat) ^ 8 = 18446744073709551616 := by decide
        omega
      by_cases hby : 4611686018427387904 < y
      · have hn : numF l i = (0, 2) := by unfold numF; rw [if_neg (by have := HN.out; omega), ← HX.out, if_pos hby]
        have hdd : decN l 0 i = (0, l, 2) := by unfold decN; rw [if_neg (by simp), hn, if_pos (by simp)]
        have hD := HD.out
        rw [hdd] at hD
        simp only [Prod.mk.injEq] at hD
        obtain ⟨rfl, rfl, rfl⟩ := hD
        have HE := Lib.hid (HBAD.out rfl rfl rfl)
        have hb' : (4611686018427387904 : Int) < (y : Int) := by omega
        clear hn hdd hby HD
        go_wp2_with fail
        exact HE.out
      · have hn : numF l i = ((y : Int), 0) := by unfold numF; rw [if_neg (by have := HN.out; omega), ← HX.out, if_neg hby]
        have hdd : decN l 0 i = ((y : Int), l.drop i, 0) := by unfold decN; rw [if_neg (by simp), hn, if_neg (by simp)]
        have hD := HD.out
        rw [hdd] at hD
        simp only [Prod.mk.injEq] at hD
        obtain ⟨rfl, rfl, rfl⟩ := hD
        obtain ⟨p2, hsl, hr2⟩ := slice_from S p N q i l wr HROW.out (by omega) hq
        rw [← HSZ.out] at hsl
        obtain ⟨n2, hn2⟩ : ∃ n, N - i = n := ⟨_, rfl⟩
        obtain ⟨q2, hq2⟩ : ∃ n, q - i = n := ⟨_, rfl⟩
        rw [hn2, hq2] at hsl hr2
        have m0 : Mod (· = b) wr (wr.setCell ⟨b, 0, none⟩ (.slice p2 n2 q2)) := (Mod.refl (· = b) wr).setCell _ _ (fun _ => rfl)
        have hln : (l.drop i).length = n2 := by rw [List.length_drop, HN.out, hn2]
        have HE := Lib.hid (HPOST.out (.returned (.int .i64 (y : Int))) (wr.setCell ⟨b, 0, none⟩ (.slice p2 n2 q2)) ⟨rfl, ⟨p2, q2, by rw [hln]; omega, by unfold maxLen; omega, by rw [hln]; exact heap_setCell_same HB.out _ (off := 0), by rw [hln]; exact (hr2 wr HROW.out).mod m0 (fun k _ h e => hS (e ▸ h))⟩, m0⟩)
        have hb' : ¬ (4611686018427387904 : Int) < (y : Int) := by omega
        have hxw : IntKind.i64.wrap (y : Int) = (y : Int) := by rw [IntKind.wrap_i64]; omega
        clear hn hdd hby HD hr2 m0 hln hn2 hq2
        go_wp2_with fail
        exact HE.out
theorem refCopyBytesV (T : Nat → Prop) (v : Value) (l : List UInt8) (w : World) (h : IsRow T w v (bys l)) (hl : l.length ≤ 140737488355328) :
    Calls Tryz.prog 45 #[v] w fun e w' => ∃ v', e = .returned v' ∧ IsVec (fun k => w.heap.size ≤ k) w' 5 1 v' l.length (bys l) ∧ Mod nil w w' := by
  have hve : IsVec (fun k => w.heap.size ≤ k) (w.alloc (.cells #[] 5)) 5 1 (.slice (some ⟨w.heap.size, 0, none⟩) 0 0) ([] : List UInt8).length (bys []) := vec_empty w _ _
  obtain ⟨v2, w2, hrun, hv2, m2⟩ := bytes_append 22 hve (h.modNil ((Mod.refl nil w).alloc _)) (by simpa using hl)
  rw [List.nil_append] at hv2
  have HRUN := Lib.hid hrun
  have HV : Hid (IsVec (fun k => w.heap.size ≤ k) w2 5 1 v2 l.length (bys l)) := Lib.hid (hv2.mono (fun k _ h => h.elim id (fun h => by rw [World.size_alloc] at h; omega)))
  have HM : Hid (Mod nil w w2) := Lib.hid (((Mod.refl nil w).alloc _).new m2 (fun k h => h))
  obtain ⟨p, c, rfl, -⟩ := id h
  rw [bys_length] at HRUN ⊢
  clear hve hrun hv2 m2 h
  go_enter Tryz.func45, Tryz.ntmps45
  go_wp2_with (first | (at_builtin; refine wpList_append_run rfl _ _ _ _ rfl rfl rfl HRUN.out ?_))
  go_ret
  exact ⟨v2, rfl, HV.out, HM.out⟩
end Go.Proofs.YtjilbnpehgigjaaGreat

/- Package sha: Sum. -/
import Derived.Test.YtdfahddpkkeldaaGreatShaWrite
import Derived.Test.YtdfahddpkkeldaaGreatOverFn
import Derived.Deep.QuietTactic
import Derived.BigQuiet
import Derived.Test.YtdfahddpkkeldaaGreatShort
set_option linter.unusedSimpArgs false
set_option linter.unusedVariables false
namespace Go.Proofs.YtdfahddpkkeldaaGreat
open Go.RowKit
attribute [local go_sem] Oper.semAt_some
/-- so many noughts -/
def padZ (n : Nat) : Nat := (119 - n % 64) % 64
def padded (r : List UInt8) (n : Nat) : List UInt8 := (r ++ [0x80] ++ List.replicate (padZ r.length) 0) ++ layC (8 * n) 8 8
theorem padded_length (r : List UInt8) (n : Nat) : (padded r n).length = 64 * ((r.length + 9 + padZ r.length) / 64) ∧ (padded r n).length = r.length + 9 + padZ r.length := by
 have h : (padded r n).length = r.length + 9 + padZ r.length := by simp [padded, layC_length]; omega
 refine ⟨?_, h⟩
 rw [h]
 unfold padZ
 omega
/-- the state's bytes -/
def outTo (v : V8) : Nat → List UInt8
 | 0 => []
 | i + 1 => outTo v i ++ layC (v.list.getD i 0).toNat 4 4
theorem outTo_length (v : V8) (i : Nat) : (outTo v i).length = 4 * i := by
 induction i with
 | zero => rfl
 | succ i ih => simp [outTo, ih, layC_length]; omega
def sumOf (r : List UInt8) (n : Nat) (v : V8) : List UInt8 := outTo (mixK (padded r n) v ((r.length + 9 + padZ r.length) / 64)) 8
theorem sumOf_length (r : List UInt8) (n : Nat) (v : V8) : (sumOf r n v).length = 32 := outTo_length _ 8
def lenV : Value → Nat
 | .slice _ n _ => n
 | _ => 0
theorem under8 : Tryz.prog.underlying 82 = some (.array 8 72) := Tryz.underlying82
theorem idx8_0 (va vb vc vd ve vf vg vh : BitVec 32) (w : World) : (Instr.index 82 (.agg #[.int .u32 (u va), .int .u32 (u vb), .int .u32 (u vc), .int .u32 (u vd), .int .u32 (u ve), .int .u32 (u vf), .int .u32 (u vg), .int .u32 (u vh)]) (.int .i64 0)).run Tryz.prog w = .ok (.int .u32 (u va)) w := by
 simp [Instr.index, run_underlying under8, go_sem]
theorem idx8_1 (va vb vc vd ve vf vg vh : BitVec 32) (w : World) : (Instr.index 82 (.agg #[.int .u32 (u va), .int .u32 (u vb), .int .u32 (u vc), .int .u32 (u vd), .int .u32 (u ve), .int .u32 (u vf), .int .u32 (u vg), .int .u32 (u vh)]) (.int .i64 1)).run Tryz.prog w = .ok (.int .u32 (u vb)) w := by
 simp [Instr.index, run_underlying under8, go_sem]
theorem idx8_2 (va vb vc vd ve vf vg vh : BitVec 32) (w : World) : (Instr.index 82 (.agg #[.int .u32 (u va), .int .u32 (u vb), .int .u32 (u vc), .int .u32 (u vd), .int .u32 (u ve), .int .u32 (u vf), .int .u32 (u vg), .int .u32 (u vh)]) (.int .i64 2)).run Tryz.prog w = .ok (.int .u32 (u vc)) w := by
 simp [Instr.index, run_underlying under8, go_sem]
theorem idx8_3 (va vb vc vd ve vf vg vh : BitVec 32) (w : World) : (Instr.index 82 (.agg #[.int .u32 (u va), .int .u32 (u vb), .int .u32 (u vc), .int .u32 (u vd), .int .u32 (u ve), .int .u32 (u vf), .int .u32 (u vg), .int .u32 (u vh)]) (.int .i64 3)).run Tryz.prog w = .ok (.int .u32 (u vd)) w := by
 simp [Instr.index, run_underlying under8, go_sem]
theorem idx8_4 (va vb vc vd ve vf vg vh : BitVec 32) (w : World) : (Instr.index 82 (.agg #[.int .u32 (u va), .int .u32 (u vb), .int .u32 (u vc), .int .u32 (u vd), .int .u32 (u ve), .int .u32 (u vf), .int .u32 (u vg), .int .u32 (u vh)]) (.int .i64 4)).run Tryz.prog w = .ok (.int .u32 (u ve)) w := by
 simp [Instr.index, run_underlying under8, go_sem]
theorem idx8_5 (va vb vc vd ve vf vg vh : BitVec 32) (w : World) : (Instr.index 82 (.agg #[.int .u32 (u va), .int .u32 (u vb), .int .u32 (u vc), .int .u32 (u vd), .int .u32 (u ve), .int .u32 (u vf), .int .u32 (u vg), .int .u32 (u vh)]) (.int .i64 5)).run Tryz.prog w = .ok (.int .u32 (u vf)) w := by
 simp [Instr.index, run_underlying under8, go_sem]
theorem idx8_6 (va vb vc vd ve vf vg vh : BitVec 32) (w : World) : (Instr.index 82 (.agg #[.int .u32 (u va), .int .u32 (u vb), .int .u32 (u vc), .int .u32 (u vd), .int .u32 (u ve), .int .u32 (u vf), .int .u32 (u vg), .int .u32 (u vh)]) (.int .i64 6)).run Tryz.prog w = .ok (.int .u32 (u vg)) w := by
 simp [Instr.index, run_underlying under8, go_sem]
theorem idx8_7 (va vb vc vd ve vf vg vh : BitVec 32) (w : World) : (Instr.index 82 (.agg #[.int .u32 (u va), .int .u32 (u vb), .int .u32 (u vc), .int .u32 (u vd), .int .u32 (u ve), .int .u32 (u vf), .int .u32 (u vg), .int .u32 (u vh)]) (.int .i64 7)).run Tryz.prog w = .ok (.int .u32 (u vh)) w := by
 simp [Instr.index, run_underlying under8, go_sem]
theorem e80 : ((0x80 : UInt8).toNat : Int) = 128 := rfl
theorem e00 : ((0 : UInt8).toNat : Int) = 0 := rfl
theorem pad_succ (r : List UInt8) (z : Nat) : r ++ [0x80] ++ List.replicate (z + 1) (0 : UInt8) = (r ++ [0x80] ++ List.replicate z 0) ++ [0] := by rw [List.replicate_succ', List.append_assoc, List.append_assoc, List.append_assoc]
theorem wc_arr8 (v r : V8) : arr8 (wc v.list).toArray 0 r 8 = (wc r.list).toArray := by
 simp [arr8, V8.list, wc, List.getD]
/-- the state behind some of the chunks -/
def stF {N : Nat} (A : List UInt8) (v : V8) (pre : List (Fin N)) : V8 := pre.foldl (fun v x => mixV ((A.drop (64 * x.val)).take 64) v) v
theorem stF_snoc {N : Nat} (A : List UInt8) (v : V8) (pre : List (Fin N)) (x : Fin N) : stF A v (pre ++ [x]) = mixV ((A.drop (64 * x.val)).take 64) (stF A v pre) := by simp [stF]
theorem stF_map {N : Nat} (A : List UInt8) (v : V8) (pre : List (Fin N)) : stF A v pre = (pre.map (·.val)).foldl (fun v x => mixV ((A.drop (64 * x)).take 64) v) v := by simp [stF, List.foldl_map]
theorem range_mixK (A : List UInt8) (v : V8) (k : Nat) : (List.range k).foldl (fun v x => mixV ((A.drop (64 * x)).take 64) v) v = mixK A v k := by
 induction k with
 | zero => rfl
 | succ k ih => rw [List.range_succ, List.foldl_append, ih]; rfl
set_option maxRecDepth 100000 in
set_option maxHeartbeats 1000000 in
theorem shaSum (b tb : Nat) (v : V8) (S : Nat → Prop) (rv : Value) (r : List UInt8) (n : Nat) (w : World) (hh : IsHash w b tb v rv n) (hvec : IsVec S w 5 1 rv r.length (bys r)) (hne : tb ≠ b) (ht : IsTab w tb) (hr : r.length ≤ 1099511627000) (hn : n ≤ 1099511627776) :
    Calls Tryz.prog 92 #[.pointer (some ⟨b, 0, none⟩)] w fun e w' => ∃ v', e = .returned v' ∧ IsVec (fun k => w.heap.size ≤ k) w' 5 1 v' 32 (bys (sumOf r n v)) ∧ IsTab w' tb ∧ Mod (· = tb) w w' := by
  refine (?_ : ∀ Post : Ending → World → Prop, Hid (∀ e w', (∃ v', e = .returned v' ∧ IsVec (fun k => w.heap.size ≤ k) w' 5 1 v' 32 (bys (sumOf r n v)) ∧ IsTab w' tb ∧ Mod (· = tb) w w') → Post e w') → Calls Tryz.prog 92 #[.pointer (some ⟨b, 0, none⟩)] w Post) _ (Lib.hid (fun _ _ h => h))
  intro Post HPOST
  have HH := Lib.hid hh
  have HV := Lib.hid hvec
  have HT := Lib.hid ht
  clear hh hvec ht
  refine calls_over Tryz.func92 rfl ?_
  simp only [Tryz.ntmps92, List.size_toArray, List.length_cons, List.length_nil, Nat.reduceAdd, Nat.reduceSub, Array.replicate_succ, Array.replicate_zero, List.push_toArray, List.append_toArray, List.nil_append, List.cons_append]
  go_upto_region 1 with (fail)
  obtain ⟨hx, hhx⟩ : ∃ hx, w.heap.size = hx := ⟨_, rfl⟩
  generalize hw1 : w.alloc _ = w1
  have HBX1 : Hid (w1.heap[hx]? = some (.cells #[.pointer (some ⟨b, 0, none⟩)] 150 (0, 0))) := Lib.hid (by rw [← hw1, ← hhx, heap_alloc_new])
  have hm1 : Mod nil w w1 := by rw [← hw1]; exact (Mod.refl _ _).alloc _
  have hs1 : w1.heap.size = hx + 1 := by rw [← hw1, ← hhx]; simp
  have HM1 := Lib.hid hm1
  have hh1 := hm1.keep HH.out
  have q1 := (cell_of hh1 1).trans (hash_h _ _ _ _ 0 (by simp [V8.list]))
  have q2 := (cell_of hh1 2).trans (hash_h _ _ _ _ 1 (by simp [V8.list]))
  have q3 := (cell_of hh1 3).trans (hash_h _ _ _ _ 2 (by simp [V8.list]))
  have q4 := (cell_of hh1 4).trans (hash_h _ _ _ _ 3 (by simp [V8.list]))
  have q5 := (cell_of hh1 5).trans (hash_h _ _ _ _ 4 (by simp [V8.list]))
  have q6 := (cell_of hh1 6).trans (hash_h _ _ _ _ 5 (by simp [V8.list]))
  have q7 := (cell_of hh1 7).trans (hash_h _ _ _ _ 6 (by simp [V8.list]))
  have q8 := (cell_of hh1 8).trans (hash_h _ _ _ _ 7 (by simp [V8.list]))
  have c0 := cell_of HBX1.out 0
  simp only [List.getElem?_toArray, List.getElem?_cons_zero] at c0
  have HZ : Hid (w.heap.size = hx) := Lib.hid hhx
  rw [hhx]
  clear hw1 hhx hm1 hh1
  go_upto_region 2 with (fail)
  clear q1 q2 q3 q4 q5 q6 q7 q8 c0
  generalize hw2 : w1.alloc _ = w2
  have HSB2 : Hid (w2.heap[hx + 1]? = some (.cells (wc v.list).toArray 82 (0, 0))) := Lib.hid (by rw [← hw2, ← hs1, heap_alloc_new]; rfl)
  have hm2 : Mod nil w1 w2 := by rw [← hw2]; exact (Mod.refl _ _).alloc _
  have HBX2 := Lib.hid (hm2.keep HBX1.out)
  have HM2 := Lib.hid (HM1.out.thenNil hm2)
  have hs2 : w2.heap.size = hx + 2 := by rw [← hw2]; simp [hs1]
  clear hw2 hm2 HBX1 HM1 hs1
  have q9 := (cell_of (HM2.out.keep HH.out) 9).trans (hash_rest _ _ _ _)
  have c0 := cell_of HBX2.out 0
  simp only [List.getElem?_toArray, List.getElem?_cons_zero] at c0
  go_wp2_with fail
  refine (cloneBytes S rv r w2 ((HV.out.modNil HM2.out).row) (by omega)).mono ?_
  rintro e w3 ⟨v3, rfl, hv3, hm3⟩
  have HM3 := Lib.hid (HM2.out.thenNil hm3)
  have HSB3 := Lib.hid (hm3.keep HSB2.out)
  have HBX3 := Lib.hid (hm3.keep HBX2.out)
  have hs3 := hm3.size
  rw [hs2] at hs3
  have hm4 : Mod nil w3 (w3.alloc (.cells #[.int .u8 (0x80 : UInt8).toNat] 5)) := (Mod.refl _ _).alloc _
  obtain ⟨v4, w4, hrun4, hv4, hmod4⟩ := bytes_append (l := r) (m := [0x80]) 40 (hv3.modNil hm4) (row_one 0x80 _ rfl) (by simp; omega)
  have HM4 := Lib.hid ((HM3.out.thenNil hm4).trans hmod4 (fun k hk h => by have := HM2.out.size; omega))
  have hs43 := hm4.size
  have HSB4 := Lib.hid ((hmod4.block (hx + 1) (by omega) (by omega)).trans (hm4.keep HSB3.out))
  have HBX4 := Lib.hid ((hmod4.block hx (by omega) (by omega)).trans (hm4.keep HBX3.out))
  have hs4 := hmod4.size
  obtain ⟨R, hR⟩ : ∃ R, r.length = R := ⟨_, rfl⟩
  rw [show (r ++ [(0x80 : UInt8)]).length = R + 1 by simp [hR]] at hv4
  rw [hR] at hv3 hr
  obtain ⟨p3, c3, rfl⟩ := hv3.form
  obtain ⟨p4, c4, rfl⟩ := hv4.form
  rw [e80] at hrun4
  have HRUN4 := Lib.hid hrun4
  have hw2s := hs2
  have HV4 : Hid (IsVec (fun k => hx + 2 ≤ k) w4 5 1 (.slice p4 (R + 1) c4) (R + 1) (bys (r ++ [0x80] ++ List.replicate 0 0))) := Lib.hid (by
    rw [List.replicate_zero, List.append_nil]
    exact hv4.mono (fun k _ hk => hk.elim (fun h => by omega) (fun h => by have := hm4.size; omega)))
  obtain ⟨Z, hZ⟩ : ∃ Z, padZ R = Z := ⟨_, rfl⟩
  have hZ1 : (R + 1 + Z) % 64 = 56 := by rw [← hZ]; unfold padZ; omega
  have hZ2 : Z < 64 := by rw [← hZ]; unfold padZ; omega
  have HRL := Lib.hid hR
  have HZZ := Lib.hid hZ
  clear hv3 hm3 hm4 hrun4 hv4 hmod4 hR hZ q9 c0 hs2 HM3 HSB3 HBX3 HSB2 HBX2 HM2
  go_wp2_with (first | (at_builtin; refine wpList_append_run rfl _ _ _ _ rfl rfl rfl HRUN4.out ?_))
  clear HRUN4
  go_loopw [4] (fun v4 wr => ∃ (z l : Nat) (p : Option Addr) (c : Nat), z ≤ Z ∧ l = R + 1 + z ∧ v4 = .slice p l c ∧ Hid (IsVec (fun k => hx + 2 ≤ k) wr 5 1 (.slice p l c) l (bys (r ++ [0x80] ++ List.replicate z 0))) ∧ Hid (Mod nil w wr) ∧ Hid (wr.heap[hx]? = some (.cells #[.pointer (some ⟨b, 0, none⟩)] 150 (0, 0))) ∧ Hid (wr.heap[hx + 1]? = some (.cells (wc v.list).toArray 82 (0, 0))) ∧ hx + 2 ≤ wr.heap.size) (fun v4 _ => R + 1 + Z - lenV v4)
  case atStart => exact ⟨0, R + 1, p4, c4, by omega, rfl, rfl, HV4, HM4, HBX4, HSB4, by omega⟩
  case round =>
    obtain ⟨z, l, p, c, hz, hl, rfl, HVR, HMR, HBR, HSR, hsr⟩ := hrel
    clear HV4 HM4 HBX4 HSB4
    by_cases hlt : z < Z
    · have hb : ((l : Int) % 64 != 56) = true := by simp; omega
      have hm5 : Mod nil wr (wr.alloc (.cells #[.int .u8 (0 : UInt8).toNat] 5)) := (Mod.refl _ _).alloc _
      have hbl : (r ++ [0x80] ++ List.replicate z (0 : UInt8)).length = l := by have := HRL.out; simp; omega
      have hvr := HVR.out.modNil hm5
      have hvr' : IsVec (fun k => hx + 2 ≤ k) (wr.alloc (.cells #[.int .u8 (0 : UInt8).toNat] 5)) 5 1 (.slice p l c) (r ++ [0x80] ++ List.replicate z (0 : UInt8)).length (bys (r ++ [0x80] ++ List.replicate z 0)) := by rw [hbl]; exact hvr
      obtain ⟨v6, w6, hrun6, hv6, hmod6⟩ := bytes_append (l := r ++ [0x80] ++ List.replicate z 0) (m := [0]) 40 hvr' (row_one 0 _ rfl) (by rw [hbl]; simp; omega)
      have hlen6 : (r ++ [0x80] ++ List.replicate (z + 1) (0 : UInt8)).length = l + 1 := by have := HRL.out; simp; omega
      rw [← pad_succ r z, hlen6] at hv6
      clear hlen6
      obtain ⟨p6, c6, rfl⟩ := hv6.form
      rw [e00] at hrun6
      have HRUN6 := Lib.hid hrun6
      have HV6 : Hid (IsVec (fun k => hx + 2 ≤ k) w6 5 1 (.slice p6 (l + 1) c6) (l + 1) (bys (r ++ [0x80] ++ List.replicate (z + 1) 0))) := Lib.hid (hv6.mono (fun k _ hk => hk.elim id (fun h => by have := hm5.size; omega)))
      have hm7 : Mod (fun k => hx + 2 ≤ k) wr w6 := (hm5.ofNil).trans hmod6 (fun _ _ h => h)
      have HM6 : Hid (Mod nil w w6) := Lib.hid (HMR.out.trans hm7 (fun k hk h => by have := HZ.out; omega))
      have HB6 : Hid (w6.heap[hx]? = some (.cells #[.pointer (some ⟨b, 0, none⟩)] 150 (0, 0))) := Lib.hid ((hm7.block hx (by omega) (by omega)).trans HBR.out)
      have HS6 : Hid (w6.heap[hx + 1]? = some (.cells (wc v.list).toArray 82 (0, 0))) := Lib.hid ((hm7.block (hx + 1) (by omega) (by omega)).trans HSR.out)
      have hs6 := hm7.size
      have HLZ := Lib.hid hl
      have HZ1 := Lib.hid hZ1
      have hlb : l ≤ 1099511627776 := by omega
      clear hm5 hbl hvr hvr' hrun6 hv6 hmod6 hm7 hl hZ1
      go_wp2_with (first | (at_builtin; refine wpList_append_run rfl _ _ _ _ rfl rfl rfl HRUN6.out ?_))
      exact ⟨⟨z + 1, l + 1, p6, c6, by omega, by have := HLZ.out; omega, rfl, HV6, HM6, HB6, HS6, by omega⟩, by have := HLZ.out; simp [lenV]; omega⟩
    · obtain rfl : z = Z := by omega
      have hb : ((l : Int) % 64 != 56) = false := by simp; omega
      obtain ⟨n8, h8⟩ : ∃ n8, 8 * n = n8 := ⟨_, rfl⟩
      have h8i : 8 * (n : Int) = (n8 : Int) := by omega
      have h8b : n8 < 18446744073709551616 := by omega
      have q10 := (cell_of (HMR.out.keep HH.out) 10).trans (hash_n _ _ _ _)
      have c0 := cell_of HBR.out 0
      simp only [List.getElem?_toArray, List.getElem?_cons_zero] at c0
      have hbl : (r ++ [0x80] ++ List.replicate z (0 : UInt8)).length = l := by have := HRL.out; simp; omega
      have HLY := Lib.hid (shaLays (fun k => hx + 2 ≤ k) (.slice p l c) (r ++ [0x80] ++ List.replicate z 0) n8 8 wr (by rw [hbl]; exact HVR.out) h8b (by omega) (by rw [hbl]; omega))
      have hpl := padded_length r n
      obtain ⟨A, hA⟩ : ∃ A, padded r n = A := ⟨_, rfl⟩
      have hAe : (r ++ [0x80] ++ List.replicate z (0 : UInt8)) ++ layC n8 8 8 = A := by rw [← hA, ← h8, padded, HRL.out, HZZ.out]
      rw [hAe] at HLY
      rw [hA, HRL.out, HZZ.out] at hpl
      obtain ⟨L, hL⟩ : ∃ L, A.length = L := ⟨_, rfl⟩
      rw [hL] at HLY hpl
      have HAE := Lib.hid hA
      have HAL := Lib.hid hL
      have HPL := Lib.hid hpl
      have HLZ := Lib.hid hl
      have HZ1 := Lib.hid hZ1
      have hlb : l ≤ 1099511627776 := by omega
      clear hbl hAe hA hL h8 hpl hl hZ1
      go_wp2_with fail
      refine HLY.out.mono ?_
      rintro e w8 ⟨v8, rfl, hv8, hm8⟩
      obtain ⟨p8, c8, rfl⟩ := hv8.form
      have hLpos : 64 ≤ L := by have := HPL.out; omega
      have hL64 : 64 * (L / 64) = L := by have := HPL.out; omega
      obtain ⟨g, rfl, hLc⟩ : ∃ g, p8 = some ⟨g, 0, none⟩ ∧ L ≤ c8 := by
        rcases vec_form1 hv8 with ⟨_, h0⟩ | ⟨g, c', he, hc'⟩
        · omega
        · simp only [Value.slice.injEq] at he
          obtain ⟨rfl, -, rfl⟩ := he
          exact ⟨g, rfl, hc'⟩
      have hrowA : ∀ i, i < L → w8.cell? ⟨g, i, none⟩ = some (.int .u8 (A.getD i 0).toNat) := fun i hi => by
        obtain ⟨p', c', hp, hcc⟩ := hv8.cells
        obtain ⟨b', o', hp', _, _, hx'⟩ := hcc i (by rw [bys_length, HAL.out]; exact hi)
        simp only [Value.slice.injEq] at hp
        obtain ⟨rfl, -, -⟩ := hp
        simp only [Option.some.injEq, Addr.mk.injEq, and_true] at hp'
        obtain ⟨rfl, rfl⟩ := hp'
        rw [Nat.zero_add] at hx'
        rw [hx', bys_getD _ _ (by rw [HAL.out]; exact hi)]
      have hgx : hx + 2 ≤ g := by have := hv8.2 g rfl; omega
      have hs8 := hm8.size
      have HM8 : Hid (Mod nil w w8) := Lib.hid (HMR.out.trans hm8 (fun k hk h => by have := HZ.out; omega))
      have HB8 : Hid (w8.heap[hx]? = some (.cells #[.pointer (some ⟨b, 0, none⟩)] 150 (0, 0))) := Lib.hid ((hm8.block hx (by omega) (by omega)).trans HBR.out)
      have HS8 : Hid (w8.heap[hx + 1]? = some (.cells (wc v.list).toArray 82 (0, 0))) := Lib.hid ((hm8.block (hx + 1) (by omega) (by omega)).trans HSR.out)
      have HRA := Lib.hid hrowA
      have hgl : g < w8.heap.size := World.block_lt_of_cell? _ _ (hrowA 0 (by omega))
      clear hv8 hm8 hrowA q10 c0 HLY
      go_wp2_with fail
      refine (chunk_call (some ⟨g, 0, none⟩) L c8 64 (by omega) w8).mono ?_
      obtain ⟨gs, hgs⟩ : ∃ gs, w8.heap.size = gs := ⟨_, rfl⟩
      rw [hgs]
      rintro e w9 ⟨rfl, hw9⟩
      have hs9 : w9.heap.size = gs + 2 := by rw [hw9]; simp [hgs]
      have hm9 : Mod nil w8 w9 := by rw [hw9]; exact ((Mod.refl _ _).alloc _).alloc _
      have hBs : w9.cell? ⟨gs, 0, none⟩ = some (.slice (some ⟨g, 0, none⟩) L c8) := by
        have h : (w8.alloc (.cells #[.slice (some ⟨g, 0, none⟩) L c8] 40)).heap[gs]? = some (.cells #[.slice (some ⟨g, 0, none⟩) L c8] 40 (0, 0)) := by rw [← hgs]; exact heap_alloc_new _ _
        rw [hw9]
        exact cell_of (heap_alloc_old h) 0
      have hBn : w9.cell? ⟨gs + 1, 0, none⟩ = some (.int .i64 (64 : Nat)) := by
        rw [hw9]
        exact cell_of (show ((w8.alloc (.cells #[.slice (some ⟨g, 0, none⟩) L c8] 40)).alloc (.cells #[.int .i64 (64 : Nat)] 3)).heap[gs + 1]? = _ from by
          have := heap_alloc_new (w8.alloc (.cells #[.slice (some ⟨g, 0, none⟩) L c8] 40)) (.cells #[.int .i64 (64 : Nat)] 3)
          rw [World.size_alloc, hgs] at this
          exact this) 0
      clear hw9
      have HM9 := Lib.hid (HM8.out.thenNil hm9)
      have HB9 := Lib.hid (hm9.keep HB8.out)
      have HS9 := Lib.hid (hm9.keep HS8.out)
      have HRA9 : Hid (∀ i, i < L → w9.cell? ⟨g, i, none⟩ = some (.int .u8 (A.getD i 0).toNat)) := Lib.hid (fun i hi => cell_kept (HRA.out i hi) hm9 hgl (not_nil _))
      have htb : tb < hx := by have := HT.out.lt; have := HZ.out; omega
      have hbb : b < hx := by have := heap_lt HH.out; have := HZ.out; omega
      have hgg : g < gs := by omega
      have hxg : hx + 2 ≤ gs := by omega
      have HHR9 := Lib.hid (HM9.out.keep HH.out)
      have HT9 := Lib.hid (HT.out.mod HM9.out (not_nil _))
      clear hm9 hgs hgl HM8 HB8 HS8 HRA
      go_wp2_with fail
      have hkeep : ∀ (X Y : World) (k : Nat) (y : Value), (k ≠ tb ∧ k ≠ hx + 1 ∧ k < gs + 2) → Mod (fun k => k = tb ∨ k = hx + 1 ∨ gs + 2 ≤ k) X Y → X.cell? ⟨k, 0, none⟩ = some y → Y.cell? ⟨k, 0, none⟩ = some y := fun X Y k y hk m h => cell_kept h m (World.block_lt_of_cell? _ _ h) (by omega)
      have hcs := chunk_stops 8 (by omega) gs (gs + 1) g 0 L c8 64 (some ⟨g, 0, none⟩) (fun _ => rfl) (by omega) (by omega) hLc (by have := HPL.out; omega) (Mod (fun k => k = tb ∨ k = hx + 1 ∨ gs + 2 ≤ k)) (fun X Y y m h => hkeep X Y gs y (by omega) m h) (fun X Y y m h => hkeep X Y (gs + 1) y (by omega) m h) w9 hBs hBn
      have hcnt : cnt L 64 = L / 64 := by unfold cnt; omega
      have HCS := Lib.hid hcs
      have HCNT := Lib.hid hcnt
      clear hkeep hcs hcnt hBs hBn
      refine (wpIn_wide (n := 9)).1 ?_
      generalize hfr : Act.mk _ _ = fr
      refine wpIn_rangeFunc_ownF (hro := rfl) (h1 := by omega) (gf := 138) (lb := #[.pointer (some ⟨gs, 0, none⟩), .pointer (some ⟨gs + 1, 0, none⟩)]) (by rw [← hfr]; rfl) trivial (enters_of Tryz.func138 (by kernel_rfl) rfl) HCS.out (fun h k => h.trans k (fun _ _ h => h)) (fun W l o o' hl _ _ _ => mod_putObj W l o' (.inr (.inr (by omega)))) (Below.refl _ _) (fun _ => rfl)
        (fun pre W => IsTab W tb ∧ W.heap[hx + 1]? = some (.cells (wc (stF A v pre).list).toArray 82 (0, 0)) ∧ Mod (fun k => k = tb ∨ k = hx + 1 ∨ gs + 2 ≤ k) w9 W) (fun _ _ _ => False)
        (ownFrom_of (fun pre X Y h m => by
          obtain ⟨h1, h2, h3⟩ := h
          have hz := h3.size
          exact ⟨h1.mod m (by omega), (m.block (hx + 1) (by omega) (by omega)).trans h2, h3.trans m (fun k _ hk => .inr (.inr (by omega)))⟩)) (fun _ _ _ _ _ h _ _ => h) ⟨HT9.out, HS9.out, Mod.refl _ _⟩ (fun x => ⟨(fr.tmps.setIfInBounds 36 (chunkAt g 0 L 64 x.val)).setIfInBounds 5 (chunkAt g 0 L 64 x.val), []⟩) ?assign ?body ?done ?stop
      case assign =>
        intro l x W K hK
        subst hfr
        gi_wp2
        exact hK
      case body =>
        rintro lq pre x W ⟨ht, hsb, hm⟩ hlen
        subst hfr
        simp only [List.setIfInBounds_toArray, List.set_cons_succ, List.set_cons_zero]
        have hxc : x.val < L / 64 := by have := x.isLt; have := HCNT.out; omega
        have hxL : 64 * x.val + 64 ≤ L := by omega
        have hch : chunkAt g 0 L 64 x.val = .slice (some ⟨g, 64 * x.val, none⟩) 64 64 := by unfold chunkAt; rw [show min 64 (L - 64 * x.val) = 64 by omega, Nat.zero_add]
        have hb1 := HPL.out
        have c0 : W.cell? ⟨hx, 0, none⟩ = some (.pointer (some ⟨b, 0, none⟩)) := cell_of ((hm.block hx (by omega) (by omega)).trans HB9.out) 0
        have q0 : W.cell? ⟨b, 0, none⟩ = some (.pointer (some ⟨tb, 0, none⟩)) := (cell_of ((hm.block b (by omega) (by omega)).trans HHR9.out) 0).trans (hash_t _ _ _ _)
        have hblk : ((A.drop (64 * x.val)).take 64).length = 64 := by have := HAL.out; simp; omega
        have HMX := Lib.hid (shaMix tb (hx + 1) 0 82 _ (stF A v pre) ((A.drop (64 * x.val)).take 64) g (64 * x.val) 64 W ht (by omega) hsb (fun j hj => by
          rw [Nat.zero_add, List.getElem?_toArray]
          exact wc_get _ j (by simpa [V8.list] using hj)) (fun i hi => by
          rw [drop_getD _ _ _ hi]
          have h := HRA9.out (64 * x.val + i) (by omega)
          exact cell_kept h hm (World.block_lt_of_cell? _ _ h) (by omega)) hblk (by omega))
        have HM := Lib.hid hm
        have HTW := Lib.hid ht
        have HSBW := Lib.hid hsb
        have HOX := Lib.hid (show ∀ k o, (k = tb ∨ k = hx + 1) → W.heap[k]? = some o → o.isCells = true from fun k o hk ho => by
          rcases hk with rfl | rfl
          · rcases ht with h | ⟨_, _, _, _, h⟩ <;> (rw [h] at ho; cases ho; rfl)
          · rw [hsb] at ho; cases ho; rfl)
        clear hm ht hsb hblk hb1 hxc
        gi_wp2_with fail
        refine ⟨trivial, ?_⟩
        refine (CallsIn.inRound lq (callsIn_wide.2 HMX.out)).mono ?_
        rintro e w6 ⟨rfl, hf6, hh6, hm6⟩
        rw [wc_arr8] at hh6
        have HF6 := Lib.hid hf6
        have HH6 := Lib.hid hh6
        have HM6 := Lib.hid hm6
        clear hf6 hh6 hm6
        gi_wp2
        have hmm : Mod (fun k => k = tb ∨ k = hx + 1 ∨ gs + 2 ≤ k) W w6 := HM6.out.mono (fun k _ hk => hk.elim .inl (fun h => .inr (.inl h)))
        refine ⟨keepsOthers_of HM6.out HOX.out, hmm, full_tab HF6.out, ?_, HM.out.trans hmm (fun _ _ h => h)⟩
        rw [stF_snoc]
        exact HH6.out
      case done =>
        rintro D ys W hD hys ⟨ht, hsb, hm⟩ hK
        subst hfr
        have hst : stF A v ys = mixK A v (L / 64) := by rw [stF_map, hys, HCNT.out, range_mixK]
        obtain ⟨V, hV⟩ : ∃ V, mixK A v (L / 64) = V := ⟨_, rfl⟩
        have hsum : sumOf r n v = outTo V 8 := by rw [← hV]; unfold sumOf; rw [HAE.out, HRL.out, HZZ.out, show (R + 9 + z) / 64 = L / 64 by have := HPL.out; omega]
        rw [hst, hV] at hsb
        have hMW : Mod (· = tb) w W := HM9.out.ofNil.trans hm (fun k hk h => by have := HZ.out; omega)
        have hDW : D < W.heap.size := heap_lt hK
        have hDw : w.heap.size ≤ D := by have := HM9.out.size; omega
        have HSUM := Lib.hid hsum
        have HK := Lib.hid hK
        have HTW := Lib.hid ht
        have HMW := Lib.hid hMW
        have HSB := Lib.hid hsb
        clear hst hV hsum hK ht hsb hMW hys hm HRA9 HCS HCNT HS9 HB9 HHR9 HT9
        obtain ⟨va, vb, vc, vd, ve, vf, vg, vh⟩ := V
        have q1 := wc_cell HSB.out 0 (by simp [V8.list])
        have q2 := wc_cell HSB.out 1 (by simp [V8.list])
        have q3 := wc_cell HSB.out 2 (by simp [V8.list])
        have q4 := wc_cell HSB.out 3 (by simp [V8.list])
        have q5 := wc_cell HSB.out 4 (by simp [V8.list])
        have q6 := wc_cell HSB.out 5 (by simp [V8.list])
        have q7 := wc_cell HSB.out 6 (by simp [V8.list])
        have q8 := wc_cell HSB.out 7 (by simp [V8.list])
        simp only [V8.list, List.getD_cons_zero, List.getD_cons_succ] at q1 q2 q3 q4 q5 q6 q7 q8
        dsimp only
        go_wp2_with fail
        clear q1 q2 q3 q4 q5 q6 q7 q8
        go_loopw [6, 44] (fun v6 v44 wr => ∃ (i k : Nat) (p : Option Addr) (c : Nat), i ≤ 8 ∧ v44 = .int .i64 i ∧ k = 4 * i ∧ v6 = .slice p k c ∧ Hid (IsVec (fun k => W.heap.size ≤ k) wr 5 1 (.slice p k c) k (bys (outTo ⟨va, vb, vc, vd, ve, vf, vg, vh⟩ i))) ∧ Hid (Mod nil W wr)) (fun _ v _ => 8 - (intOf v).toNat)
        case atStart => exact ⟨0, 0, none, 0, by omega, rfl, rfl, rfl, Lib.hid (IsVec.nil _ _ _ _), Lib.hid (Mod.refl _ _)⟩
        case round =>
          obtain ⟨i, k, p, c, hi, rfl, hk, rfl, HVR, HMR⟩ := hrel
          have HKI := Lib.hid hk
          clear hk
          by_cases hlt : i < 8
          · have hbi : decide ((i : Int) < 8) = true := by simp; omega
            have hib : (i : Int) < 8 := by omega
            rcases (show i = 0 ∨ i = 1 ∨ i = 2 ∨ i = 3 ∨ i = 4 ∨ i = 5 ∨ i = 6 ∨ i = 7 by omega) with rfl | rfl | rfl | rfl | rfl | rfl | rfl | rfl
            · obtain rfl : k = 0 := HKI.out
              have hlo := u_lo va
              have hhi := u_hi va
              have hix := idx8_0 va vb vc vd ve vf vg vh
              have HLY := Lib.hid (shaLays (fun k => W.heap.size ≤ k) (.slice p 0 c) (outTo ⟨va, vb, vc, vd, ve, vf, vg, vh⟩ 0) va.toNat 4 wr (by rw [outTo_length]; exact HVR.out) (by have := va.isLt; omega) (by omega) (by rw [outTo_length]; omega))
              have hzw := HMR.out.size
              clear hbi hib
              go_wp2_with fail
              refine HLY.out.mono ?_
              rintro e w6 ⟨v6, rfl, hv6, hm6⟩
              have hlen : (outTo ⟨va, vb, vc, vd, ve, vf, vg, vh⟩ 0 ++ layC va.toNat 4 4).length = 4 := by rw [List.length_append, outTo_length, layC_length]
              rw [hlen] at hv6
              obtain ⟨p6, c6, rfl⟩ := hv6.form
              have HV6 : Hid (IsVec (fun k => W.heap.size ≤ k) w6 5 1 (.slice p6 4 c6) 4 (bys (outTo ⟨va, vb, vc, vd, ve, vf, vg, vh⟩ 1))) := Lib.hid (hv6.mono (fun k _ hk => hk.elim id (fun h => by omega)))
              have HM6 : Hid (Mod nil W w6) := Lib.hid (HMR.out.trans hm6 (fun k hk h => by omega))
              clear hv6 hm6 hlen hix hlo hhi
              go_wp2_with fail
              exact ⟨⟨1, 4, p6, c6, by omega, rfl, rfl, rfl, HV6, HM6⟩, by simp [intOf]⟩
            · obtain rfl : k = 4 := HKI.out
              have hlo := u_lo vb
              have hhi := u_hi vb
              have hix := idx8_1 va vb vc vd ve vf vg vh
              have HLY := Lib.hid (shaLays (fun k => W.heap.size ≤ k) (.slice p 4 c) (outTo ⟨va, vb, vc, vd, ve, vf, vg, vh⟩ 1) vb.toNat 4 wr (by rw [outTo_length]; exact HVR.out) (by have := vb.isLt; omega) (by omega) (by rw [outTo_length]; omega))
              have hzw := HMR.out.size
              clear hbi hib
              go_wp2_with fail
              refine HLY.out.mono ?_
              rintro e w6 ⟨v6, rfl, hv6, hm6⟩
              have hlen : (outTo ⟨va, vb, vc, vd, ve, vf, vg, vh⟩ 1 ++ layC vb.toNat 4 4).length = 8 := by rw [List.length_append, outTo_length, layC_length]
              rw [hlen] at hv6
              obtain ⟨p6, c6, rfl⟩ := hv6.form
              have HV6 : Hid (IsVec (fun k => W.heap.size ≤ k) w6 5 1 (.slice p6 8 c6) 8 (bys (outTo ⟨va, vb, vc, vd, ve, vf, vg, vh⟩ 2))) := Lib.hid (hv6.mono (fun k _ hk => hk.elim id (fun h => by omega)))
              have HM6 : Hid (Mod nil W w6) := Lib.hid (HMR.out.trans hm6 (fun k hk h => by omega))
              clear hv6 hm6 hlen hix hlo hhi
              go_wp2_with fail
              exact ⟨⟨2, 8, p6, c6, by omega, rfl, rfl, rfl, HV6, HM6⟩, by simp [intOf]⟩
            · obtain rfl : k = 8 := HKI.out
              have hlo := u_lo vc
              have hhi := u_hi vc
              have hix := idx8_2 va vb vc vd ve vf vg vh
              have HLY := Lib.hid (shaLays (fun k => W.heap.size ≤ k) (.slice p 8 c) (outTo ⟨va, vb, vc, vd, ve, vf, vg, vh⟩ 2) vc.toNat 4 wr (by rw [outTo_length]; exact HVR.out) (by have := vc.isLt; omega) (by omega) (by rw [outTo_length]; omega))
              have hzw := HMR.out.size
              clear hbi hib
              go_wp2_with fail
              refine HLY.out.mono ?_
              rintro e w6 ⟨v6, rfl, hv6, hm6⟩
              have hlen : (outTo ⟨va, vb, vc, vd, ve, vf, vg, vh⟩ 2 ++ layC vc.toNat 4 4).length = 12 := by rw [List.length_append, outTo_length, layC_length]
              rw [hlen] at hv6
              obtain ⟨p6, c6, rfl⟩ := hv6.form
              have HV6 : Hid (IsVec (fun k => W.heap.size ≤ k) w6 5 1 (.slice p6 12 c6) 12 (bys (outTo ⟨va, vb, vc, vd, ve, vf, vg, vh⟩ 3))) := Lib.hid (hv6.mono (fun k _ hk => hk.elim id (fun h => by omega)))
              have HM6 : Hid (Mod nil W w6) := Lib.hid (HMR.out.trans hm6 (fun k hk h => by omega))
              clear hv6 hm6 hlen hix hlo hhi
              go_wp2_with fail
              exact ⟨⟨3, 12, p6, c6, by omega, rfl, rfl, rfl, HV6, HM6⟩, by simp [intOf]⟩
            · obtain rfl : k = 12 := HKI.out
              have hlo := u_lo vd
              have hhi := u_hi vd
              have hix := idx8_3 va vb vc vd ve vf vg vh
              have HLY := Lib.hid (shaLays (fun k => W.heap.size ≤ k) (.slice p 12 c) (outTo ⟨va, vb, vc, vd, ve, vf, vg, vh⟩ 3) vd.toNat 4 wr (by rw [outTo_length]; exact HVR.out) (by have := vd.isLt; omega) (by omega) (by rw [outTo_length]; omega))
              have hzw := HMR.out.size
              clear hbi hib
              go_wp2_with fail
              refine HLY.out.mono ?_
              rintro e w6 ⟨v6, rfl, hv6, hm6⟩
              have hlen : (outTo ⟨va, vb, vc, vd, ve, vf, vg, vh⟩ 3 ++ layC vd.toNat 4 4).length = 16 := by rw [List.length_append, outTo_length, layC_length]
              rw [hlen] at hv6
              obtain ⟨p6, c6, rfl⟩ := hv6.form
              have HV6 : Hid (IsVec (fun k => W.heap.size ≤ k) w6 5 1 (.slice p6 16 c6) 16 (bys (outTo ⟨va, vb, vc, vd, ve, vf, vg, vh⟩ 4))) := Lib.hid (hv6.mono (fun k _ hk => hk.elim id (fun h => by omega)))
              have HM6 : Hid (Mod nil W w6) := Lib.hid (HMR.out.trans hm6 (fun k hk h => by omega))
              clear hv6 hm6 hlen hix hlo hhi
              go_wp2_with fail
              exact ⟨⟨4, 16, p6, c6, by omega, rfl, rfl, rfl, HV6, HM6⟩, by simp [intOf]⟩
            · obtain rfl : k = 16 := HKI.out
              have hlo := u_lo ve
              have hhi := u_hi ve
              have hix := idx8_4 va vb vc vd ve vf vg vh
              have HLY := Lib.hid (shaLays (fun k => W.heap.size ≤ k) (.slice p 16 c) (outTo ⟨va, vb, vc, vd, ve, vf, vg, vh⟩ 4) ve.toNat 4 wr (by rw [outTo_length]; exact HVR.out) (by have := ve.isLt; omega) (by omega) (by rw [outTo_length]; omega))
              have hzw := HMR.out.size
              clear hbi hib
              go_wp2_with fail
              refine HLY.out.mono ?_
              rintro e w6 ⟨v6, rfl, hv6, hm6⟩
              have hlen : (outTo ⟨va, vb, vc, vd, ve, vf, vg, vh⟩ 4 ++ layC ve.toNat 4 4).length = 20 := by rw [List.length_append, outTo_length, layC_length]
              rw [hlen] at hv6
              obtain ⟨p6, c6, rfl⟩ := hv6.form
              have HV6 : Hid (IsVec (fun k => W.heap.size ≤ k) w6 5 1 (.slice p6 20 c6) 20 (bys (outTo ⟨va, vb, vc, vd, ve, vf, vg, vh⟩ 5))) := Lib.hid (hv6.mono (fun k _ hk => hk.elim id (fun h => by omega)))
              have HM6 : Hid (Mod nil W w6) := Lib.hid (HMR.out.trans hm6 (fun k hk h => by omega))
              clear hv6 hm6 hlen hix hlo hhi
              go_wp2_with fail
              exact ⟨⟨5, 20, p6, c6, by omega, rfl, rfl, rfl, HV6, HM6⟩, by simp [intOf]⟩
            · obtain rfl : k = 20 := HKI.out
              have hlo := u_lo vf
              have hhi := u_hi vf
              have hix := idx8_5 va vb vc vd ve vf vg vh
              have HLY := Lib.hid (shaLays (fun k => W.heap.size ≤ k) (.slice p 20 c) (outTo ⟨va, vb, vc, vd, ve, vf, vg, vh⟩ 5) vf.toNat 4 wr (by rw [outTo_length]; exact HVR.out) (by have := vf.isLt; omega) (by omega) (by rw [outTo_length]; omega))
              have hzw := HMR.out.size
              clear hbi hib
              go_wp2_with fail
              refine HLY.out.mono ?_
              rintro e w6 ⟨v6, rfl, hv6, hm6⟩
              have hlen : (outTo ⟨va, vb, vc, vd, ve, vf, vg, vh⟩ 5 ++ layC vf.toNat 4 4).length = 24 := by rw [List.length_append, outTo_length, layC_length]
              rw [hlen] at hv6
              obtain ⟨p6, c6, rfl⟩ := hv6.form
              have HV6 : Hid (IsVec (fun k => W.heap.size ≤ k) w6 5 1 (.slice p6 24 c6) 24 (bys (outTo ⟨va, vb, vc, vd, ve, vf, vg, vh⟩ 6))) := Lib.hid (hv6.mono (fun k _ hk => hk.elim id (fun h => by omega)))
              have HM6 : Hid (Mod nil W w6) := Lib.hid (HMR.out.trans hm6 (fun k hk h => by omega))
              clear hv6 hm6 hlen hix hlo hhi
              go_wp2_with fail
              exact ⟨⟨6, 24, p6, c6, by omega, rfl, rfl, rfl, HV6, HM6⟩, by simp [intOf]⟩
            · obtain rfl : k = 24 := HKI.out
              have hlo := u_lo vg
              have hhi := u_hi vg
              have hix := idx8_6 va vb vc vd ve vf vg vh
              have HLY := Lib.hid (shaLays (fun k => W.heap.size ≤ k) (.slice p 24 c) (outTo ⟨va, vb, vc, vd, ve, vf, vg, vh⟩ 6) vg.toNat 4 wr (by rw [outTo_length]; exact HVR.out) (by have := vg.isLt; omega) (by omega) (by rw [outTo_length]; omega))
              have hzw := HMR.out.size
              clear hbi hib
              go_wp2_with fail
              refine HLY.out.mono ?_
              rintro e w6 ⟨v6, rfl, hv6, hm6⟩
              have hlen : (outTo ⟨va, vb, vc, vd, ve, vf, vg, vh⟩ 6 ++ layC vg.toNat 4 4).length = 28 := by rw [List.length_append, outTo_length, layC_length]
              rw [hlen] at hv6
              obtain ⟨p6, c6, rfl⟩ := hv6.form
              have HV6 : Hid (IsVec (fun k => W.heap.size ≤ k) w6 5 1 (.slice p6 28 c6) 28 (bys (outTo ⟨va, vb, vc, vd, ve, vf, vg, vh⟩ 7))) := Lib.hid (hv6.mono (fun k _ hk => hk.elim id (fun h => by omega)))
              have HM6 : Hid (Mod nil W w6) := Lib.hid (HMR.out.trans hm6 (fun k hk h => by omega))
              clear hv6 hm6 hlen hix hlo hhi
              go_wp2_with fail
              exact ⟨⟨7, 28, p6, c6, by omega, rfl, rfl, rfl, HV6, HM6⟩, by simp [intOf]⟩
            · obtain rfl : k = 28 := HKI.out
              have hlo := u_lo vh
              have hhi := u_hi vh
              have hix := idx8_7 va vb vc vd ve vf vg vh
              have HLY := Lib.hid (shaLays (fun k => W.heap.size ≤ k) (.slice p 28 c) (outTo ⟨va, vb, vc, vd, ve, vf, vg, vh⟩ 7) vh.toNat 4 wr (by rw [outTo_length]; exact HVR.out) (by have := vh.isLt; omega) (by omega) (by rw [outTo_length]; omega))
              have hzw := HMR.out.size
              clear hbi hib
              go_wp2_with fail
              refine HLY.out.mono ?_
              rintro e w6 ⟨v6, rfl, hv6, hm6⟩
              have hlen : (outTo ⟨va, vb, vc, vd, ve, vf, vg, vh⟩ 7 ++ layC vh.toNat 4 4).length = 32 := by rw [List.length_append, outTo_length, layC_length]
              rw [hlen] at hv6
              obtain ⟨p6, c6, rfl⟩ := hv6.form
              have HV6 : Hid (IsVec (fun k => W.heap.size ≤ k) w6 5 1 (.slice p6 32 c6) 32 (bys (outTo ⟨va, vb, vc, vd, ve, vf, vg, vh⟩ 8))) := Lib.hid (hv6.mono (fun k _ hk => hk.elim id (fun h => by omega)))
              have HM6 : Hid (Mod nil W w6) := Lib.hid (HMR.out.trans hm6 (fun k hk h => by omega))
              clear hv6 hm6 hlen hix hlo hhi
              go_wp2_with fail
              exact ⟨⟨8, 32, p6, c6, by omega, rfl, rfl, rfl, HV6, HM6⟩, by simp [intOf]⟩
          · obtain rfl : i = 8 := by omega
            obtain rfl : k = 32 := HKI.out
            have hv := HVR.out
            rw [← HSUM.out] at hv
            have hk' : wr.heap[D]? = some (.deferred (some [])) := HMR.out.keep HK.out
            have hput : Mod (· = D) wr (wr.putObj D (.deferred none)) := mod_putObj wr D _ rfl
            have hvf : IsVec (fun k => w.heap.size ≤ k) (wr.putObj D (.deferred none)) 5 1 (.slice p 32 c) 32 (bys (sumOf r n v)) := (hv.mod hput (fun k _ hk e => by omega)).mono (fun k _ hk => by have := HMW.out.size; omega)
            have htf : IsTab (wr.putObj D (.deferred none)) tb := (HTW.out.mod HMR.out (not_nil _)).mod hput (by omega)
            have hmf : Mod (· = tb) w (wr.putObj D (.deferred none)) := (HMW.out.thenNil HMR.out).trans hput (fun k hk h => by omega)
            have HF := Lib.hid (And.intro hvf (And.intro htf hmf))
            clear hv hput hvf htf hmf
            go_wp2_with fail
            refine ⟨by simp, .inl ⟨_, _, rfl, run_takeDeferred hk', ?_⟩⟩
            exact ⟨_, results_tmp rfl _ _ _, HPOST.out _ _ ⟨.slice p 32 c, rfl, HF.out.1, HF.out.2.1, HF.out.2.2⟩⟩
      case stop =>
        rintro D c pre W _ _ h _
        exact h.elim
end Go.Proofs.YtdfahddpkkeldaaGreat

/- Package sha: NewTable, One. -/
namespace Go.Proofs.YtdfahddpkkeldaaGreat
open Go.RowKit
/-- the hash of a text -/
def shaOf (m : List UInt8) : List UInt8 := sumOf (m.drop (64 * (m.length / 64))) m.length (mixK m hV (m.length / 64))
theorem shaOf_length (m : List UInt8) : (shaOf m).length = 32 := sumOf_length _ _ _
theorem shaNewTable (w : World) : Calls Tryz.prog 6 #[] w fun e w' => ∃ tb, e = .returned (.pointer (some ⟨tb, 0, none⟩)) ∧ IsTab w' tb ∧ w.heap.size ≤ tb ∧ Mod nil w w' := by
 go_enter Tryz.func6, Tryz.ntmps6
 go_wp2_with fail
 go_ret
 refine ⟨w.heap.size, rfl, .inr ⟨List.replicate 64 0#32, List.replicate 8 0#32, by simp, by simp, ?_⟩, Nat.le_refl _, (Mod.refl _ _).alloc _⟩
 rw [heap_alloc_new]
 rfl
theorem shaOne (tb : Nat) (T : Nat → Prop) (vb : Value) (m : List UInt8) (w : World) (ht : IsTab w tb) (hrow : IsRow T w vb (bys m)) (hTt : ∀ k, T k → k < w.heap.size ∧ k ≠ tb) (hm : m.length ≤ 1099511627000) :
  Calls Tryz.prog 62 #[.pointer (some ⟨tb, 0, none⟩), vb] w fun e w' => ∃ v', e = .returned v' ∧ IsVec (fun k => w.heap.size ≤ k) w' 5 1 v' 32 (bys (shaOf m)) ∧ IsTab w' tb ∧ Mod (· = tb) w w' := by
 refine (?_ : ∀ Post : Ending → World → Prop, Hid (∀ e w', (∃ v', e = .returned v' ∧ IsVec (fun k => w.heap.size ≤ k) w' 5 1 v' 32 (bys (shaOf m)) ∧ IsTab w' tb ∧ Mod (· = tb) w w') → Post e w') → Calls Tryz.prog 62 #[.pointer (some ⟨tb, 0, none⟩), vb] w Post) _ (Lib.hid (fun _ _ h => h))
 intro Post HPOST
 have HT := Lib.hid ht
 have HR := Lib.hid hrow
 have HTT := Lib.hid hTt
 obtain ⟨pm, cm, rfl, _⟩ := id hrow
 obtain ⟨M, hM⟩ : ∃ M, m.length = M := ⟨_, rfl⟩
 rw [bys_length, hM] at HR ⊢
 have HML := Lib.hid hM
 clear ht hrow hTt hM
 go_enter Tryz.func62, Tryz.ntmps62
 go_wp2_with fail
 refine (shaNew tb w HT.out).mono ?_
 rintro e w1 ⟨b, rfl, hh1, hb1, hf1, hm1⟩
 have htl := HT.out.lt
 have HH1 := Lib.hid hh1
 have HF1 := Lib.hid hf1
 have HM1 := Lib.hid hm1
 clear hh1 hf1 hm1
 go_wp2_with fail
 refine (shaWrite b tb hV (fun _ => False) T (.slice none 0 0) (.slice pm M cm) [] m 0 w1 HH1.out (IsVec.nil _ _ _ _) id id (by omega) (full_tab HF1.out) (HR.out.mod HM1.out (fun k _ hk e => (HTT.out k hk).2 e)) (fun h => by have := (HTT.out b h).1; omega) (by simp; omega) (by omega)).mono ?_
 rintro e w2 ⟨rfl, ⟨rv, hh2, hv2⟩, ht2, hm2⟩
 rw [List.nil_append, Nat.zero_add] at hh2
 rw [List.nil_append] at hv2
 have HH2 := Lib.hid hh2
 have HV2 := Lib.hid hv2
 have HT2 := Lib.hid ht2
 have HM2 := Lib.hid hm2
 clear hh2 hv2 ht2 hm2
 go_wp2_with fail
 refine (shaSum b tb _ _ rv (m.drop (64 * (m.length / 64))) m.length w2 HH2.out HV2.out (by omega) HT2.out (by simp; omega) (by omega)).mono ?_
 rintro e w3 ⟨v3, rfl, hv3, ht3, hm3⟩
 have hmf : Mod (· = tb) w w3 := (HM1.out.trans HM2.out (fun k hk h => h.elim id (fun h => h.elim (fun h => by omega) (fun h => h.elim)))).trans hm3 (fun _ _ h => h)
 have hvf : IsVec (fun k => w.heap.size ≤ k) w3 5 1 v3 32 (bys (shaOf m)) := hv3.mono (fun k _ hk => by have := HM1.out.size; have := HM2.out.size; omega)
 have HF := Lib.hid (And.intro hvf (And.intro ht3 hmf))
 clear hv3 ht3 hmf hvf
 go_wp2_with fail
 exact HPOST.out _ _ ⟨v3, rfl, HF.out.1, HF.out.2.1, HF.out.2.2⟩
end Go.Proofs.YtdfahddpkkeldaaGreat

/- The document's hash (cflref1.Hash): the same law. -/
namespace Go.Proofs.YtdfahddpkkeldaaGreat
open Go.RowKit
theorem refTurn (x : BitVec 32) (n : Int) (h0 : 0 < n) (h1 : n < 32) (w : World) : Calls Tryz.prog 132 #[.int .u32 (u x), .int .u64 n] w fun e w' => e = .returned (.int .u32 (u (ror x n.toNat))) ∧ w = w' := by
 obtain ⟨k, rfl⟩ : ∃ k : Nat, n = k := ⟨n.toNat, by omega⟩
 obtain ⟨m, hm⟩ : ∃ m : Nat, 32 - k = m := ⟨_, rfl⟩
 have e1 : (32 - (k : Int)) % 18446744073709551616 = (m : Int) := by omega
 have e2 : IntKind.u64.wrap (32 - (k : Int)) = (m : Int) := by rw [IntKind.wrap_u64]; exact e1
 have e3 : u x / 2 ^ k = u (x >>> k) := by have := u_shr x k; rw [← this]; push_cast; rfl
 have e4 : u x * 2 ^ m % 4294967296 = u (x <<< m) := by have := u_shl x m; rw [← this]; push_cast; rfl
 have e4' : IntKind.u32.wrap (u x * 2 ^ m) = u (x <<< m) := by rw [IntKind.wrap_u32]; exact e4
 have e5 := u_or (x >>> k) (x <<< m)
 have e6 : x >>> k ||| x <<< m = ror x k := by rw [ror, hm, BitVec.or_comm]
 rw [e6] at e5
 have hk : ¬ (32 : Int) < (k : Int) := by omega
 have hmm : (m : Int) ≤ 32 := by omega
 have hk' : (k : Int) ≤ 32 := by omega
 have h1 := u_lo x
 have h2 := u_hi x
 rw [Int.toNat_natCast]
 clear hm e6
 go_enter Tryz.func132, Tryz.ntmps132
 go_wp2_with fail
 go_ret
 exact ⟨rfl, rfl⟩
theorem hTab_lit : (wc hTab).toArray = #[.int .u32 1779033703, .int .u32 3144134277, .int .u32 1013904242, .int .u32 2773480762, .int .u32 1359893119, .int .u32 2600822924, .int .u32 528734635, .int .u32 1541459225] := by kernel_rfl
theorem info_a8 : (Tryz.prog.info? 82).map (·.size) = some 8 := by kernel_rfl
theorem info_a64 : (Tryz.prog.info? 81).map (·.size) = some 64 := by kernel_rfl
set_option maxRecDepth 100000 in
theorem refStarts (w : World) : Calls Tryz.prog 114 #[] w fun e w' => e = .returned (.agg (wc hTab).toArray) ∧ Mod nil w w' := by
 rw [hTab_lit]
 go_enter Tryz.func114, Tryz.ntmps114
 go_wp2_with fail
 refine bodyPost_ret (results_cell_row rfl _ _ w.heap.size 82 _ (0, 0) _ rfl (heap_alloc_new w _) Tryz.underlying82 rfl info_a8) rfl ?_
 exact ⟨rfl, (Mod.refl _ _).alloc _⟩
set_option maxRecDepth 100000 in
theorem refWords (w : World) : Calls Tryz.prog 113 #[] w fun e w' => e = .returned (.agg (wc kTab).toArray) ∧ Mod nil w w' := by
 obtain ⟨cs, hcs⟩ : ∃ cs, (wc kTab).toArray = cs := ⟨_, rfl⟩
 have hsize : 64 = cs.size := by rw [← hcs, List.size_toArray, wc_length, kTab_length]
 have hone : cs.all (·.oneCell') = true := by rw [← hcs]; kernel_rfl
 have HCS := Lib.hid hcs
 rw [hcs]
 go_enter Tryz.func113, Tryz.ntmps113
 go_upto_region 1 with (fail)
 obtain ⟨g, hg⟩ : ∃ g, w.heap.size = g := ⟨_, rfl⟩
 generalize hw1 : w.alloc _ = w1
 have HG1 : Hid (w1.heap[g]? = some (.cells (List.replicate 64 (Value.int .u32 0)).toArray 81 (0, 0))) := Lib.hid (by rw [← hw1, ← hg, heap_alloc_new]; rfl)
 have hm1 : Mod nil w (w1.setRow g cs) := by
  have h2 : Mod nil w w1 := by rw [← hw1]; exact (Mod.refl _ _).alloc _
  exact ⟨h2.os, h2.tape, h2.output, by simpa [World.setRow] using h2.size, fun k hk _ => (setRow_other w1 g k cs (by omega)).trans (h2.block k hk (not_nil _))⟩
 have HM1 := Lib.hid hm1
 rw [hg]
 clear hw1 hm1 hcs hg
 go_wp2_with (first
  | (refine wpList_build rfl _ _ rfl (by kernel_rfl) ?_)
  | (refine wpList_store_row rfl _ _ _ rfl g cs rfl (by rw [← HCS.out]; kernel_rfl) 81 _ HG1.out (by rw [info_a64, hsize]) (by simp [← hsize]) hone ?_))
 refine bodyPost_ret (results_cell_row rfl _ _ g 81 cs (0, 0) _ rfl (setRow_heap w1 g _ cs _ _ HG1.out) Tryz.underlying81 rfl (by rw [info_a64, hsize])) rfl ?_
 exact ⟨rfl, HM1.out⟩
end Go.Proofs.YtdfahddpkkeldaaGreat

/- Hashing in several writes: the contracts of New, Write, Sum by the bytes that were written. -/
namespace Go.Proofs.YtdfahddpkkeldaaGreat
open Go.RowKit
theorem mixTake (A B : List UInt8) (v : V8) (q : Nat) (h : 64 * q ≤ A.length) : mixK (A ++ B) v q = mixK A v q := by
 induction q with
 | zero => rfl
 | succ q ih =>
  rw [mixK, mixK, ih (by omega), List.drop_append_of_le_length (by omega), List.take_append_of_le_length (by rw [List.length_drop]; omega)]
theorem mixAfter (A B : List UInt8) (v : V8) (q k : Nat) (h : A.length = 64 * q) : mixK (A ++ B) v (q + k) = mixK B (mixK A v q) k := by
 induction k with
 | zero => exact mixTake A B v q (by omega)
 | succ k ih =>
  rw [← Nat.add_assoc, mixK, mixK, ih, show 64 * (q + k) = A.length + 64 * k by omega, List.drop_length_add_append]
/-- a hash that has taken m -/
def IsHashOf (S : Nat → Prop) (w : World) (b tb : Nat) (m : List UInt8) : Prop :=
 ∃ rv, IsHash w b tb (mixK m hV (m.length / 64)) rv (m.length : Nat) ∧ IsVec S w 5 1 rv (m.drop (64 * (m.length / 64))).length (bys (m.drop (64 * (m.length / 64))))
theorem IsHashOf.mod {S T : Nat → Prop} {w w' : World} {b tb : Nat} {m : List UInt8} (h : IsHashOf S w b tb m) (d : Mod T w w') (hb : ¬ T b) (hs : ∀ k, k < w.heap.size → S k → ¬ T k) : IsHashOf S w' b tb m := by
 obtain ⟨rv, h1, h2⟩ := h
 exact ⟨rv, (d.block b (heap_lt h1) hb).trans h1, h2.mod d hs⟩
theorem IsHashOf.lt {S : Nat → Prop} {w : World} {b tb : Nat} {m : List UInt8} (h : IsHashOf S w b tb m) : b < w.heap.size := by
 obtain ⟨rv, h1, h2⟩ := h
 exact heap_lt h1
theorem shaNew2 (tb : Nat) (w : World) (ht : IsTab w tb) :
  Calls Tryz.prog 90 #[.pointer (some ⟨tb, 0, none⟩)] w fun e w' => ∃ b, e = .returned (.pointer (some ⟨b, 0, none⟩)) ∧ IsHashOf nil w' b tb [] ∧ w.heap.size ≤ b ∧ IsTab w' tb ∧ Mod (· = tb) w w' :=
 (shaNew tb w ht).mono fun _ _ ⟨b, h1, h2, h3, h4, h5⟩ => ⟨b, h1, ⟨_, h2, IsVec.nil _ _ _ _⟩, h3, full_tab h4, h5⟩
theorem shaWrite2 (b tb : Nat) (S T : Nat → Prop) (vb : Value) (m x : List UInt8) (w : World) (hh : IsHashOf S w b tb m) (hSb : ¬ S b) (hSt : ¬ S tb) (hne : tb ≠ b) (ht : IsTab w tb)
    (hrow : IsRow T w vb (bys x)) (hTb : ¬ T b) (hl : m.length + x.length ≤ 1099511627776) :
    Calls Tryz.prog 91 #[.pointer (some ⟨b, 0, none⟩), vb] w fun e w' => e = .returned (.tuple #[]) ∧ IsHashOf (fun k => w.heap.size ≤ k) w' b tb (m ++ x) ∧ IsTab w' tb ∧ Mod (fun k => k = tb ∨ k = b ∨ S k) w w' := by
  obtain ⟨rv, h1, h2⟩ := hh
  obtain ⟨q, hq⟩ : ∃ q, m.length / 64 = q := ⟨_, rfl⟩
  rw [hq] at h1 h2
  have hA : (m.take (64 * q)).length = 64 * q := by rw [List.length_take]; omega
  have hr : (m.drop (64 * q)).length = m.length - 64 * q := List.length_drop
  have hv : mixK m hV q = mixK (m.take (64 * q)) hV q := by
    have := mixTake (m.take (64 * q)) (m.drop (64 * q)) hV q (by omega)
    rwa [List.take_append_drop] at this
  have hsplit : m ++ x = m.take (64 * q) ++ (m.drop (64 * q) ++ x) := by rw [← List.append_assoc, List.take_append_drop]
  have hlen : (m ++ x).length / 64 = q + (m.drop (64 * q) ++ x).length / 64 := by rw [List.length_append, List.length_append, hr]; omega
  have hmix : mixK (m.drop (64 * q) ++ x) (mixK m hV q) ((m.drop (64 * q) ++ x).length / 64) = mixK (m ++ x) hV ((m ++ x).length / 64) := by
    rw [hlen, hsplit, mixAfter _ _ _ _ _ hA, hv]
  have hdrop : (m.drop (64 * q) ++ x).drop (64 * ((m.drop (64 * q) ++ x).length / 64)) = (m ++ x).drop (64 * ((m ++ x).length / 64)) := by
    rw [hlen, hsplit, Nat.mul_add]
    generalize m.drop (64 * q) ++ x = y
    generalize hA' : m.take (64 * q) = A at hA
    rw [show 64 * q + 64 * (y.length / 64) = A.length + 64 * (y.length / 64) by omega, List.drop_length_add_append]
  refine (shaWrite b tb (mixK m hV q) S T rv vb (m.drop (64 * q)) x m.length w h1 h2 hSb hSt hne ht hrow hTb (by rw [hr]; omega) (by omega)).mono ?_
  rintro e w' ⟨rfl, ⟨rv', k1, k2⟩, k3, k4⟩
  rw [hmix] at k1
  rw [hdrop] at k2
  rw [← List.length_append] at k1
  exact ⟨rfl, ⟨rv', k1, k2⟩, k3, k4⟩
theorem shaSum2 (b tb : Nat) (S : Nat → Prop) (m : List UInt8) (w : World) (hh : IsHashOf S w b tb m) (hne : tb ≠ b) (ht : IsTab w tb) (hm : m.length ≤ 1099511627000) :
  Calls Tryz.prog 92 #[.pointer (some ⟨b, 0, none⟩)] w fun e w' => ∃ v', e = .returned v' ∧ IsVec (fun k => w.heap.size ≤ k) w' 5 1 v' 32 (bys (shaOf m)) ∧ IsTab w' tb ∧ Mod (· = tb) w w' := by
 obtain ⟨rv, h1, h2⟩ := hh
 exact shaSum b tb _ S rv _ m.length w h1 h2 hne ht (by rw [List.length_drop]; omega) (by omega)
end Go.Proofs.YtdfahddpkkeldaaGreat

/- cflref1.block: a block of 64 bytes is taken as the plain law says. (Printed by gen_refshab.py.) -/
namespace Go.Proofs.YtdfahddpkkeldaaGreat
open Go.RowKit
theorem refTurnQ (x : BitVec 32) (n : Int) (h0 : 0 < n) (h1 : n < 32) (w : World) : Calls Tryz.prog 132 #[.int .u32 (u x), .int .u64 n] w fun e w' => e = .returned (.int .u32 (u (ror x n.toNat))) ∧ w' = w :=
 (refTurn x n h0 h1 w).mono fun _ _ h => ⟨h.1, h.2.symm⟩
theorem word4 (a b c d : BitVec 32) : a <<< 24 ||| b <<< 16 ||| c <<< 8 ||| d = (((a <<< 8 ||| b) <<< 8 ||| c) <<< 8 ||| d) := by
 simp only [BitVec.shiftLeft_or_distrib, ← BitVec.shiftLeft_add]
theorem wordOf4 (a b c d : UInt8) : wordOf [a, b, c, d] = w8 a <<< 24 ||| w8 b <<< 16 ||| w8 c <<< 8 ||| w8 d := by
 rw [word4]
 show (((0#32 <<< 8 ||| w8 a) <<< 8 ||| w8 b) <<< 8 ||| w8 c) <<< 8 ||| w8 d = _
 rw [show (0#32 <<< 8 ||| w8 a) = w8 a by simp]
theorem take4 (b : List UInt8) (i : Nat) (h : i + 4 ≤ b.length) : (b.drop i).take 4 = [b.getD i 0, b.getD (i + 1) 0, b.getD (i + 2) 0, b.getD (i + 3) 0] := by
 apply List.ext_getElem?
 intro k
 match k with
 | 0 => simp [show i < b.length by omega]
 | 1 => simp [show i + 1 < b.length by omega]
 | 2 => simp [show i + 2 < b.length by omega]
 | 3 => simp [show i + 3 < b.length by omega]
 | k + 4 => rw [List.getElem?_eq_none (by simp; omega), List.getElem?_eq_none (by simp)]
theorem schedL_word (b : List UInt8) (i : Nat) (hi : i < 16) (hl : b.length = 64) : wNext (mwords b) (schedTo (mwords b) i) i = w8 (b.getD (4 * i) 0) <<< 24 ||| w8 (b.getD (4 * i + 1) 0) <<< 16 ||| w8 (b.getD (4 * i + 2) 0) <<< 8 ||| w8 (b.getD (4 * i + 3) 0) := by
 unfold wNext
 rw [if_pos hi, mwords_get b i hi, take4 b (4 * i) (by omega), wordOf4]
theorem set_cells8 {w : World} {g : Nat} {a0 a1 a2 a3 a4 a5 a6 a7 : Value} {T : TypeId} {fr : Nat × Nat} (h : w.heap[g]? = some (.cells #[a0, a1, a2, a3, a4, a5, a6, a7] T fr)) (v0 v1 v2 v3 v4 v5 v6 v7 : Value) :
  ((((((((w.setCell ⟨g, 0, none⟩ v0).setCell ⟨g, 1, none⟩ v1).setCell ⟨g, 2, none⟩ v2).setCell ⟨g, 3, none⟩ v3).setCell ⟨g, 4, none⟩ v4).setCell ⟨g, 5, none⟩ v5).setCell ⟨g, 6, none⟩ v6).setCell ⟨g, 7, none⟩ v7).heap[g]? = some (.cells #[v0, v1, v2, v3, v4, v5, v6, v7] T fr) ∧
  Mod (· = g) w ((((((((w.setCell ⟨g, 0, none⟩ v0).setCell ⟨g, 1, none⟩ v1).setCell ⟨g, 2, none⟩ v2).setCell ⟨g, 3, none⟩ v3).setCell ⟨g, 4, none⟩ v4).setCell ⟨g, 5, none⟩ v5).setCell ⟨g, 6, none⟩ v6).setCell ⟨g, 7, none⟩ v7) := by
 have h1 := heap_setCell_same (off := 0) h v0
 simp only [List.setIfInBounds_toArray, List.set_cons_zero, List.set_cons_succ] at h1
 have h2 := heap_setCell_same (off := 1) h1 v1
 simp only [List.setIfInBounds_toArray, List.set_cons_zero, List.set_cons_succ] at h2
 have h3 := heap_setCell_same (off := 2) h2 v2
 simp only [List.setIfInBounds_toArray, List.set_cons_zero, List.set_cons_succ] at h3
 have h4 := heap_setCell_same (off := 3) h3 v3
 simp only [List.setIfInBounds_toArray, List.set_cons_zero, List.set_cons_succ] at h4
 have h5 := heap_setCell_same (off := 4) h4 v4
 simp only [List.setIfInBounds_toArray, List.set_cons_zero, List.set_cons_succ] at h5
 have h6 := heap_setCell_same (off := 5) h5 v5
 simp only [List.setIfInBounds_toArray, List.set_cons_zero, List.set_cons_succ] at h6
 have h7 := heap_setCell_same (off := 6) h6 v6
 simp only [List.setIfInBounds_toArray, List.set_cons_zero, List.set_cons_succ] at h7
 have h8 := heap_setCell_same (off := 7) h7 v7
 simp only [List.setIfInBounds_toArray, List.set_cons_zero, List.set_cons_succ] at h8
 have m1 := (Mod.refl (· = g) w).setCell ⟨g, 0, none⟩ v0 (fun _ => rfl)
 have m2 := m1.setCell ⟨g, 1, none⟩ v1 (fun _ => rfl)
 have m3 := m2.setCell ⟨g, 2, none⟩ v2 (fun _ => rfl)
 have m4 := m3.setCell ⟨g, 3, none⟩ v3 (fun _ => rfl)
 have m5 := m4.setCell ⟨g, 4, none⟩ v4 (fun _ => rfl)
 have m6 := m5.setCell ⟨g, 5, none⟩ v5 (fun _ => rfl)
 have m7 := m6.setCell ⟨g, 6, none⟩ v6 (fun _ => rfl)
 have m8 := m7.setCell ⟨g, 7, none⟩ v7 (fun _ => rfl)
 exact ⟨h8, m8⟩
set_option maxRecDepth 100000 in
set_option maxHeartbeats 4000000 in
theorem refBlock (hb kb bb bo cb : Nat) (v : V8) (b : List UInt8) (w : World) (hh : w.heap[hb]? = some (.cells (wc v.list).toArray 82 (0, 0))) (hk : w.heap[kb]? = some (.cells (wc kTab).toArray 81 (0, 0)))
  (hne : kb ≠ hb) (hrow : ∀ i, i < 64 → w.cell? ⟨bb, bo + i, none⟩ = some (.int .u8 (b.getD i 0).toNat)) (hl : b.length = 64) (hcb : 64 ≤ cb) :
  Calls Tryz.prog 115 #[.slice (some ⟨hb, 0, none⟩) 8 8, .slice (some ⟨kb, 0, none⟩) 64 64, .slice (some ⟨bb, bo, none⟩) 64 cb] w fun e w' => e = .returned (.tuple #[]) ∧ w'.heap[hb]? = some (.cells (wc (mixV b v).list).toArray 82 (0, 0)) ∧ Mod (· = hb) w w' := by
 have HH := Lib.hid hh
 have HK := Lib.hid hk
 have HL := Lib.hid hl
 have HB : Hid (∀ w', Mod nil w w' → ∀ i, i < 64 → w'.cell? ⟨bb, bo + i, none⟩ = some (.int .u8 (b.getD i 0).toNat)) := Lib.hid (fun w' m i hi => cell_kept (hrow i hi) m (World.block_lt_of_cell? _ _ (hrow i hi)) (not_nil _))
 have HBB : Hid (bb < w.heap.size) := Lib.hid (World.block_lt_of_cell? _ _ (hrow 0 (by omega)))
 clear hh hk hl hrow
 refine (?_ : ∀ Post : Ending → World → Prop, Hid (∀ e w', (e = .returned (.tuple #[]) ∧ w'.heap[hb]? = some (.cells (wc (mixV b v).list).toArray 82 (0, 0)) ∧ Mod (· = hb) w w') → Post e w') → Calls Tryz.prog 115 #[.slice (some ⟨hb, 0, none⟩) 8 8, .slice (some ⟨kb, 0, none⟩) 64 64, .slice (some ⟨bb, bo, none⟩) 64 cb] w Post) _ (Lib.hid (fun _ _ h => h))
 intro Post HPOST
 go_enter Tryz.func115, Tryz.ntmps115
 go_upto_region 1 with (fail)
 obtain ⟨g, hg⟩ : ∃ g, w.heap.size = g := ⟨_, rfl⟩
 obtain ⟨m, hm⟩ : ∃ m, mwords b = m := ⟨_, rfl⟩
 generalize hw1 : w.alloc _ = w1
 have HG1 : Hid (w1.heap[g]? = some (.cells (wc (schedL m 0)).toArray 81 (0, 0))) := Lib.hid (by rw [← hw1, ← hg, heap_alloc_new]; rfl)
 have HM1 : Hid (Mod nil w w1) := Lib.hid (by rw [← hw1]; exact (Mod.refl _ _).alloc _)
 have HGB : Hid (w.heap.size = g) := Lib.hid hg
 have hbg : bb ≠ g := by have := HBB.out; omega
 rw [hg]
 have HMB := Lib.hid hm
 clear hw1 hg hm
 go_wp2_with fail
 go_loopw [7] (fun v7 wr => ∃ i : Nat, i ≤ 16 ∧ v7 = .int .i64 i ∧ Hid (wr.heap[g]? = some (.cells (wc (schedL m i)).toArray 81 (0, 0))) ∧ Hid (Mod nil w wr)) (fun v _ => 16 - (intOf v).toNat)
 case atStart => exact ⟨0, by omega, rfl, HG1, HM1⟩
 case round =>
  obtain ⟨i, hi, rfl, HG, HM⟩ := hrel
  clear HG1 HM1
  by_cases hlt : i < 16
  ·have hbi : decide ((i : Int) < 16) = true := by simp; omega
   have hib : (i : Int) < 16 := by omega
   have hi64 : (i : Int) < 64 := by omega
   obtain ⟨I, hI⟩ : ∃ I : Nat, 4 * i = I := ⟨_, rfl⟩
   have hI4 : (4 : Int) * (i : Int) = (I : Int) := by omega
   have hI1 : (I : Int) + 1 < 64 := by omega
   have hI2 : (I : Int) + 2 < 64 := by omega
   have hI3 : (I : Int) + 3 < 64 := by omega
   have hI0 : (I : Int) < 64 := by omega
   have hnext := schedL_word b i hlt HL.out
   rw [HMB.out, hI] at hnext
   have q0 := HB.out _ HM.out I (by omega)
   have q1 := HB.out _ HM.out (I + 1) (by omega)
   have q2 := HB.out _ HM.out (I + 2) (by omega)
   have q3 := HB.out _ HM.out (I + 3) (by omega)
   generalize b.getD I 0 = c0 at q0 hnext
   generalize b.getD (I + 1) 0 = c1 at q1 hnext
   generalize b.getD (I + 2) 0 = c2 at q2 hnext
   generalize b.getD (I + 3) 0 = c3 at q3 hnext
   have n0 : c0.toNat < 256 := c0.toNat_lt
   have n1 : c1.toNat < 256 := c1.toNat_lt
   have n2 : c2.toNat < 256 := c2.toNat_lt
   have n3 : c3.toNat < 256 := c3.toNat_lt
   have e0 : IntKind.u32.wrap ((c0.toNat : Int) * 16777216) = u (w8 c0 <<< 24) := by rw [IntKind.wrap_u32, u_w8]; exact u_shl _ 24
   have e1 : IntKind.u32.wrap ((c1.toNat : Int) * 65536) = u (w8 c1 <<< 16) := by rw [IntKind.wrap_u32, u_w8]; exact u_shl _ 16
   have e2 : IntKind.u32.wrap ((c2.toNat : Int) * 256) = u (w8 c2 <<< 8) := by rw [IntKind.wrap_u32, u_w8]; exact u_shl _ 8
   have e0' : ((c0.toNat : Int) * 16777216) % 4294967296 = u (w8 c0 <<< 24) := by rw [u_w8]; exact u_shl _ 24
   have e1' : ((c1.toNat : Int) * 65536) % 4294967296 = u (w8 c1 <<< 16) := by rw [u_w8]; exact u_shl _ 16
   have e2' : ((c2.toNat : Int) * 256) % 4294967296 = u (w8 c2 <<< 8) := by rw [u_w8]; exact u_shl _ 8
   have k0 : IntKind.u32.wrap (c0.toNat : Int) = (c0.toNat : Int) := by rw [IntKind.wrap_u32]; omega
   have k1 : IntKind.u32.wrap (c1.toNat : Int) = (c1.toNat : Int) := by rw [IntKind.wrap_u32]; omega
   have k2 : IntKind.u32.wrap (c2.toNat : Int) = (c2.toNat : Int) := by rw [IntKind.wrap_u32]; omega
   have k3 : IntKind.u32.wrap (c3.toNat : Int) = (c3.toNat : Int) := by rw [IntKind.wrap_u32]; omega
   have o1 := u_or (w8 c0 <<< 24) (w8 c1 <<< 16)
   have o2 := u_or (w8 c0 <<< 24 ||| w8 c1 <<< 16) (w8 c2 <<< 8)
   have o3 : bits .or .u32 (u (w8 c0 <<< 24 ||| w8 c1 <<< 16 ||| w8 c2 <<< 8)) (c3.toNat : Int) = u (w8 c0 <<< 24 ||| w8 c1 <<< 16 ||| w8 c2 <<< 8 ||| w8 c3) := by rw [u_w8, u_or]
   rw [← hnext] at o3
   obtain ⟨X, hX⟩ : ∃ X, wNext m (schedTo m i) i = X := ⟨_, rfl⟩
   rw [hX] at o3
   generalize w8 c0 <<< 24 = d0 at *
   generalize w8 c1 <<< 16 = d1 at *
   generalize w8 c2 <<< 8 = d2 at *
   generalize d0 ||| d1 = d01 at *
   generalize d01 ||| d2 = d012 at *
   generalize c0.toNat = x0 at *
   generalize c1.toNat = x1 at *
   generalize c2.toNat = x2 at *
   generalize c3.toNat = x3 at *
   have hgi := wc_cell HG.out i (by rw [schedL_length m i (by omega)]; omega)
   have hfr := free_of HG.out i
   have hst := wc_store HG.out i X
   rw [← hX, schedL_set m i (by omega), hX] at hst
   have HST := Lib.hid hst
   have HMST : Hid (Mod nil w (wr.setCell ⟨g, i, none⟩ (.int .u32 (u X)))) := Lib.hid (HM.out.setCell _ _ (fun h => by have := HGB.out; simp only at h; omega))
   have cs : ∀ (x : Value) (j : Nat) (y : Value), wr.cell? ⟨bb, j, none⟩ = some y → (wr.setCell ⟨g, i, none⟩ x).cell? ⟨bb, j, none⟩ = some y := fun x j y h => (World.cell?_setCell_other _ ⟨g, i, none⟩ ⟨bb, j, none⟩ _ (by simp <;> omega)).trans h
   have c0' := fun x => cs x _ _ q0
   have c1' := fun x => cs x _ _ q1
   have c2' := fun x => cs x _ _ q2
   have c3' := fun x => cs x _ _ q3
   have HI := Lib.hid hI
   have p1 : 0 ≤ (I : Int) + 1 := by omega
   have p2 : 0 ≤ (I : Int) + 2 := by omega
   have p3 : 0 ≤ (I : Int) + 3 := by omega
   have t1 : ((I : Int) + 1).toNat = I + 1 := by omega
   have t2 : ((I : Int) + 2).toNat = I + 2 := by omega
   have t3 : ((I : Int) + 3).toNat = I + 3 := by omega
   have w0 : IntKind.i64.wrap (I : Int) = (I : Int) := by rw [IntKind.wrap_i64]; omega
   have w1' : IntKind.i64.wrap ((I : Int) + 1) = ((I + 1 : Nat) : Int) := by rw [IntKind.wrap_i64]; omega
   have w2' : IntKind.i64.wrap ((I : Int) + 2) = ((I + 2 : Nat) : Int) := by rw [IntKind.wrap_i64]; omega
   have w3' : IntKind.i64.wrap ((I : Int) + 3) = ((I + 3 : Nat) : Int) := by rw [IntKind.wrap_i64]; omega
   clear hst hnext cs hI hX
   go_upto_region 4 with (fail)
   go_region_held3 (fun w' => w'.cell? ⟨bb, bo + I, none⟩ = some (.int .u8 x0) ∧ w'.cell? ⟨bb, bo + (I + 1), none⟩ = some (.int .u8 x1) ∧ w'.cell? ⟨bb, bo + (I + 2), none⟩ = some (.int .u8 x2) ∧ w'.cell? ⟨bb, bo + (I + 3), none⟩ = some (.int .u8 x3)) (first | exact ⟨q0, q1, q2, q3⟩ | exact ⟨c0' _, c1' _, c2' _, c3' _⟩) (fail)
   clear hI4
   go_wp2_with fail
   exact ⟨⟨i + 1, by omega, by go_num, HST, Lib.hid HMST.out.drew⟩, by simp [intOf]; omega⟩
  ·obtain rfl : i = 16 := by omega
   simp only [Int.cast_ofNat_Int]
   go_wp2_with fail
   go_loopw [8] (fun v8 wx => ∃ i : Nat, 16 ≤ i ∧ i ≤ 64 ∧ v8 = .int .i64 i ∧ Hid (wx.heap[g]? = some (.cells (wc (schedL m i)).toArray 81 (0, 0))) ∧ Hid (Mod nil w wx)) (fun v _ => 64 - (intOf v).toNat)
   case atStart => exact ⟨16, by omega, by omega, rfl, HG, HM⟩
   case round =>
    obtain ⟨i, hi16, hi, rfl, HG, HM⟩ := hrel
    by_cases hlt : i < 64
    ·have hbi : decide ((i : Int) < 64) = true := by simp; omega
     have hib : (i : Int) < 64 := by omega
     have hlen := schedL_length m i hi
     obtain ⟨i2, h2⟩ : ∃ n : Nat, (i : Int) - 2 = n := ⟨i - 2, by omega⟩
     obtain ⟨i7, h7⟩ : ∃ n : Nat, (i : Int) - 7 = n := ⟨i - 7, by omega⟩
     obtain ⟨i15, h15⟩ : ∃ n : Nat, (i : Int) - 15 = n := ⟨i - 15, by omega⟩
     obtain ⟨i16, h16⟩ : ∃ n : Nat, (i : Int) - 16 = n := ⟨i - 16, by omega⟩
     have hb2 : i2 < 64 := by omega
     have hb7 : i7 < 64 := by omega
     have hb15 : i15 < 64 := by omega
     have hb16 : i16 < 64 := by omega
     have hnext : wNext m (schedTo m i) i = (schedL m i).getD i16 0 + s0 ((schedL m i).getD i15 0) + (schedL m i).getD i7 0 + s1 ((schedL m i).getD i2 0) := by
      unfold wNext
      rw [if_neg (by omega), schedL_get m i i16 (by omega), schedL_get m i i15 (by omega), schedL_get m i i7 (by omega), schedL_get m i i2 (by omega), show i - 16 = i16 by omega, show i - 15 = i15 by omega, show i - 7 = i7 by omega, show i - 2 = i2 by omega]
     have q2 := wc_cell HG.out i2 (by omega)
     have q7 := wc_cell HG.out i7 (by omega)
     have q15 := wc_cell HG.out i15 (by omega)
     have q16 := wc_cell HG.out i16 (by omega)
     generalize (schedL m i).getD i2 0 = x2 at q2 hnext
     generalize (schedL m i).getD i7 0 = x7 at q7 hnext
     generalize (schedL m i).getD i15 0 = x15 at q15 hnext
     generalize (schedL m i).getD i16 0 = x16 at q16 hnext
     have HN := Lib.hid hnext
     have HLEN := Lib.hid hlen
     have hii2 : i2 ≠ i := by omega
     have hii7 : i7 ≠ i := by omega
     have hii15 : i15 ≠ i := by omega
     have hii16 : i16 ≠ i := by omega
     clear hlen hnext
     go_upto_region 8 with (fail)
     go_quiet (fail)
     generalize hd : wr.drewN _ = w2
     have HG2 : Hid (w2.heap[g]? = some (.cells (wc (schedL m i)).toArray 81 (0, 0))) := Lib.hid (by rw [← hd]; exact HG.out)
     have HM2 : Hid (Mod nil w w2) := Lib.hid (by rw [← hd]; exact HM.out.drewN _)
     replace q7 : w2.cell? ⟨g, i7, none⟩ = some (.int .u32 (u x7)) := by rw [← hd]; exact q7
     replace q16 : w2.cell? ⟨g, i16, none⟩ = some (.int .u32 (u x16)) := by rw [← hd]; exact q16
     clear hd q2 q15
     have f1 := u_xor (ror x15 7) (ror x15 18)
     have f2 : u x15 / (8 : Int) = u (x15 >>> 3) := u_shr x15 3
     have f3 := u_xor (ror x15 7 ^^^ ror x15 18) (x15 >>> 3)
     rw [← s0] at f3
     have f4 := u_xor (ror x2 17) (ror x2 19)
     have f5 : u x2 / (1024 : Int) = u (x2 >>> 10) := u_shr x2 10
     have f6 := u_xor (ror x2 17 ^^^ ror x2 19) (x2 >>> 10)
     rw [← s1] at f6
     have a1 := u_addw x16 (s0 x15)
     have a2 := u_addw (x16 + s0 x15) x7
     have a3 := u_addw (x16 + s0 x15 + x7) (s1 x2)
     have hgi := wc_cell HG2.out i (by rw [HLEN.out]; exact hlt)
     have hfr := free_of HG2.out i
     have cs7 : ∀ x : Value, (w2.setCell ⟨g, i, none⟩ x).cell? ⟨g, i7, none⟩ = some (.int .u32 (u x7)) := fun x => (World.cell?_setCell_other _ ⟨g, i, none⟩ ⟨g, i7, none⟩ _ (by simp <;> omega)).trans q7
     have cs16 : ∀ x : Value, (w2.setCell ⟨g, i, none⟩ x).cell? ⟨g, i16, none⟩ = some (.int .u32 (u x16)) := fun x => (World.cell?_setCell_other _ ⟨g, i, none⟩ ⟨g, i16, none⟩ _ (by simp <;> omega)).trans q16
     have hst := wc_store HG2.out i (x16 + s0 x15 + x7 + s1 x2)
     rw [← HN.out, schedL_set m i hlt, HN.out] at hst
     have HST := Lib.hid hst
     have HMST : Hid (Mod nil w (w2.setCell ⟨g, i, none⟩ (.int .u32 (u (x16 + s0 x15 + x7 + s1 x2))))) := Lib.hid (HM2.out.setCell _ _ (fun h => by have := HGB.out; simp only at h; omega))
     clear hst hii2 hii7 hii15 hii16
     have hc16 : (i16 : Int) < 64 := by omega
     have hc7 : (i7 : Int) < 64 := by omega
     have hw16 : IntKind.i64.wrap (i16 : Int) = (i16 : Int) := by rw [IntKind.wrap_i64]; omega
     have hw7 : IntKind.i64.wrap (i7 : Int) = (i7 : Int) := by rw [IntKind.wrap_i64]; omega
     go_upto_region 9 with (fail)
     go_region_held3 (fun w' => w'.cell? ⟨g, i7, none⟩ = some (.int .u32 (u x7)) ∧ w'.cell? ⟨g, i16, none⟩ = some (.int .u32 (u x16))) (first | exact ⟨q7, q16⟩ | exact ⟨cs7 _, cs16 _⟩) (first | (go_at_call 132; refine (refTurn _ _ (by omega) (by omega) _).mono ?_; simp only [Int.reduceToNat]; rintro e w' ⟨rfl, rfl⟩))
     go_wp2_with fail
     exact ⟨⟨i + 1, by omega, by omega, by go_num, HST, Lib.hid HMST.out.drew⟩, by simp [intOf]; omega⟩
    ·obtain rfl : i = 64 := by omega
     simp only [Int.cast_ofNat_Int]
     have hsl : schedL m 64 = schedTo m 64 := by simp [schedL]
     obtain ⟨ws, hws⟩ : ∃ ws, schedTo m 64 = ws := ⟨_, rfl⟩
     have hwl : ws.length = 64 := by rw [← hws, schedTo_length]
     rw [hsl, hws] at HG
     have HWS := Lib.hid hws
     have HWL := Lib.hid hwl
     have hbT : hb < g := by have := heap_lt HH.out; have := HGB.out; omega
     have kbT : kb < g := by have := heap_lt HK.out; have := HGB.out; omega
     clear hsl hws hwl hlt hi hi16 hbg
     go_upto_region 11 with (fail)
     obtain ⟨gv, hgv⟩ : ∃ gv, wr.heap.size = gv := ⟨_, rfl⟩
     generalize hw2 : wr.alloc _ = w2
     have HGV : Hid (w2.heap[gv]? = some (.cells (List.replicate 8 (Value.int .u32 0)).toArray 82 (0, 0))) := Lib.hid (by rw [← hw2, ← hgv, heap_alloc_new]; rfl)
     have hm2 : Mod nil wr w2 := by rw [← hw2]; exact (Mod.refl _ _).alloc _
     have HG2 := Lib.hid (hm2.keep HG.out)
     have HM2 := Lib.hid (HM.out.thenNil hm2)
     have hggv : g < gv := by have := heap_lt HG.out; omega
     rw [hgv]
     clear hw2 hm2 hgv HM HG
     obtain ⟨i0, hi0, hz0, hz1, hz2⟩ := info_parts info_u32
     have hsz : (Tryz.prog.info? 72).map (·.size) = some 1 := by rw [hi0]; simp [hz1]
     have hsrc : ∀ j y, (wc v.list)[j]? = some y → w2.cell? ((⟨hb, 0, none⟩ : Addr).add j) = some y := fun j y hj => by
      have h2 : (⟨hb, 0, none⟩ : Addr).add j = ⟨hb, j, none⟩ := by unfold Addr.add; split <;> simp_all
      rw [h2, cell_of (HM2.out.keep HH.out), List.getElem?_toArray]
      exact hj
     have hcp := run_copy_row (P := Tryz.prog) w2 173 173 3 72 gv 0 8 8 ⟨hb, 0, none⟩ 8 8 (List.replicate 8 (Value.int .u32 0)).toArray 82 (wc v.list) Tryz.underlying173 hsz HGV.out rfl hsrc (Nat.le_refl 8) (wc_one _)
     rw [show (List.replicate 8 (Value.int .u32 0)).toArray.toList.take 0 ++ wc v.list ++ (List.replicate 8 (Value.int .u32 0)).toArray.toList.drop (0 + (wc v.list).length) = wc v.list from by simp [wc, V8.list], show goInt (wc v.list).length = .int .i64 8 from rfl] at hcp
     have HGV3 : Hid ((w2.setRow gv (wc v.list).toArray).heap[gv]? = some (.cells (wc v.list).toArray 82 (0, 0))) := Lib.hid (setRow_heap w2 gv _ _ _ _ HGV.out)
     have HG3 : Hid ((w2.setRow gv (wc v.list).toArray).heap[g]? = some (.cells (wc ws).toArray 81 (0, 0))) := Lib.hid ((setRow_other w2 gv g _ (by omega)).trans HG2.out)
     have HM3 : Hid (Mod nil w (w2.setRow gv (wc v.list).toArray)) := Lib.hid ⟨HM2.out.os, HM2.out.tape, HM2.out.output, by simpa [World.setRow] using HM2.out.size, fun k hk h => (setRow_other w2 gv k _ (by have := HGB.out; omega)).trans (HM2.out.block k hk h)⟩
     generalize w2.setRow gv (wc v.list).toArray = w3 at hcp HGV3 HG3 HM3
     have HCP := Lib.hid hcp
     clear hcp hsrc hi0 hz0 hz1 hz2 hsz HG2 HM2 HGV
     go_upto_region 12 with (fail)
     rw [HCP.out]
     simp only [Result.andThen_ok]
     clear HCP
     go_wp2_with fail
     go_loopw [12] (fun v12 wx => ∃ i : Nat, i ≤ 64 ∧ v12 = .int .i64 i ∧ Hid (wx.heap[gv]? = some (.cells (wc (rounds kTab ws v i).list).toArray 82 (0, 0))) ∧ Hid (wx.heap[g]? = some (.cells (wc ws).toArray 81 (0, 0))) ∧ Hid (Mod nil w wx)) (fun v _ => 64 - (intOf v).toNat)
     case atStart => exact ⟨0, by omega, rfl, HGV3, HG3, HM3⟩
     case round =>
      obtain ⟨i, hi, rfl, HGX, HWX, HMX⟩ := hrel
      clear HGV3 HG3 HM3
      by_cases hlt : i < 64
      ·have hbi : decide ((i : Int) < 64) = true := by simp; omega
       have hib : (i : Int) < 64 := by omega
       obtain ⟨r, hr⟩ : ∃ r, rounds kTab ws v i = r := ⟨_, rfl⟩
       obtain ⟨k, hk⟩ : ∃ k, kTab.getD i 0 = k := ⟨_, rfl⟩
       obtain ⟨x, hx⟩ : ∃ x, ws.getD i 0 = x := ⟨_, rfl⟩
       have hnext : rounds kTab ws v (i + 1) = roundV r k x := by rw [rounds, hr, hk, hx]
       rw [hr] at HGX
       have HNEXT := Lib.hid hnext
       have qx := wc_cell HWX.out i (by rw [HWL.out]; exact hlt)
       have qk := wc_cell (HMX.out.keep HK.out) i (by rw [kTab_length]; exact hlt)
       rw [hx] at qx
       rw [hk] at qk
       clear hr hk hx hnext
       obtain ⟨ra, rb, rc, rd, re, rf, rg, rh⟩ := r
       have q0 := wc_cell HGX.out 0 (by simp [V8.list])
       have q1 := wc_cell HGX.out 1 (by simp [V8.list])
       have q2 := wc_cell HGX.out 2 (by simp [V8.list])
       have q3 := wc_cell HGX.out 3 (by simp [V8.list])
       have q4 := wc_cell HGX.out 4 (by simp [V8.list])
       have q5 := wc_cell HGX.out 5 (by simp [V8.list])
       have q6 := wc_cell HGX.out 6 (by simp [V8.list])
       have q7 := wc_cell HGX.out 7 (by simp [V8.list])
       simp only [V8.list, List.getD_cons_zero, List.getD_cons_succ] at q0 q1 q2 q3 q4 q5 q6 q7
       have HCELL : Hid (∀ n : Nat, ((wr.drewN n).cell? ⟨gv, 0, none⟩ = some (.int .u32 (u ra)) ∧ (wr.drewN n).cell? ⟨gv, 1, none⟩ = some (.int .u32 (u rb)) ∧ (wr.drewN n).cell? ⟨gv, 2, none⟩ = some (.int .u32 (u rc)) ∧ (wr.drewN n).cell? ⟨gv, 3, none⟩ = some (.int .u32 (u rd)) ∧ (wr.drewN n).cell? ⟨gv, 4, none⟩ = some (.int .u32 (u re)) ∧ (wr.drewN n).cell? ⟨gv, 5, none⟩ = some (.int .u32 (u rf)) ∧ (wr.drewN n).cell? ⟨gv, 6, none⟩ = some (.int .u32 (u rg)) ∧ (wr.drewN n).cell? ⟨gv, 7, none⟩ = some (.int .u32 (u rh)) ∧ (wr.drewN n).cell? ⟨g, i, none⟩ = some (.int .u32 (u x)) ∧ (wr.drewN n).cell? ⟨kb, i, none⟩ = some (.int .u32 (u k)))) := Lib.hid (fun n => ⟨q0, q1, q2, q3, q4, q5, q6, q7, qx, qk⟩)
       go_upto_region 15 with (fail)
       go_quiet (fail)
       generalize hd : wr.drewN _ = w4
       have HGX4 : Hid (w4.heap[gv]? = some (.cells (wc [ra, rb, rc, rd, re, rf, rg, rh]).toArray 82 (0, 0))) := Lib.hid (by rw [← hd]; exact HGX.out)
       have HWX4 : Hid (w4.heap[g]? = some (.cells (wc ws).toArray 81 (0, 0))) := Lib.hid (by rw [← hd]; exact HWX.out)
       have HMX4 : Hid (Mod nil w w4) := Lib.hid (by rw [← hd]; exact HMX.out.drewN _)
       replace q0 : w4.cell? ⟨gv, 0, none⟩ = some (.int .u32 (u ra)) := by rw [← hd]; exact q0
       replace q1 : w4.cell? ⟨gv, 1, none⟩ = some (.int .u32 (u rb)) := by rw [← hd]; exact q1
       replace q2 : w4.cell? ⟨gv, 2, none⟩ = some (.int .u32 (u rc)) := by rw [← hd]; exact q2
       replace q3 : w4.cell? ⟨gv, 3, none⟩ = some (.int .u32 (u rd)) := by rw [← hd]; exact q3
       replace q4 : w4.cell? ⟨gv, 4, none⟩ = some (.int .u32 (u re)) := by rw [← hd]; exact q4
       replace q5 : w4.cell? ⟨gv, 5, none⟩ = some (.int .u32 (u rf)) := by rw [← hd]; exact q5
       replace q6 : w4.cell? ⟨gv, 6, none⟩ = some (.int .u32 (u rg)) := by rw [← hd]; exact q6
       replace q7 : w4.cell? ⟨gv, 7, none⟩ = some (.int .u32 (u rh)) := by rw [← hd]; exact q7
       replace qx : w4.cell? ⟨g, i, none⟩ = some (.int .u32 (u x)) := by rw [← hd]; exact qx
       replace qk : w4.cell? ⟨kb, i, none⟩ = some (.int .u32 (u k)) := by rw [← hd]; exact qk
       clear hd HCELL
       have hnx : ∀ (n : Int) (w : World), (Op.unary .xor (.int .u32 n)).run Tryz.prog w = .ok (.int .u32 (bits .xor .u32 4294967295 n)) w := fun _ _ => rfl
       have f1 := u_xor (ror re 6) (ror re 11)
       have f2 := u_xor (ror re 6 ^^^ ror re 11) (ror re 25)
       rw [← bigS1] at f2
       have n1 := u_and re rf
       have n2 := u_notw re
       have n2' := u_not re
       have n3 := u_and (~~~re) rg
       have n4 := u_xor (re &&& rf) (~~~re &&& rg)
       have a1 := u_addw rh (bigS1 re)
       have a2 := u_addw (rh + bigS1 re) ((re &&& rf) ^^^ (~~~re &&& rg))
       have a3 := u_addw (rh + bigS1 re + ((re &&& rf) ^^^ (~~~re &&& rg))) k
       have a4 : IntKind.u32.wrap (u (rh + bigS1 re + ((re &&& rf) ^^^ (~~~re &&& rg)) + k) + u x) = u (oneV ⟨ra, rb, rc, rd, re, rf, rg, rh⟩ k x) := u_addw _ _
       have b1 := u_add rh (bigS1 re)
       have b2 := u_add (rh + bigS1 re) ((re &&& rf) ^^^ (~~~re &&& rg))
       have b3 := u_add (rh + bigS1 re + ((re &&& rf) ^^^ (~~~re &&& rg))) k
       have b4 : (u (rh + bigS1 re + ((re &&& rf) ^^^ (~~~re &&& rg)) + k) + u x) % 4294967296 = u (oneV ⟨ra, rb, rc, rd, re, rf, rg, rh⟩ k x) := u_add _ _
       go_upto_region 16 with (fail)
       go_quiet (first | (go_at_call 132; exact Calls.quiet_of_same (refTurnQ _ _ (by omega) (by omega) _)))
       generalize hd : w4.drewN _ = w5
       have HGX5 : Hid (w5.heap[gv]? = some (.cells (wc [ra, rb, rc, rd, re, rf, rg, rh]).toArray 82 (0, 0))) := Lib.hid (by rw [← hd]; exact HGX4.out)
       have HWX5 : Hid (w5.heap[g]? = some (.cells (wc ws).toArray 81 (0, 0))) := Lib.hid (by rw [← hd]; exact HWX4.out)
       have HMX5 : Hid (Mod nil w w5) := Lib.hid (by rw [← hd]; exact HMX4.out.drewN _)
       clear hd
       clear q0 q1 q2 q3 q4 q5 q6 q7 qx qk f1 f2 n1 n2 n2' n3 n4 a1 a2 a3 a4 b1 b2 b3 b4 hnx
       have q0 : w5.cell? ⟨gv, 0, none⟩ = some (.int .u32 (u ra)) := wc_cell HGX5.out 0 (by simp)
       have q1 : w5.cell? ⟨gv, 1, none⟩ = some (.int .u32 (u rb)) := wc_cell HGX5.out 1 (by simp)
       have q2 : w5.cell? ⟨gv, 2, none⟩ = some (.int .u32 (u rc)) := wc_cell HGX5.out 2 (by simp)
       have q3 : w5.cell? ⟨gv, 3, none⟩ = some (.int .u32 (u rd)) := wc_cell HGX5.out 3 (by simp)
       have q4 : w5.cell? ⟨gv, 4, none⟩ = some (.int .u32 (u re)) := wc_cell HGX5.out 4 (by simp)
       have q5 : w5.cell? ⟨gv, 5, none⟩ = some (.int .u32 (u rf)) := wc_cell HGX5.out 5 (by simp)
       have q6 : w5.cell? ⟨gv, 6, none⟩ = some (.int .u32 (u rg)) := wc_cell HGX5.out 6 (by simp)
       have q7 : w5.cell? ⟨gv, 7, none⟩ = some (.int .u32 (u rh)) := wc_cell HGX5.out 7 (by simp)
       have f1 := u_xor (ror ra 2) (ror ra 13)
       have f2 := u_xor (ror ra 2 ^^^ ror ra 13) (ror ra 22)
       rw [← bigS0] at f2
       have n1 := u_and ra rb
       have n2 := u_and ra rc
       have n3 := u_xor (ra &&& rb) (ra &&& rc)
       have n4 := u_and rb rc
       have n5 := u_xor ((ra &&& rb) ^^^ (ra &&& rc)) (rb &&& rc)
       have n6 : IntKind.u32.wrap (u (bigS0 ra) + u (((ra &&& rb) ^^^ (ra &&& rc)) ^^^ (rb &&& rc))) = u (twoV ⟨ra, rb, rc, rd, re, rf, rg, rh⟩) := u_addw _ _
       have n7 : (u (bigS0 ra) + u (((ra &&& rb) ^^^ (ra &&& rc)) ^^^ (rb &&& rc))) % 4294967296 = u (twoV ⟨ra, rb, rc, rd, re, rf, rg, rh⟩) := u_add _ _
       obtain ⟨one, hone⟩ : ∃ one, oneV ⟨ra, rb, rc, rd, re, rf, rg, rh⟩ k x = one := ⟨_, rfl⟩
       obtain ⟨two, htwo⟩ : ∃ two, twoV ⟨ra, rb, rc, rd, re, rf, rg, rh⟩ = two := ⟨_, rfl⟩
       rw [htwo] at n6 n7
       have hlist : (roundV ⟨ra, rb, rc, rd, re, rf, rg, rh⟩ k x).list = [one + two, ra, rb, rc, rd + one, re, rf, rg] := by rw [← hone, ← htwo]; rfl
       have HLIST := Lib.hid hlist
       have HONE := Lib.hid hone
       rw [hone]
       clear hlist hone htwo
       go_upto_region 17 with (fail)
       go_quiet (first | (go_at_call 132; exact Calls.quiet_of_same (refTurnQ _ _ (by omega) (by omega) _)))
       generalize hd : w5.drewN _ = w6
       have HGX6 : Hid (w6.heap[gv]? = some (.cells (wc [ra, rb, rc, rd, re, rf, rg, rh]).toArray 82 (0, 0))) := Lib.hid (by rw [← hd]; exact HGX5.out)
       have HWX6 : Hid (w6.heap[g]? = some (.cells (wc ws).toArray 81 (0, 0))) := Lib.hid (by rw [← hd]; exact HWX5.out)
       have HMX6 : Hid (Mod nil w w6) := Lib.hid (by rw [← hd]; exact HMX5.out.drewN _)
       clear hd
       clear q0 q1 q2 q3 q4 q5 q6 q7 f1 f2 n1 n2 n3 n4 n5 n6 n7
       have q0 : w6.cell? ⟨gv, 0, none⟩ = some (.int .u32 (u ra)) := wc_cell HGX6.out 0 (by simp)
       have q1 : w6.cell? ⟨gv, 1, none⟩ = some (.int .u32 (u rb)) := wc_cell HGX6.out 1 (by simp)
       have q2 : w6.cell? ⟨gv, 2, none⟩ = some (.int .u32 (u rc)) := wc_cell HGX6.out 2 (by simp)
       have q3 : w6.cell? ⟨gv, 3, none⟩ = some (.int .u32 (u rd)) := wc_cell HGX6.out 3 (by simp)
       have q4 : w6.cell? ⟨gv, 4, none⟩ = some (.int .u32 (u re)) := wc_cell HGX6.out 4 (by simp)
       have q5 : w6.cell? ⟨gv, 5, none⟩ = some (.int .u32 (u rf)) := wc_cell HGX6.out 5 (by simp)
       have q6 : w6.cell? ⟨gv, 6, none⟩ = some (.int .u32 (u rg)) := wc_cell HGX6.out 6 (by simp)
       have q7 : w6.cell? ⟨gv, 7, none⟩ = some (.int .u32 (u rh)) := wc_cell HGX6.out 7 (by simp)
       have a1 : (u one + u two) % 4294967296 = u (one + two) := u_add _ _
       have a2 : (u rd + u one) % 4294967296 = u (rd + one) := u_add _ _
       have h8 := set_cells8 (show w6.heap[gv]? = some (.cells #[.int .u32 (u ra), .int .u32 (u rb), .int .u32 (u rc), .int .u32 (u rd), .int .u32 (u re), .int .u32 (u rf), .int .u32 (u rg), .int .u32 (u rh)] 82 (0, 0)) from HGX6.out) (.int .u32 (u (one + two))) (.int .u32 (u ra)) (.int .u32 (u rb)) (.int .u32 (u rc)) (.int .u32 (u (rd + one))) (.int .u32 (u re)) (.int .u32 (u rf)) (.int .u32 (u rg))
       have z0 := free_of HGX6.out 0
       have z1 := free_of HGX6.out 1
       have z2 := free_of HGX6.out 2
       have z3 := free_of HGX6.out 3
       have z4 := free_of HGX6.out 4
       have z5 := free_of HGX6.out 5
       have z6 := free_of HGX6.out 6
       have z7 := free_of HGX6.out 7
       have H8 := Lib.hid h8
       clear h8
       go_wp2_with fail
       have h8 := H8.out
       generalize World.setCell (World.setCell (World.setCell (World.setCell (World.setCell (World.setCell (World.setCell (World.setCell w6 _ _) _ _) _ _) _ _) _ _) _ _) _ _) _ _ = w7 at h8 ⊢
       refine ⟨⟨i + 1, by omega, by go_num, Lib.hid (by rw [HNEXT.out, HLIST.out]; exact h8.1), Lib.hid ((h8.2.block g (heap_lt HWX6.out) (by omega)).trans HWX6.out), Lib.hid (HMX6.out.trans h8.2 (fun k hk h => by have := HGB.out; omega))⟩, by simp [intOf]; omega⟩
      ·obtain rfl : i = 64 := by omega
       simp only [Int.cast_ofNat_Int]
       obtain ⟨r, hr⟩ : ∃ r, rounds kTab ws v 64 = r := ⟨_, rfl⟩
       rw [hr] at HGX
       have hmix : mixV b v = addV v r := by rw [← hr, ← HWS.out, ← HMB.out]; rfl
       have HMIX := Lib.hid hmix
       clear hr hmix hlt hi
       have HHX := Lib.hid (HMX.out.keep HH.out)
       go_wp2_with fail
       go_loopw [17] (fun v17 wx => ∃ i : Nat, i ≤ 8 ∧ v17 = .int .i64 i ∧ Hid (wx.heap[hb]? = some (.cells (arr8 (wc v.list).toArray 0 (addV v r) i) 82 (0, 0))) ∧ Hid (wx.heap[gv]? = some (.cells (wc r.list).toArray 82 (0, 0))) ∧ Hid (Mod (· = hb) w wx)) (fun v _ => 8 - (intOf v).toNat)
       case atStart => exact ⟨0, by omega, rfl, HHX, HGX, Lib.hid HMX.out.ofNil⟩
       case round =>
        obtain ⟨i, hi, rfl, HHY, HGY, HMY⟩ := hrel
        by_cases hlt : i < 8
        ·have hbi : decide ((i : Int) < 8) = true := by simp; omega
         have hib : (i : Int) < 8 := by omega
         obtain ⟨a, ha⟩ : ∃ a, v.list.getD i 0 = a := ⟨_, rfl⟩
         obtain ⟨c, hc⟩ : ∃ c, r.list.getD i 0 = c := ⟨_, rfl⟩
         have hget := arr8_get (wc v.list).toArray 0 (addV v r) i
         have hget2 : (wc v.list).toArray[i]? = some (.int .u32 (u a)) := by rw [List.getElem?_toArray, wc_get v.list i (by simpa [V8.list] using hlt), ha]
         rw [Nat.zero_add] at hget
         have qh : wr.cell? ⟨hb, i, none⟩ = some (.int .u32 (u a)) := by rw [cell_of HHY.out]; exact hget.trans hget2
         have qv := wc_cell HGY.out i (by simpa [V8.list] using hlt)
         rw [hc] at qv
         have fr := free_of HHY.out i
         have n1 := u_addw a c
         have hsum : (addV v r).list.getD i 0 = a + c := by rw [← ha, ← hc]; exact addV_get v r i hlt
         have hst := heap_setCell_same (off := i) HHY.out (.int .u32 (u (a + c)))
         have HST : Hid ((wr.setCell ⟨hb, i, none⟩ (.int .u32 (u (a + c)))).heap[hb]? = some (.cells (arr8 (wc v.list).toArray 0 (addV v r) (i + 1)) 82 (0, 0))) := Lib.hid (by rw [hst, arr8, Nat.zero_add, hsum])
         have HMST : Hid (Mod (· = hb) w (wr.setCell ⟨hb, i, none⟩ (.int .u32 (u (a + c)))).drew) := Lib.hid ((HMY.out.setCell _ _ (fun _ => rfl)).drew)
         have HGST : Hid ((wr.setCell ⟨hb, i, none⟩ (.int .u32 (u (a + c)))).heap[gv]? = some (.cells (wc r.list).toArray 82 (0, 0))) := Lib.hid (by rw [heap_setCell_other _ (by omega)]; exact HGY.out)
         clear ha hc hsum hst hget hget2
         go_upto_region 22 with (fail)
         refine region_till (fun w' => w'.cell? ⟨hb, i, none⟩ = some (.int .u32 (u a)) ∧ w'.cell? ⟨gv, i, none⟩ = some (.int .u32 (u c))) 9 (by kernel_rfl) ?_
         refine sF 0 (fun _ => ⟨qh, qv⟩) ?_
         (try simp only [Act.put, pT])
         refine sF 1 (fun _ => ⟨qh, qv⟩) ?_
         (try simp only [Act.put, pT])
         refine sF 2 (fun _ => ⟨qh, qv⟩) ?_
         (try simp only [Act.put, pT])
         refine sT 3 (⟨qh, qv⟩) ?_
         (try simp only [Act.put, pT])
         refine sF 4 (fun _ => ⟨qh, qv⟩) ?_
         (try simp only [Act.put, pT])
         refine sF 5 (fun _ => ⟨qh, qv⟩) ?_
         (try simp only [Act.put, pT])
         refine sT 6 (⟨qh, qv⟩) ?_
         (try simp only [Act.put, pT])
         refine sF 7 (fun _ => ⟨qh, qv⟩) ?_
         (try simp only [Act.put, pT])
         refine sF 8 (fun _ => ⟨qh, qv⟩) ?_
         (try simp only [Act.put, pT])
         refine rT 9 (fun K hK => ?_)
         go_simp
         refine hK.out _ _ (fun h => (by simp at h)) ?_
         clear hK K
         (try simp only [Act.put, pT])
         refine till_done (by kernel_rfl) ?_ _
         go_wp2_with fail
         exact ⟨⟨i + 1, by omega, by go_num, HST, HGST, HMST⟩, by simp [intOf]; omega⟩
        ·obtain rfl : i = 8 := by omega
         go_wp2_with fail
         go_end0
         refine HPOST.out _ _ ⟨rfl, ?_, HMY.out⟩
         rw [HMIX.out, ← wc_arr8 v (addV v r)]
         exact HHY.out
end Go.Proofs.YtdfahddpkkeldaaGreat

/- cflref1: Put, Hash; cflref.CopyBytes. The document's hash is shaOf. -/
namespace Go.Proofs.YtdfahddpkkeldaaGreat
open Go.RowKit
theorem mixK_prefix (A B : List UInt8) (v : V8) (q : Nat) (h : 64 * q ≤ A.length) : mixK (A ++ B) v q = mixK A v q := by
 induction q with
 | zero => rfl
 | succ q ih =>
  rw [mixK, mixK, ih (by omega), List.drop_append_of_le_length (by omega), List.take_append_of_le_length (by rw [List.length_drop]; omega)]
theorem mixK_append (A B : List UInt8) (v : V8) (q k : Nat) (h : A.length = 64 * q) : mixK (A ++ B) v (q + k) = mixK B (mixK A v q) k := by
 induction k with
 | zero => exact mixK_prefix A B v q (by omega)
 | succ k ih =>
  rw [← Nat.add_assoc, mixK, mixK, ih, show 64 * (q + k) = A.length + 64 * k by omega, List.drop_length_add_append]
def allOf (m : List UInt8) : List UInt8 := (m ++ [0x80] ++ List.replicate (padZ m.length) 0) ++ layC (8 * m.length) 8 8
theorem padZ_mod (n q : Nat) : padZ (n - 64 * q) = padZ n ∨ n < 64 * q := by
 by_cases h : n < 64 * q
 ·exact .inr h
 ·left; unfold padZ; omega
theorem allOf_length (m : List UInt8) : (allOf m).length = 64 * ((m.length + 9 + padZ m.length) / 64) := (padded_length m m.length).1
theorem shaOf_eq (m : List UInt8) : shaOf m = outTo (mixK (allOf m) hV ((m.length + 9 + padZ m.length) / 64)) 8 := by
  obtain ⟨q, hq⟩ : ∃ q, m.length / 64 = q := ⟨_, rfl⟩
  have hA : (m.take (64 * q)).length = 64 * q := by rw [List.length_take]; omega
  have hr : (m.drop (64 * q)).length = m.length - 64 * q := List.length_drop
  have hp : padZ (m.drop (64 * q)).length = padZ m.length := by
    rw [hr]; rcases padZ_mod m.length q with h | h
    · exact h
    · omega
  have hall : allOf m = m.take (64 * q) ++ padded (m.drop (64 * q)) m.length := by
    unfold allOf padded
    rw [hp, ← List.append_assoc, ← List.append_assoc, ← List.append_assoc, List.take_append_drop]
  have hk : (m.length + 9 + padZ m.length) / 64 = q + ((m.drop (64 * q)).length + 9 + padZ (m.drop (64 * q)).length) / 64 := by rw [hp, hr]; omega
  have hm : mixK m hV q = mixK (m.take (64 * q)) hV q := by
    have := mixK_prefix (m.take (64 * q)) (m.drop (64 * q)) hV q (by omega)
    rwa [List.take_append_drop] at this
  unfold shaOf sumOf
  rw [hq, hall, hk, mixK_append _ _ _ _ _ hA, hm]
theorem refCopyBytes (T : Nat → Prop) (v : Value) (l : List UInt8) (w : World) (h : IsRow T w v (bys l)) (hl : l.length ≤ 140737488355328) :
  Calls Tryz.prog 34 #[v] w fun e w' => ∃ v', e = .returned v' ∧ IsVec (fun k => w.heap.size ≤ k) w' 5 1 v' l.length (bys l) ∧ Mod nil w w' := by
 have hv := vec_empty w 5 1
 have hx := h.modNil ((Mod.refl nil w).alloc (.cells #[] 5))
 obtain ⟨v', w', hrun, hvec, hmod⟩ := bytes_append (l := []) 40 hv hx (by simpa using hl)
 rw [List.nil_append] at hvec
 obtain ⟨p, c, rfl, hc⟩ := h
 rw [bys_length] at *
 have HR := Lib.hid hrun
 clear hrun hv hx
 go_enter Tryz.func34, Tryz.ntmps34
 go_wp2_with (at_builtin; refine wpList_append_run rfl _ _ _ _ rfl rfl rfl HR.out ?_)
 go_ret
 exact ⟨_, rfl, hvec.mono (fun k _ hk => by rcases hk with hk | hk; exact hk; simp at hk; omega), ((Mod.refl nil w).alloc _).new hmod (fun _ h => h)⟩
end Go.Proofs.YtdfahddpkkeldaaGreat

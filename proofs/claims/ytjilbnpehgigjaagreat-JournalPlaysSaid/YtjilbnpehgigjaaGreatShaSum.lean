/- Package sha: Sum. -/
import Derived.Test.YtjilbnpehgigjaaGreatShaWrite
import Derived.Test.YtjilbnpehgigjaaGreatOverFn
namespace Go.Proofs.YtjilbnpehgigjaaGreat
open Go.RowKit
attribute [local go_sem] Oper.semAt_some

/-- so many noughts -/
def padZ (n : Nat) : Nat := (119 - n % 64) % 64
def padded (r : List UInt8) (n : Nat) : List UInt8 := (r ++ [0x80] ++ List.replicate (padZ r.length) 0) ++ layC (8 * n) 8 8
theorem padded_length (r : List UInt8) (n : Nat) : (padded r n).length = 64 * ((r.length + 9 + padZ r.length) / 64) ∧ (padded r n).length = r.length + 9 + padZ r.length := by
  have h : (padded r n).length = r.length + 9 + padZ r.length := by simp [padded, layC_length]; omega
  refine ⟨?_, h⟩
  rw [h]
  unfold padZ
  omega
/-- the state's bytes -/
def outTo (v : V8) : Nat → List UInt8
  | 0 => []
  | i + 1 => outTo v i ++ layC (v.list.getD i 0).toNat 4 4
theorem outTo_length (v : V8) (i : Nat) : (outTo v i).length = 4 * i := by
  induction i with
  | zero => rfl
  | succ i ih => simp [outTo, ih, layC_length]; omega
def sumOf (r : List UInt8) (n : Nat) (v : V8) : List UInt8 := outTo (mixK (padded r n) v ((r.length + 9 + padZ r.length) / 64)) 8
theorem sumOf_length (r : List UInt8) (n : Nat) (v : V8) : (sumOf r n v).length = 32 := outTo_length _ 8
def lenV : Value → Nat
  | .slice _ n _ => n
  | _ => 0
theorem under8 : Tryz.prog.underlying 77 = some (.array 8 67) := Tryz.underlying77
theorem idx8_0 (va vb vc vd ve vf vg vh : BitVec 32) (w : World) : (Instr.index 77 (.agg #[.int .u32 (u va), .int .u32 (u vb), .int .u32 (u vc), .int .u32 (u vd), .int .u32 (u ve), .int .u32 (u vf), .int .u32 (u vg), .int .u32 (u vh)]) (.int .i64 0)).run Tryz.prog w = .ok (.int .u32 (u va)) w := by
  simp [Instr.index, run_underlying under8, go_sem]
theorem idx8_1 (va vb vc vd ve vf vg vh : BitVec 32) (w : World) : (Instr.index 77 (.agg #[.int .u32 (u va), .int .u32 (u vb), .int .u32 (u vc), .int .u32 (u vd), .int .u32 (u ve), .int .u32 (u vf), .int .u32 (u vg), .int .u32 (u vh)]) (.int .i64 1)).run Tryz.prog w = .ok (.int .u32 (u vb)) w := by
  simp [Instr.index, run_underlying under8, go_sem]
theorem idx8_2 (va vb vc vd ve vf vg vh : BitVec 32) (w : World) : (Instr.index 77 (.agg #[.int .u32 (u va), .int .u32 (u vb), .int .u32 (u vc), .int .u32 (u vd), .int .u32 (u ve), .int .u32 (u vf), .int .u32 (u vg), .int .u32 (u vh)]) (.int .i64 2)).run Tryz.prog w = .ok (.int .u32 (u vc)) w := by
  simp [Instr.index, run_underlying under8, go_sem]
theorem idx8_3 (va vb vc vd ve vf vg vh : BitVec 32) (w : World) : (Instr.index 77 (.agg #[.int .u32 (u va), .int .u32 (u vb), .int .u32 (u vc), .int .u32 (u vd), .int .u32 (u ve), .int .u32 (u vf), .int .u32 (u vg), .int .u32 (u vh)]) (.int .i64 3)).run Tryz.prog w = .ok (.int .u32 (u vd)) w := by
  simp [Instr.index, run_underlying under8, go_sem]
theorem idx8_4 (va vb vc vd ve vf vg vh : BitVec 32) (w : World) : (Instr.index 77 (.agg #[.int .u32 (u va), .int .u32 (u vb), .int .u32 (u vc), .int .u32 (u vd), .int .u32 (u ve), .int .u32 (u vf), .int .u32 (u vg), .int .u32 (u vh)]) (.int .i64 4)).run Tryz.prog w = .ok (.int .u32 (u ve)) w := by
  simp [Instr.index, run_underlying under8, go_sem]
theorem idx8_5 (va vb vc vd ve vf vg vh : BitVec 32) (w : World) : (Instr.index 77 (.agg #[.int .u32 (u va), .int .u32 (u vb), .int .u32 (u vc), .int .u32 (u vd), .int .u32 (u ve), .int .u32 (u vf), .int .u32 (u vg), .int .u32 (u vh)]) (.int .i64 5)).run Tryz.prog w = .ok (.int .u32 (u vf)) w := by
  simp [Instr.index, run_underlying under8, go_sem]
theorem idx8_6 (va vb vc vd ve vf vg vh : BitVec 32) (w : World) : (Instr.index 77 (.agg #[.int .u32 (u va), .int .u32 (u vb), .int .u32 (u vc), .int .u32 (u vd), .int .u32 (u ve), .int .u32 (u vf), .int .u32 (u vg), .int .u32 (u vh)]) (.int .i64 6)).run Tryz.prog w = .ok (.int .u32 (u vg)) w := by
  simp [Instr.index, run_underlying under8, go_sem]
theorem idx8_7 (va vb vc vd ve vf vg vh : BitVec 32) (w : World) : (Instr.index 77 (.agg #[.int .u32 (u va), .int .u32 (u vb), .int .u32 (u vc), .int .u32 (u vd), .int .u32 (u ve), .int .u32 (u vf), .int .u32 (u vg), .int .u32 (u vh)]) (.int .i64 7)).run Tryz.prog w = .ok (.int .u32 (u vh)) w := by
  simp [Instr.index, run_underlying under8, go_sem]
theorem e80 : ((0x80 : UInt8).toNat : Int) = 128 := rfl
theorem e00 : ((0 : UInt8).toNat : Int) = 0 := rfl
theorem pad_succ (r : List UInt8) (z : Nat) : r ++ [0x80] ++ List.replicate (z + 1) (0 : UInt8) = (r ++ [0x80] ++ List.replicate z 0) ++ [0] := by rw [List.replicate_succ', List.append_assoc, List.append_assoc, List.append_assoc]
theorem wc_arr8 (v r : V8) : arr8 (wc v.list).toArray 0 r 8 = (wc r.list).toArray := by
  simp [arr8, V8.list, wc, List.getD]
/-- the state behind some of the chunks -/
def stF {N : Nat} (A : List UInt8) (v : V8) (pre : List (Fin N)) : V8 := pre.foldl (fun v x => mixV ((A.drop (64 * x.val)).take 64) v) v
theorem stF_snoc {N : Nat} (A : List UInt8) (v : V8) (pre : List (Fin N)) (x : Fin N) : stF A v (pre ++ [x]) = mixV ((A.drop (64 * x.val)).take 64) (stF A v pre) := by simp [stF]
theorem stF_map {N : Nat} (A : List UInt8) (v : V8) (pre : List (Fin N)) : stF A v pre = (pre.map (·.val)).foldl (fun v x => mixV ((A.drop (64 * x)).take 64) v) v := by simp [stF, List.foldl_map]
theorem range_mixK (A : List UInt8) (v : V8) (k : Nat) : (List.range k).foldl (fun v x => mixV ((A.drop (64 * x)).take 64) v) v = mixK A v k := by
  induction k with
  | zero => rfl
  | succ k ih => rw [List.range_succ, List.foldl_append, ih]; rfl
set_option maxRecDepth 100000 in
set_option maxHeartbeats 1000000 in
theorem shaSum (b tb : Nat) (v : V8) (S : Nat → Prop) (rv : Value) (r : List UInt8) (n : Nat) (w : World) (hh : IsHash w b tb v rv n) (hvec : IsVec S w 5 1 rv r.length (bys r)) (hne : tb ≠ b) (ht : IsTab w tb) (hr : r.length ≤ 1099511627000) (hn : n ≤ 1099511627776) :
    Calls Tryz.prog 81 #[.pointer (some ⟨b, 0, none⟩)] w fun e w' => ∃ v', e = .returned v' ∧ IsVec (fun k => w.heap.size ≤ k) w' 5 1 v' 32 (bys (sumOf r n v)) ∧ IsTab w' tb ∧ Mod (· = tb) w w' := by
  refine (?_ : ∀ Post : Ending → World → Prop, Hid (∀ e w', (∃ v', e = .returned v' ∧ IsVec (fun k => w.heap.size ≤ k) w' 5 1 v' 32 (bys (sumOf r n v)) ∧ IsTab w' tb ∧ Mod (· = tb) w w') → Post e w') → Calls Tryz.prog 81 #[.pointer (some ⟨b, 0, none⟩)] w Post) _ (Lib.hid (fun _ _ h => h))
  intro Post HPOST
  have HH := Lib.hid hh
  have HV := Lib.hid hvec
  have HT := Lib.hid ht
  clear hh hvec ht
  refine calls_over Tryz.func81 rfl ?_
  simp only [Tryz.ntmps81, List.size_toArray, List.length_cons, List.length_nil, Nat.reduceAdd, Nat.reduceSub, Array.replicate_succ, Array.replicate_zero, List.push_toArray, List.append_toArray, List.nil_append, List.cons_append]
  go_upto_region 1 with (fail)
  obtain ⟨hx, hhx⟩ : ∃ hx, w.heap.size = hx := ⟨_, rfl⟩
  generalize hw1 : w.alloc _ = w1
  have HBX1 : Hid (w1.heap[hx]? = some (.cells #[.pointer (some ⟨b, 0, none⟩)] 125 (0, 0))) := Lib.hid (by rw [← hw1, ← hhx, heap_alloc_new])
  have hm1 : Mod nil w w1 := by rw [← hw1]; exact (Mod.refl _ _).alloc _
  have hs1 : w1.heap.size = hx + 1 := by rw [← hw1, ← hhx]; simp
  have HM1 := Lib.hid hm1
  have hh1 := hm1.keep HH.out
  have q1 := (cell_of hh1 1).trans (hash_h _ _ _ _ 0 (by simp [V8.list]))
  have q2 := (cell_of hh1 2).trans (hash_h _ _ _ _ 1 (by simp [V8.list]))
  have q3 := (cell_of hh1 3).trans (hash_h _ _ _ _ 2 (by simp [V8.list]))
  have q4 := (cell_of hh1 4).trans (hash_h _ _ _ _ 3 (by simp [V8.list]))
  have q5 := (cell_of hh1 5).trans (hash_h _ _ _ _ 4 (by simp [V8.list]))
  have q6 := (cell_of hh1 6).trans (hash_h _ _ _ _ 5 (by simp [V8.list]))
  have q7 := (cell_of hh1 7).trans (hash_h _ _ _ _ 6 (by simp [V8.list]))
  have q8 := (cell_of hh1 8).trans (hash_h _ _ _ _ 7 (by simp [V8.list]))
  have c0 := cell_of HBX1.out 0
  simp only [List.getElem?_toArray, List.getElem?_cons_zero] at c0
  have HZ : Hid (w.heap.size = hx) := Lib.hid hhx
  rw [hhx]
  clear hw1 hhx hm1 hh1
  go_upto_region 2 with (fail)
  clear q1 q2 q3 q4 q5 q6 q7 q8 c0
  generalize hw2 : w1.alloc _ = w2
  have HSB2 : Hid (w2.heap[hx + 1]? = some (.cells (wc v.list).toArray 77 (0, 0))) := Lib.hid (by rw [← hw2, ← hs1, heap_alloc_new]; rfl)
  have hm2 : Mod nil w1 w2 := by rw [← hw2]; exact (Mod.refl _ _).alloc _
  have HBX2 := Lib.hid (hm2.keep HBX1.out)
  have HM2 := Lib.hid (HM1.out.thenNil hm2)
  have hs2 : w2.heap.size = hx + 2 := by rw [← hw2]; simp [hs1]
  clear hw2 hm2 HBX1 HM1 hs1
  have q9 := (cell_of (HM2.out.keep HH.out) 9).trans (hash_rest _ _ _ _)
  have c0 := cell_of HBX2.out 0
  simp only [List.getElem?_toArray, List.getElem?_cons_zero] at c0
  go_wp2_with fail
  refine (cloneBytes S rv r w2 ((HV.out.modNil HM2.out).row) (by omega)).mono ?_
  rintro e w3 ⟨v3, rfl, hv3, hm3⟩
  have HM3 := Lib.hid (HM2.out.thenNil hm3)
  have HSB3 := Lib.hid (hm3.keep HSB2.out)
  have HBX3 := Lib.hid (hm3.keep HBX2.out)
  have hs3 := hm3.size
  rw [hs2] at hs3
  have hm4 : Mod nil w3 (w3.alloc (.cells #[.int .u8 (0x80 : UInt8).toNat] 5)) := (Mod.refl _ _).alloc _
  obtain ⟨v4, w4, hrun4, hv4, hmod4⟩ := bytes_append (l := r) (m := [0x80]) 22 (hv3.modNil hm4) (row_one 0x80 _ rfl) (by simp; omega)
  have HM4 := Lib.hid ((HM3.out.thenNil hm4).trans hmod4 (fun k hk h => by have := HM2.out.size; omega))
  have hs43 := hm4.size
  have HSB4 := Lib.hid ((hmod4.block (hx + 1) (by omega) (by omega)).trans (hm4.keep HSB3.out))
  have HBX4 := Lib.hid ((hmod4.block hx (by omega) (by omega)).trans (hm4.keep HBX3.out))
  have hs4 := hmod4.size
  obtain ⟨R, hR⟩ : ∃ R, r.length = R := ⟨_, rfl⟩
  rw [show (r ++ [(0x80 : UInt8)]).length = R + 1 by simp [hR]] at hv4
  rw [hR] at hv3 hr
  obtain ⟨p3, c3, rfl⟩ := hv3.form
  obtain ⟨p4, c4, rfl⟩ := hv4.form
  rw [e80] at hrun4
  have HRUN4 := Lib.hid hrun4
  have hw2s := hs2
  have HV4 : Hid (IsVec (fun k => hx + 2 ≤ k) w4 5 1 (.slice p4 (R + 1) c4) (R + 1) (bys (r ++ [0x80] ++ List.replicate 0 0))) := Lib.hid (by
    rw [List.replicate_zero, List.append_nil]
    exact hv4.mono (fun k _ hk => hk.elim (fun h => by omega) (fun h => by have := hm4.size; omega)))
  obtain ⟨Z, hZ⟩ : ∃ Z, padZ R = Z := ⟨_, rfl⟩
  have hZ1 : (R + 1 + Z) % 64 = 56 := by rw [← hZ]; unfold padZ; omega
  have hZ2 : Z < 64 := by rw [← hZ]; unfold padZ; omega
  have HRL := Lib.hid hR
  have HZZ := Lib.hid hZ
  clear hv3 hm3 hm4 hrun4 hv4 hmod4 hR hZ q9 c0 hs2 HM3 HSB3 HBX3 HSB2 HBX2 HM2
  go_wp2_with (first | (at_builtin; refine wpList_append_run rfl _ _ _ _ rfl rfl rfl HRUN4.out ?_))
  clear HRUN4
  go_loopw [4] (fun v4 wr => ∃ (z l : Nat) (p : Option Addr) (c : Nat), z ≤ Z ∧ l = R + 1 + z ∧ v4 = .slice p l c ∧ Hid (IsVec (fun k => hx + 2 ≤ k) wr 5 1 (.slice p l c) l (bys (r ++ [0x80] ++ List.replicate z 0))) ∧ Hid (Mod nil w wr) ∧ Hid (wr.heap[hx]? = some (.cells #[.pointer (some ⟨b, 0, none⟩)] 125 (0, 0))) ∧ Hid (wr.heap[hx + 1]? = some (.cells (wc v.list).toArray 77 (0, 0))) ∧ hx + 2 ≤ wr.heap.size) (fun v4 _ => R + 1 + Z - lenV v4)
  case atStart => exact ⟨0, R + 1, p4, c4, by omega, rfl, rfl, HV4, HM4, HBX4, HSB4, by omega⟩
  case round =>
    obtain ⟨z, l, p, c, hz, hl, rfl, HVR, HMR, HBR, HSR, hsr⟩ := hrel
    clear HV4 HM4 HBX4 HSB4
    by_cases hlt : z < Z
    · have hb : ((l : Int) % 64 != 56) = true := by simp; omega
      have hm5 : Mod nil wr (wr.alloc (.cells #[.int .u8 (0 : UInt8).toNat] 5)) := (Mod.refl _ _).alloc _
      have hbl : (r ++ [0x80] ++ List.replicate z (0 : UInt8)).length = l := by have := HRL.out; simp; omega
      have hvr := HVR.out.modNil hm5
      have hvr' : IsVec (fun k => hx + 2 ≤ k) (wr.alloc (.cells #[.int .u8 (0 : UInt8).toNat] 5)) 5 1 (.slice p l c) (r ++ [0x80] ++ List.replicate z (0 : UInt8)).length (bys (r ++ [0x80] ++ List.replicate z 0)) := by rw [hbl]; exact hvr
      obtain ⟨v6, w6, hrun6, hv6, hmod6⟩ := bytes_append (l := r ++ [0x80] ++ List.replicate z 0) (m := [0]) 22 hvr' (row_one 0 _ rfl) (by rw [hbl]; simp; omega)
      have hlen6 : (r ++ [0x80] ++ List.replicate (z + 1) (0 : UInt8)).length = l + 1 := by have := HRL.out; simp; omega
      rw [← pad_succ r z, hlen6] at hv6
      clear hlen6
      obtain ⟨p6, c6, rfl⟩ := hv6.form
      rw [e00] at hrun6
      have HRUN6 := Lib.hid hrun6
      have HV6 : Hid (IsVec (fun k => hx + 2 ≤ k) w6 5 1 (.slice p6 (l + 1) c6) (l + 1) (bys (r ++ [0x80] ++ List.replicate (z + 1) 0))) := Lib.hid (hv6.mono (fun k _ hk => hk.elim id (fun h => by have := hm5.size; omega)))
      have hm7 : Mod (fun k => hx + 2 ≤ k) wr w6 := (hm5.ofNil).trans hmod6 (fun _ _ h => h)
      have HM6 : Hid (Mod nil w w6) := Lib.hid (HMR.out.trans hm7 (fun k hk h => by have := HZ.out; omega))
      have HB6 : Hid (w6.heap[hx]? = some (.cells #[.pointer (some ⟨b, 0, none⟩)] 125 (0, 0))) := Lib.hid ((hm7.block hx (by omega) (by omega)).trans HBR.out)
      have HS6 : Hid (w6.heap[hx + 1]? = some (.cells (wc v.list).toArray 77 (0, 0))) := Lib.hid ((hm7.block (hx + 1) (by omega) (by omega)).trans HSR.out)
      have hs6 := hm7.size
      have HLZ := Lib.hid hl
      have HZ1 := Lib.hid hZ1
      have hlb : l ≤ 1099511627776 := by omega
      clear hm5 hbl hvr hvr' hrun6 hv6 hmod6 hm7 hl hZ1
      go_wp2_with (first | (at_builtin; refine wpList_append_run rfl _ _ _ _ rfl rfl rfl HRUN6.out ?_))
      exact ⟨⟨z + 1, l + 1, p6, c6, by omega, by have := HLZ.out; omega, rfl, HV6, HM6, HB6, HS6, by omega⟩, by have := HLZ.out; simp [lenV]; omega⟩
    · obtain rfl : z = Z := by omega
      have hb : ((l : Int) % 64 != 56) = false := by simp; omega
      obtain ⟨n8, h8⟩ : ∃ n8, 8 * n = n8 := ⟨_, rfl⟩
      have h8i : 8 * (n : Int) = (n8 : Int) := by omega
      have h8b : n8 < 18446744073709551616 := by omega
      have q10 := (cell_of (HMR.out.keep HH.out) 10).trans (hash_n _ _ _ _)
      have c0 := cell_of HBR.out 0
      simp only [List.getElem?_toArray, List.getElem?_cons_zero] at c0
      have hbl : (r ++ [0x80] ++ List.replicate z (0 : UInt8)).length = l := by have := HRL.out; simp; omega
      have HLY := Lib.hid (shaLays (fun k => hx + 2 ≤ k) (.slice p l c) (r ++ [0x80] ++ List.replicate z 0) n8 8 wr (by rw [hbl]; exact HVR.out) h8b (by omega) (by rw [hbl]; omega))
      have hpl := padded_length r n
      obtain ⟨A, hA⟩ : ∃ A, padded r n = A := ⟨_, rfl⟩
      have hAe : (r ++ [0x80] ++ List.replicate z (0 : UInt8)) ++ layC n8 8 8 = A := by rw [← hA, ← h8, padded, HRL.out, HZZ.out]
      rw [hAe] at HLY
      rw [hA, HRL.out, HZZ.out] at hpl
      obtain ⟨L, hL⟩ : ∃ L, A.length = L := ⟨_, rfl⟩
      rw [hL] at HLY hpl
      have HAE := Lib.hid hA
      have HAL := Lib.hid hL
      have HPL := Lib.hid hpl
      have HLZ := Lib.hid hl
      have HZ1 := Lib.hid hZ1
      have hlb : l ≤ 1099511627776 := by omega
      clear hbl hAe hA hL h8 hpl hl hZ1
      go_wp2_with fail
      refine HLY.out.mono ?_
      rintro e w8 ⟨v8, rfl, hv8, hm8⟩
      obtain ⟨p8, c8, rfl⟩ := hv8.form
      have hLpos : 64 ≤ L := by have := HPL.out; omega
      have hL64 : 64 * (L / 64) = L := by have := HPL.out; omega
      obtain ⟨g, rfl, hLc⟩ : ∃ g, p8 = some ⟨g, 0, none⟩ ∧ L ≤ c8 := by
        rcases vec_form1 hv8 with ⟨_, h0⟩ | ⟨g, c', he, hc'⟩
        · omega
        · simp only [Value.slice.injEq] at he
          obtain ⟨rfl, -, rfl⟩ := he
          exact ⟨g, rfl, hc'⟩
      have hrowA : ∀ i, i < L → w8.cell? ⟨g, i, none⟩ = some (.int .u8 (A.getD i 0).toNat) := fun i hi => by
        obtain ⟨p', c', hp, hcc⟩ := hv8.cells
        obtain ⟨b', o', hp', _, _, hx'⟩ := hcc i (by rw [bys_length, HAL.out]; exact hi)
        simp only [Value.slice.injEq] at hp
        obtain ⟨rfl, -, -⟩ := hp
        simp only [Option.some.injEq, Addr.mk.injEq, and_true] at hp'
        obtain ⟨rfl, rfl⟩ := hp'
        rw [Nat.zero_add] at hx'
        rw [hx', bys_getD _ _ (by rw [HAL.out]; exact hi)]
      have hgx : hx + 2 ≤ g := by have := hv8.2 g rfl; omega
      have hs8 := hm8.size
      have HM8 : Hid (Mod nil w w8) := Lib.hid (HMR.out.trans hm8 (fun k hk h => by have := HZ.out; omega))
      have HB8 : Hid (w8.heap[hx]? = some (.cells #[.pointer (some ⟨b, 0, none⟩)] 125 (0, 0))) := Lib.hid ((hm8.block hx (by omega) (by omega)).trans HBR.out)
      have HS8 : Hid (w8.heap[hx + 1]? = some (.cells (wc v.list).toArray 77 (0, 0))) := Lib.hid ((hm8.block (hx + 1) (by omega) (by omega)).trans HSR.out)
      have HRA := Lib.hid hrowA
      have hgl : g < w8.heap.size := World.block_lt_of_cell? _ _ (hrowA 0 (by omega))
      clear hv8 hm8 hrowA q10 c0 HLY
      go_wp2_with fail
      refine (chunk_call (some ⟨g, 0, none⟩) L c8 64 (by omega) w8).mono ?_
      obtain ⟨gs, hgs⟩ : ∃ gs, w8.heap.size = gs := ⟨_, rfl⟩
      rw [hgs]
      rintro e w9 ⟨rfl, hw9⟩
      have hs9 : w9.heap.size = gs + 2 := by rw [hw9]; simp [hgs]
      have hm9 : Mod nil w8 w9 := by rw [hw9]; exact ((Mod.refl _ _).alloc _).alloc _
      have hBs : w9.cell? ⟨gs, 0, none⟩ = some (.slice (some ⟨g, 0, none⟩) L c8) := by
        have h : (w8.alloc (.cells #[.slice (some ⟨g, 0, none⟩) L c8] 22)).heap[gs]? = some (.cells #[.slice (some ⟨g, 0, none⟩) L c8] 22 (0, 0)) := by rw [← hgs]; exact heap_alloc_new _ _
        rw [hw9]
        exact cell_of (heap_alloc_old h) 0
      have hBn : w9.cell? ⟨gs + 1, 0, none⟩ = some (.int .i64 (64 : Nat)) := by
        rw [hw9]
        exact cell_of (show ((w8.alloc (.cells #[.slice (some ⟨g, 0, none⟩) L c8] 22)).alloc (.cells #[.int .i64 (64 : Nat)] 3)).heap[gs + 1]? = _ from by
          have := heap_alloc_new (w8.alloc (.cells #[.slice (some ⟨g, 0, none⟩) L c8] 22)) (.cells #[.int .i64 (64 : Nat)] 3)
          rw [World.size_alloc, hgs] at this
          exact this) 0
      clear hw9
      have HM9 := Lib.hid (HM8.out.thenNil hm9)
      have HB9 := Lib.hid (hm9.keep HB8.out)
      have HS9 := Lib.hid (hm9.keep HS8.out)
      have HRA9 : Hid (∀ i, i < L → w9.cell? ⟨g, i, none⟩ = some (.int .u8 (A.getD i 0).toNat)) := Lib.hid (fun i hi => cell_kept (HRA.out i hi) hm9 hgl (not_nil _))
      have htb : tb < hx := by have := HT.out.lt; have := HZ.out; omega
      have hbb : b < hx := by have := heap_lt HH.out; have := HZ.out; omega
      have hgg : g < gs := by omega
      have hxg : hx + 2 ≤ gs := by omega
      have HHR9 := Lib.hid (HM9.out.keep HH.out)
      have HT9 := Lib.hid (HT.out.mod HM9.out (not_nil _))
      clear hm9 hgs hgl HM8 HB8 HS8 HRA
      go_wp2_with fail
      have hkeep : ∀ (X Y : World) (k : Nat) (y : Value), (k ≠ tb ∧ k ≠ hx + 1 ∧ k < gs + 2) → Mod (fun k => k = tb ∨ k = hx + 1 ∨ gs + 2 ≤ k) X Y → X.cell? ⟨k, 0, none⟩ = some y → Y.cell? ⟨k, 0, none⟩ = some y := fun X Y k y hk m h => cell_kept h m (World.block_lt_of_cell? _ _ h) (by omega)
      have hcs := chunk_stops 8 (by omega) gs (gs + 1) g 0 L c8 64 (some ⟨g, 0, none⟩) (fun _ => rfl) (by omega) (by omega) hLc (by have := HPL.out; omega) (Mod (fun k => k = tb ∨ k = hx + 1 ∨ gs + 2 ≤ k)) (fun X Y y m h => hkeep X Y gs y (by omega) m h) (fun X Y y m h => hkeep X Y (gs + 1) y (by omega) m h) w9 hBs hBn
      have hcnt : cnt L 64 = L / 64 := by unfold cnt; omega
      have HCS := Lib.hid hcs
      have HCNT := Lib.hid hcnt
      clear hkeep hcs hcnt hBs hBn
      refine (wpIn_wide (n := 9)).1 ?_
      generalize hfr : Act.mk _ _ = fr
      refine wpIn_rangeFunc_ownF (hro := rfl) (h1 := by omega) (gf := 119) (lb := #[.pointer (some ⟨gs, 0, none⟩), .pointer (some ⟨gs + 1, 0, none⟩)]) (by rw [← hfr]; rfl) trivial (enters_of Tryz.func119 (by kernel_rfl) rfl) HCS.out (fun h k => h.trans k (fun _ _ h => h)) (fun W l o o' hl _ _ _ => mod_putObj W l o' (.inr (.inr (by omega)))) (Below.refl _ _) (fun _ => rfl)
        (fun pre W => IsTab W tb ∧ W.heap[hx + 1]? = some (.cells (wc (stF A v pre).list).toArray 77 (0, 0)) ∧ Mod (fun k => k = tb ∨ k = hx + 1 ∨ gs + 2 ≤ k) w9 W) (fun _ _ _ => False)
        (ownFrom_of (fun pre X Y h m => by
          obtain ⟨h1, h2, h3⟩ := h
          have hz := h3.size
          exact ⟨h1.mod m (by omega), (m.block (hx + 1) (by omega) (by omega)).trans h2, h3.trans m (fun k _ hk => .inr (.inr (by omega)))⟩)) (fun _ _ _ _ _ h _ _ => h) ⟨HT9.out, HS9.out, Mod.refl _ _⟩ (fun x => ⟨(fr.tmps.setIfInBounds 36 (chunkAt g 0 L 64 x.val)).setIfInBounds 5 (chunkAt g 0 L 64 x.val), []⟩) ?assign ?body ?done ?stop
      case assign =>
        intro l x W K hK
        subst hfr
        gi_wp2
        exact hK
      case body =>
        rintro lq pre x W ⟨ht, hsb, hm⟩ hlen
        subst hfr
        simp only [List.setIfInBounds_toArray, List.set_cons_succ, List.set_cons_zero]
        have hxc : x.val < L / 64 := by have := x.isLt; have := HCNT.out; omega
        have hxL : 64 * x.val + 64 ≤ L := by omega
        have hch : chunkAt g 0 L 64 x.val = .slice (some ⟨g, 64 * x.val, none⟩) 64 64 := by unfold chunkAt; rw [show min 64 (L - 64 * x.val) = 64 by omega, Nat.zero_add]
        have hb1 := HPL.out
        have c0 : W.cell? ⟨hx, 0, none⟩ = some (.pointer (some ⟨b, 0, none⟩)) := cell_of ((hm.block hx (by omega) (by omega)).trans HB9.out) 0
        have q0 : W.cell? ⟨b, 0, none⟩ = some (.pointer (some ⟨tb, 0, none⟩)) := (cell_of ((hm.block b (by omega) (by omega)).trans HHR9.out) 0).trans (hash_t _ _ _ _)
        have hblk : ((A.drop (64 * x.val)).take 64).length = 64 := by have := HAL.out; simp; omega
        have HMX := Lib.hid (shaMix tb (hx + 1) 0 77 _ (stF A v pre) ((A.drop (64 * x.val)).take 64) g (64 * x.val) 64 W ht (by omega) hsb (fun j hj => by
          rw [Nat.zero_add, List.getElem?_toArray]
          exact wc_get _ j (by simpa [V8.list] using hj)) (fun i hi => by
          rw [drop_getD _ _ _ hi]
          have h := HRA9.out (64 * x.val + i) (by omega)
          exact cell_kept h hm (World.block_lt_of_cell? _ _ h) (by omega)) hblk (by omega))
        have HM := Lib.hid hm
        have HTW := Lib.hid ht
        have HSBW := Lib.hid hsb
        have HOX := Lib.hid (show ∀ k o, (k = tb ∨ k = hx + 1) → W.heap[k]? = some o → o.isCells = true from fun k o hk ho => by
          rcases hk with rfl | rfl
          · rcases ht with h | ⟨_, _, _, _, h⟩ <;> (rw [h] at ho; cases ho; rfl)
          · rw [hsb] at ho; cases ho; rfl)
        clear hm ht hsb hblk hb1 hxc
        gi_wp2_with fail
        refine ⟨trivial, ?_⟩
        refine (CallsIn.inRound lq (callsIn_wide.2 HMX.out)).mono ?_
        rintro e w6 ⟨rfl, hf6, hh6, hm6⟩
        rw [wc_arr8] at hh6
        have HF6 := Lib.hid hf6
        have HH6 := Lib.hid hh6
        have HM6 := Lib.hid hm6
        clear hf6 hh6 hm6
        gi_wp2
        have hmm : Mod (fun k => k = tb ∨ k = hx + 1 ∨ gs + 2 ≤ k) W w6 := HM6.out.mono (fun k _ hk => hk.elim .inl (fun h => .inr (.inl h)))
        refine ⟨keepsOthers_of HM6.out HOX.out, hmm, full_tab HF6.out, ?_, HM.out.trans hmm (fun _ _ h => h)⟩
        rw [stF_snoc]
        exact HH6.out
      case done =>
        rintro D ys W hD hys ⟨ht, hsb, hm⟩ hK
        subst hfr
        have hst : stF A v ys = mixK A v (L / 64) := by rw [stF_map, hys, HCNT.out, range_mixK]
        obtain ⟨V, hV⟩ : ∃ V, mixK A v (L / 64) = V := ⟨_, rfl⟩
        have hsum : sumOf r n v = outTo V 8 := by rw [← hV]; unfold sumOf; rw [HAE.out, HRL.out, HZZ.out, show (R + 9 + z) / 64 = L / 64 by have := HPL.out; omega]
        rw [hst, hV] at hsb
        have hMW : Mod (· = tb) w W := HM9.out.ofNil.trans hm (fun k hk h => by have := HZ.out; omega)
        have hDW : D < W.heap.size := heap_lt hK
        have hDw : w.heap.size ≤ D := by have := HM9.out.size; omega
        have HSUM := Lib.hid hsum
        have HK := Lib.hid hK
        have HTW := Lib.hid ht
        have HMW := Lib.hid hMW
        have HSB := Lib.hid hsb
        clear hst hV hsum hK ht hsb hMW hys hm HRA9 HCS HCNT HS9 HB9 HHR9 HT9
        obtain ⟨va, vb, vc, vd, ve, vf, vg, vh⟩ := V
        have q1 := wc_cell HSB.out 0 (by simp [V8.list])
        have q2 := wc_cell HSB.out 1 (by simp [V8.list])
        have q3 := wc_cell HSB.out 2 (by simp [V8.list])
        have q4 := wc_cell HSB.out 3 (by simp [V8.list])
        have q5 := wc_cell HSB.out 4 (by simp [V8.list])
        have q6 := wc_cell HSB.out 5 (by simp [V8.list])
        have q7 := wc_cell HSB.out 6 (by simp [V8.list])
        have q8 := wc_cell HSB.out 7 (by simp [V8.list])
        simp only [V8.list, List.getD_cons_zero, List.getD_cons_succ] at q1 q2 q3 q4 q5 q6 q7 q8
        dsimp only
        go_wp2_with fail
        clear q1 q2 q3 q4 q5 q6 q7 q8
        go_loopw [6, 44] (fun v6 v44 wr => ∃ (i k : Nat) (p : Option Addr) (c : Nat), i ≤ 8 ∧ v44 = .int .i64 i ∧ k = 4 * i ∧ v6 = .slice p k c ∧ Hid (IsVec (fun k => W.heap.size ≤ k) wr 5 1 (.slice p k c) k (bys (outTo ⟨va, vb, vc, vd, ve, vf, vg, vh⟩ i))) ∧ Hid (Mod nil W wr)) (fun _ v _ => 8 - (intOf v).toNat)
        case atStart => exact ⟨0, 0, none, 0, by omega, rfl, rfl, rfl, Lib.hid (IsVec.nil _ _ _ _), Lib.hid (Mod.refl _ _)⟩
        case round =>
          obtain ⟨i, k, p, c, hi, rfl, hk, rfl, HVR, HMR⟩ := hrel
          have HKI := Lib.hid hk
          clear hk
          by_cases hlt : i < 8
          · have hbi : decide ((i : Int) < 8) = true := by simp; omega
            have hib : (i : Int) < 8 := by omega
            rcases (show i = 0 ∨ i = 1 ∨ i = 2 ∨ i = 3 ∨ i = 4 ∨ i = 5 ∨ i = 6 ∨ i = 7 by omega) with rfl | rfl | rfl | rfl | rfl | rfl | rfl | rfl
--R8
            · obtain rfl : k = 0 := HKI.out
              have hlo := u_lo va
              have hhi := u_hi va
              have hix := idx8_0 va vb vc vd ve vf vg vh
              have HLY := Lib.hid (shaLays (fun k => W.heap.size ≤ k) (.slice p 0 c) (outTo ⟨va, vb, vc, vd, ve, vf, vg, vh⟩ 0) va.toNat 4 wr (by rw [outTo_length]; exact HVR.out) (by have := va.isLt; omega) (by omega) (by rw [outTo_length]; omega))
              have hzw := HMR.out.size
              clear hbi hib
              go_wp2_with fail
              refine HLY.out.mono ?_
              rintro e w6 ⟨v6, rfl, hv6, hm6⟩
              have hlen : (outTo ⟨va, vb, vc, vd, ve, vf, vg, vh⟩ 0 ++ layC va.toNat 4 4).length = 4 := by rw [List.length_append, outTo_length, layC_length]
              rw [hlen] at hv6
              obtain ⟨p6, c6, rfl⟩ := hv6.form
              have HV6 : Hid (IsVec (fun k => W.heap.size ≤ k) w6 5 1 (.slice p6 4 c6) 4 (bys (outTo ⟨va, vb, vc, vd, ve, vf, vg, vh⟩ 1))) := Lib.hid (hv6.mono (fun k _ hk => hk.elim id (fun h => by omega)))
              have HM6 : Hid (Mod nil W w6) := Lib.hid (HMR.out.trans hm6 (fun k hk h => by omega))
              clear hv6 hm6 hlen hix hlo hhi
              go_wp2_with fail
              exact ⟨⟨1, 4, p6, c6, by omega, rfl, rfl, rfl, HV6, HM6⟩, by simp [intOf]⟩
            · obtain rfl : k = 4 := HKI.out
              have hlo := u_lo vb
              have hhi := u_hi vb
              have hix := idx8_1 va vb vc vd ve vf vg vh
              have HLY := Lib.hid (shaLays (fun k => W.heap.size ≤ k) (.slice p 4 c) (outTo ⟨va, vb, vc, vd, ve, vf, vg, vh⟩ 1) vb.toNat 4 wr (by rw [outTo_length]; exact HVR.out) (by have := vb.isLt; omega) (by omega) (by rw [outTo_length]; omega))
              have hzw := HMR.out.size
              clear hbi hib
              go_wp2_with fail
              refine HLY.out.mono ?_
              rintro e w6 ⟨v6, rfl, hv6, hm6⟩
              have hlen : (outTo ⟨va, vb, vc, vd, ve, vf, vg, vh⟩ 1 ++ layC vb.toNat 4 4).length = 8 := by rw [List.length_append, outTo_length, layC_length]
              rw [hlen] at hv6
              obtain ⟨p6, c6, rfl⟩ := hv6.form
              have HV6 : Hid (IsVec (fun k => W.heap.size ≤ k) w6 5 1 (.slice p6 8 c6) 8 (bys (outTo ⟨va, vb, vc, vd, ve, vf, vg, vh⟩ 2))) := Lib.hid (hv6.mono (fun k _ hk => hk.elim id (fun h => by omega)))
              have HM6 : Hid (Mod nil W w6) := Lib.hid (HMR.out.trans hm6 (fun k hk h => by omega))
              clear hv6 hm6 hlen hix hlo hhi
              go_wp2_with fail
              exact ⟨⟨2, 8, p6, c6, by omega, rfl, rfl, rfl, HV6, HM6⟩, by simp [intOf]⟩
            · obtain rfl : k = 8 := HKI.out
              have hlo := u_lo vc
              have hhi := u_hi vc
              have hix := idx8_2 va vb vc vd ve vf vg vh
              have HLY := Lib.hid (shaLays (fun k => W.heap.size ≤ k) (.slice p 8 c) (outTo ⟨va, vb, vc, vd, ve, vf, vg, vh⟩ 2) vc.toNat 4 wr (by rw [outTo_length]; exact HVR.out) (by have := vc.isLt; omega) (by omega) (by rw [outTo_length]; omega))
              have hzw := HMR.out.size
              clear hbi hib
              go_wp2_with fail
              refine HLY.out.mono ?_
              rintro e w6 ⟨v6, rfl, hv6, hm6⟩
              have hlen : (outTo ⟨va, vb, vc, vd, ve, vf, vg, vh⟩ 2 ++ layC vc.toNat 4 4).length = 12 := by rw [List.length_append, outTo_length, layC_length]
              rw [hlen] at hv6
              obtain ⟨p6, c6, rfl⟩ := hv6.form
              have HV6 : Hid (IsVec (fun k => W.heap.size ≤ k) w6 5 1 (.slice p6 12 c6) 12 (bys (outTo ⟨va, vb, vc, vd, ve, vf, vg, vh⟩ 3))) := Lib.hid (hv6.mono (fun k _ hk => hk.elim id (fun h => by omega)))
              have HM6 : Hid (Mod nil W w6) := Lib.hid (HMR.out.trans hm6 (fun k hk h => by omega))
              clear hv6 hm6 hlen hix hlo hhi
              go_wp2_with fail
              exact ⟨⟨3, 12, p6, c6, by omega, rfl, rfl, rfl, HV6, HM6⟩, by simp [intOf]⟩
            · obtain rfl : k = 12 := HKI.out
              have hlo := u_lo vd
              have hhi := u_hi vd
              have hix := idx8_3 va vb vc vd ve vf vg vh
              have HLY := Lib.hid (shaLays (fun k => W.heap.size ≤ k) (.slice p 12 c) (outTo ⟨va, vb, vc, vd, ve, vf, vg, vh⟩ 3) vd.toNat 4 wr (by rw [outTo_length]; exact HVR.out) (by have := vd.isLt; omega) (by omega) (by rw [outTo_length]; omega))
              have hzw := HMR.out.size
              clear hbi hib
              go_wp2_with fail
              refine HLY.out.mono ?_
              rintro e w6 ⟨v6, rfl, hv6, hm6⟩
              have hlen : (outTo ⟨va, vb, vc, vd, ve, vf, vg, vh⟩ 3 ++ layC vd.toNat 4 4).length = 16 := by rw [List.length_append, outTo_length, layC_length]
              rw [hlen] at hv6
              obtain ⟨p6, c6, rfl⟩ := hv6.form
              have HV6 : Hid (IsVec (fun k => W.heap.size ≤ k) w6 5 1 (.slice p6 16 c6) 16 (bys (outTo ⟨va, vb, vc, vd, ve, vf, vg, vh⟩ 4))) := Lib.hid (hv6.mono (fun k _ hk => hk.elim id (fun h => by omega)))
              have HM6 : Hid (Mod nil W w6) := Lib.hid (HMR.out.trans hm6 (fun k hk h => by omega))
              clear hv6 hm6 hlen hix hlo hhi
              go_wp2_with fail
              exact ⟨⟨4, 16, p6, c6, by omega, rfl, rfl, rfl, HV6, HM6⟩, by simp [intOf]⟩
            · obtain rfl : k = 16 := HKI.out
              have hlo := u_lo ve
              have hhi := u_hi ve
              have hix := idx8_4 va vb vc vd ve vf vg vh
              have HLY := Lib.hid (shaLays (fun k => W.heap.size ≤ k) (.slice p 16 c) (outTo ⟨va, vb, vc, vd, ve, vf, vg, vh⟩ 4) ve.toNat 4 wr (by rw [outTo_length]; exact HVR.out) (by have := ve.isLt; omega) (by omega) (by rw [outTo_length]; omega))
              have hzw := HMR.out.size
              clear hbi hib
              go_wp2_with fail
              refine HLY.out.mono ?_
              rintro e w6 ⟨v6, rfl, hv6, hm6⟩
              have hlen : (outTo ⟨va, vb, vc, vd, ve, vf, vg, vh⟩ 4 ++ layC ve.toNat 4 4).length = 20 := by rw [List.length_append, outTo_length, layC_length]
              rw [hlen] at hv6
              obtain ⟨p6, c6, rfl⟩ := hv6.form
              have HV6 : Hid (IsVec (fun k => W.heap.size ≤ k) w6 5 1 (.slice p6 20 c6) 20 (bys (outTo ⟨va, vb, vc, vd, ve, vf, vg, vh⟩ 5))) := Lib.hid (hv6.mono (fun k _ hk => hk.elim id (fun h => by omega)))
              have HM6 : Hid (Mod nil W w6) := Lib.hid (HMR.out.trans hm6 (fun k hk h => by omega))
              clear hv6 hm6 hlen hix hlo hhi
              go_wp2_with fail
              exact ⟨⟨5, 20, p6, c6, by omega, rfl, rfl, rfl, HV6, HM6⟩, by simp [intOf]⟩
            · obtain rfl : k = 20 := HKI.out
              have hlo := u_lo vf
              have hhi := u_hi vf
              have hix := idx8_5 va vb vc vd ve vf vg vh
              have HLY := Lib.hid (shaLays (fun k => W.heap.size ≤ k) (.slice p 20 c) (outTo ⟨va, vb, vc, vd, ve, vf, vg, vh⟩ 5) vf.toNat 4 wr (by rw [outTo_length]; exact HVR.out) (by have := vf.isLt; omega) (by omega) (by rw [outTo_length]; omega))
              have hzw := HMR.out.size
              clear hbi hib
              go_wp2_with fail
              refine HLY.out.mono ?_
              rintro e w6 ⟨v6, rfl, hv6, hm6⟩
              have hlen : (outTo ⟨va, vb, vc, vd, ve, vf, vg, vh⟩ 5 ++ layC vf.toNat 4 4).length = 24 := by rw [List.length_append, outTo_length, layC_length]
              rw [hlen] at hv6
              obtain ⟨p6, c6, rfl⟩ := hv6.form
              have HV6 : Hid (IsVec (fun k => W.heap.size ≤ k) w6 5 1 (.slice p6 24 c6) 24 (bys (outTo ⟨va, vb, vc, vd, ve, vf, vg, vh⟩ 6))) := Lib.hid (hv6.mono (fun k _ hk => hk.elim id (fun h => by omega)))
              have HM6 : Hid (Mod nil W w6) := Lib.hid (HMR.out.trans hm6 (fun k hk h => by omega))
              clear hv6 hm6 hlen hix hlo hhi
              go_wp2_with fail
              exact ⟨⟨6, 24, p6, c6, by omega, rfl, rfl, rfl, HV6, HM6⟩, by simp [intOf]⟩
            · obtain rfl : k = 24 := HKI.out
              have hlo := u_lo vg
              have hhi := u_hi vg
              have hix := idx8_6 va vb vc vd ve vf vg vh
              have HLY := Lib.hid (shaLays (fun k => W.heap.size ≤ k) (.slice p 24 c) (outTo ⟨va, vb, vc, vd, ve, vf, vg, vh⟩ 6) vg.toNat 4 wr (by rw [outTo_length]; exact HVR.out) (by have := vg.isLt; omega) (by omega) (by rw [outTo_length]; omega))
              have hzw := HMR.out.size
              clear hbi hib
              go_wp2_with fail
              refine HLY.out.mono ?_
              rintro e w6 ⟨v6, rfl, hv6, hm6⟩
              have hlen : (outTo ⟨va, vb, vc, vd, ve, vf, vg, vh⟩ 6 ++ layC vg.toNat 4 4).length = 28 := by rw [List.length_append, outTo_length, layC_length]
              rw [hlen] at hv6
              obtain ⟨p6, c6, rfl⟩ := hv6.form
              have HV6 : Hid (IsVec (fun k => W.heap.size ≤ k) w6 5 1 (.slice p6 28 c6) 28 (bys (outTo ⟨va, vb, vc, vd, ve, vf, vg, vh⟩ 7))) := Lib.hid (hv6.mono (fun k _ hk => hk.elim id (fun h => by omega)))
              have HM6 : Hid (Mod nil W w6) := Lib.hid (HMR.out.trans hm6 (fun k hk h => by omega))
              clear hv6 hm6 hlen hix hlo hhi
              go_wp2_with fail
              exact ⟨⟨7, 28, p6, c6, by omega, rfl, rfl, rfl, HV6, HM6⟩, by simp [intOf]⟩
            · obtain rfl : k = 28 := HKI.out
              have hlo := u_lo vh
              have hhi := u_hi vh
              have hix := idx8_7 va vb vc vd ve vf vg vh
              have HLY := Lib.hid (shaLays (fun k => W.heap.size ≤ k) (.slice p 28 c) (outTo ⟨va, vb, vc, vd, ve, vf, vg, vh⟩ 7) vh.toNat 4 wr (by rw [outTo_length]; exact HVR.out) (by have := vh.isLt; omega) (by omega) (by rw [outTo_length]; omega))
              have hzw := HMR.out.size
              clear hbi hib
              go_wp2_with fail
              refine HLY.out.mono ?_
              rintro e w6 ⟨v6, rfl, hv6, hm6⟩
              have hlen : (outTo ⟨va, vb, vc, vd, ve, vf, vg, vh⟩ 7 ++ layC vh.toNat 4 4).length = 32 := by rw [List.length_append, outTo_length, layC_length]
              rw [hlen] at hv6
              obtain ⟨p6, c6, rfl⟩ := hv6.form
              have HV6 : Hid (IsVec (fun k => W.heap.size ≤ k) w6 5 1 (.slice p6 32 c6) 32 (bys (outTo ⟨va, vb, vc, vd, ve, vf, vg, vh⟩ 8))) := Lib.hid (hv6.mono (fun k _ hk => hk.elim id (fun h => by omega)))
              have HM6 : Hid (Mod nil W w6) := Lib.hid (HMR.out.trans hm6 (fun k hk h => by omega))
              clear hv6 hm6 hlen hix hlo hhi
              go_wp2_with fail
              exact ⟨⟨8, 32, p6, c6, by omega, rfl, rfl, rfl, HV6, HM6⟩, by simp [intOf]⟩
--R8END
          · obtain rfl : i = 8 := by omega
            obtain rfl : k = 32 := HKI.out
            have hv := HVR.out
            rw [← HSUM.out] at hv
            have hk' : wr.heap[D]? = some (.deferred (some [])) := HMR.out.keep HK.out
            have hput : Mod (· = D) wr (wr.putObj D (.deferred none)) := mod_putObj wr D _ rfl
            have hvf : IsVec (fun k => w.heap.size ≤ k) (wr.putObj D (.deferred none)) 5 1 (.slice p 32 c) 32 (bys (sumOf r n v)) := (hv.mod hput (fun k _ hk e => by omega)).mono (fun k _ hk => by have := HMW.out.size; omega)
            have htf : IsTab (wr.putObj D (.deferred none)) tb := (HTW.out.mod HMR.out (not_nil _)).mod hput (by omega)
            have hmf : Mod (· = tb) w (wr.putObj D (.deferred none)) := (HMW.out.thenNil HMR.out).trans hput (fun k hk h => by omega)
            have HF := Lib.hid (And.intro hvf (And.intro htf hmf))
            clear hv hput hvf htf hmf
            go_wp2_with fail
            refine ⟨by simp, .inl ⟨_, _, rfl, run_takeDeferred hk', ?_⟩⟩
            exact ⟨_, results_tmp rfl _ _ _, HPOST.out _ _ ⟨.slice p 32 c, rfl, HF.out.1, HF.out.2.1, HF.out.2.2⟩⟩
      case stop =>
        rintro D c pre W _ _ h _
        exact h.elim
end Go.Proofs.YtjilbnpehgigjaaGreat

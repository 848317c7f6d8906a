/- cflref1.Hash is shaOf. -/
import Derived.StillTailTactics
import Derived.Test.YtdfahddpkkeldaaGreatShort
import Derived.Test.YtdfahddpkkeldaaGreatRefShaC
import Derived.Test.YtdfahddpkkeldaaGreatStep
set_option linter.unusedSimpArgs false
set_option linter.unusedVariables false
namespace Go.Proofs.YtdfahddpkkeldaaGreat
open Go.RowKit
theorem row_four {w : World} (a b c d : UInt8) (g : Nat) (hg : w.heap.size = g) : IsRow (· = g) (w.alloc (.cells #[.int .u8 a.toNat, .int .u8 b.toNat, .int .u8 c.toNat, .int .u8 d.toNat] 5)) (.slice (some ⟨g, 0, none⟩) 4 4) (bys [a, b, c, d]) := by
 subst hg
 have h : (w.alloc (.cells #[.int .u8 a.toNat, .int .u8 b.toNat, .int .u8 c.toNat, .int .u8 d.toNat] 5)).heap[w.heap.size]? = some (.cells (bys [a, b, c, d]).toArray 5 (0, 0)) := heap_alloc_new w _
 exact IsRow.ofBlock (S := (· = w.heap.size)) h rfl 4 4 rfl
theorem shift_byte (x : BitVec 32) (k : Nat) : u x / ((2 ^ (8 * k) : Nat) : Int) % 256 = ((byteAt x.toNat k).toNat : Int) := by
 rw [byteAt_nat, Int.natCast_emod, Int.natCast_ediv]; rfl
theorem slice_mid (g o len cap lo hi : Nat) (h1 : lo ≤ hi) (h2 : hi ≤ cap) (h3 : lo < cap) (W : World) : (Instr.slice 40 (.slice (some ⟨g, o, none⟩) len cap) (some (.int .i64 (lo : Int))) (some (.int .i64 (hi : Int))) none).run Tryz.prog W = .ok (.slice (some ⟨g, o + lo, none⟩) (hi - lo) (cap - lo)) W := by
 obtain ⟨i0, hi0, hz0, hz1, hz2⟩ := info_parts info_u8
 have he : Tryz.prog.elem 40 = 5 := by simp [Program.elem, Tryz.underlying40]
 have hu : Tryz.prog.underlying 40 = some (.slice (Tryz.prog.elem 40)) := by rw [he]; exact Tryz.underlying40
 rw [run_slice_lh W _ (some ⟨g, o, none⟩) len cap hu .i64 .i64 lo hi (by omega) (by omega) (by omega)]
 have hs : (sizeOf (Tryz.prog.elem 40)).run Tryz.prog W = .ok 1 W := by
  rw [he]
  simp [sizeOf, typeInfo, hi0, hz1]
 rw [hs]
 have hc : ¬ cap = lo := by omega
 simp [sliced, Addr.add, hc]
set_option maxRecDepth 100000 in
set_option maxHeartbeats 4000000 in
theorem refHash (T : Nat → Prop) (v0 : Value) (m : List UInt8) (w : World) (hrow : IsRow T w v0 (bys m)) (hm : m.length ≤ 1099511627000) :
  Calls Tryz.prog 82 #[v0] w fun e w' => ∃ v', e = .returned v' ∧ IsVec (fun k => w.heap.size ≤ k) w' 5 1 v' 32 (bys (shaOf m)) ∧ Mod nil w w' := by
 refine (?_ : ∀ Post : Ending → World → Prop, Hid (∀ e w', (∃ v', e = .returned v' ∧ IsVec (fun k => w.heap.size ≤ k) w' 5 1 v' 32 (bys (shaOf m)) ∧ Mod nil w w') → Post e w') → Calls Tryz.prog 82 #[v0] w Post) _ (Lib.hid (fun _ _ h => h))
 intro Post HPOST
 have HR := Lib.hid hrow
 obtain ⟨p0, c0, rfl, _⟩ := id hrow
 obtain ⟨N, hN⟩ : ∃ N, m.length = N := ⟨_, rfl⟩
 rw [bys_length, hN] at HR ⊢
 rw [hN] at hm
 have HN := Lib.hid hN
 clear hrow hN
 obtain ⟨K, hK⟩ : ∃ K, (wc kTab).toArray = K := ⟨_, rfl⟩
 obtain ⟨H, hH⟩ : ∃ H, (wc hTab).toArray = H := ⟨_, rfl⟩
 have HC1 := Lib.hid refWords
 have HC2 := Lib.hid refStarts
 rw [hK] at HC1
 rw [hH] at HC2
 have hks : 64 = K.size := by rw [← hK, List.size_toArray, wc_length, kTab_length]
 have hka : K.all (·.oneCell') = true := by rw [← hK]; simp [wc, Value.oneCell']
 have hhs : 8 = H.size := by rw [← hH, List.size_toArray, wc_length, hTab_length]
 have hha : H.all (·.oneCell') = true := by rw [← hH]; simp [wc, Value.oneCell']
 have HKE := Lib.hid hK
 have HHE := Lib.hid hH
 have HKS := Lib.hid (And.intro hks hka)
 have HHS := Lib.hid (And.intro hhs hha)
 clear hK hH hks hka hhs hha
 go_enter Tryz.func82, Tryz.ntmps82
 go_wp2_with fail
 refine (HC1.out w).mono ?_
 rintro e w1 ⟨rfl, hm1⟩
 go_wp2_with fail
 refine (HC2.out w1).mono ?_
 rintro e w2 ⟨rfl, hm2⟩
 have hm12 := hm1.thenNil hm2
 clear hm1 hm2
 obtain ⟨g, hg⟩ : ∃ g, w2.heap.size = g := ⟨_, rfl⟩
 obtain ⟨w3, hw3⟩ : ∃ w3, w2.alloc (.cells #[.int .u32 0, .int .u32 0, .int .u32 0, .int .u32 0, .int .u32 0, .int .u32 0, .int .u32 0, .int .u32 0, .int .u32 0, .int .u32 0, .int .u32 0, .int .u32 0, .int .u32 0, .int .u32 0, .int .u32 0, .int .u32 0, .int .u32 0, .int .u32 0, .int .u32 0, .int .u32 0, .int .u32 0, .int .u32 0, .int .u32 0, .int .u32 0, .int .u32 0, .int .u32 0, .int .u32 0, .int .u32 0, .int .u32 0, .int .u32 0, .int .u32 0, .int .u32 0, .int .u32 0, .int .u32 0, .int .u32 0, .int .u32 0, .int .u32 0, .int .u32 0, .int .u32 0, .int .u32 0, .int .u32 0, .int .u32 0, .int .u32 0, .int .u32 0, .int .u32 0, .int .u32 0, .int .u32 0, .int .u32 0, .int .u32 0, .int .u32 0, .int .u32 0, .int .u32 0, .int .u32 0, .int .u32 0, .int .u32 0, .int .u32 0, .int .u32 0, .int .u32 0, .int .u32 0, .int .u32 0, .int .u32 0, .int .u32 0, .int .u32 0, .int .u32 0] 81) = w3 := ⟨_, rfl⟩
 obtain ⟨w4, hw4⟩ : ∃ w4, w3.alloc (.cells #[.int .u32 0, .int .u32 0, .int .u32 0, .int .u32 0, .int .u32 0, .int .u32 0, .int .u32 0, .int .u32 0] 82) = w4 := ⟨_, rfl⟩
 have hs3 : w3.heap.size = g + 1 := by rw [← hw3, ← hg]; simp
 have hg3 : w3.heap[g]? = some (.cells #[.int .u32 0, .int .u32 0, .int .u32 0, .int .u32 0, .int .u32 0, .int .u32 0, .int .u32 0, .int .u32 0, .int .u32 0, .int .u32 0, .int .u32 0, .int .u32 0, .int .u32 0, .int .u32 0, .int .u32 0, .int .u32 0, .int .u32 0, .int .u32 0, .int .u32 0, .int .u32 0, .int .u32 0, .int .u32 0, .int .u32 0, .int .u32 0, .int .u32 0, .int .u32 0, .int .u32 0, .int .u32 0, .int .u32 0, .int .u32 0, .int .u32 0, .int .u32 0, .int .u32 0, .int .u32 0, .int .u32 0, .int .u32 0, .int .u32 0, .int .u32 0, .int .u32 0, .int .u32 0, .int .u32 0, .int .u32 0, .int .u32 0, .int .u32 0, .int .u32 0, .int .u32 0, .int .u32 0, .int .u32 0, .int .u32 0, .int .u32 0, .int .u32 0, .int .u32 0, .int .u32 0, .int .u32 0, .int .u32 0, .int .u32 0, .int .u32 0, .int .u32 0, .int .u32 0, .int .u32 0, .int .u32 0, .int .u32 0, .int .u32 0, .int .u32 0] 81 (0, 0)) := by rw [← hw3, ← hg]; exact heap_alloc_new _ _
 have hm3 : Mod nil w w3 := by rw [← hw3]; exact hm12.alloc _
 have hg4 : w4.heap[g]? = some (.cells #[.int .u32 0, .int .u32 0, .int .u32 0, .int .u32 0, .int .u32 0, .int .u32 0, .int .u32 0, .int .u32 0, .int .u32 0, .int .u32 0, .int .u32 0, .int .u32 0, .int .u32 0, .int .u32 0, .int .u32 0, .int .u32 0, .int .u32 0, .int .u32 0, .int .u32 0, .int .u32 0, .int .u32 0, .int .u32 0, .int .u32 0, .int .u32 0, .int .u32 0, .int .u32 0, .int .u32 0, .int .u32 0, .int .u32 0, .int .u32 0, .int .u32 0, .int .u32 0, .int .u32 0, .int .u32 0, .int .u32 0, .int .u32 0, .int .u32 0, .int .u32 0, .int .u32 0, .int .u32 0, .int .u32 0, .int .u32 0, .int .u32 0, .int .u32 0, .int .u32 0, .int .u32 0, .int .u32 0, .int .u32 0, .int .u32 0, .int .u32 0, .int .u32 0, .int .u32 0, .int .u32 0, .int .u32 0, .int .u32 0, .int .u32 0, .int .u32 0, .int .u32 0, .int .u32 0, .int .u32 0, .int .u32 0, .int .u32 0, .int .u32 0, .int .u32 0] 81 (0, 0)) := by rw [← hw4]; exact heap_alloc_old hg3
 have hh4 : w4.heap[g + 1]? = some (.cells #[.int .u32 0, .int .u32 0, .int .u32 0, .int .u32 0, .int .u32 0, .int .u32 0, .int .u32 0, .int .u32 0] 82 (0, 0)) := by rw [← hw4, ← hs3]; exact heap_alloc_new _ _
 have hm4 : Mod nil w w4 := by rw [← hw4]; exact hm3.alloc _
 have hgw : w.heap.size ≤ g := by have := hm12.size; omega
 have HG4 := Lib.hid hg4
 have hh5 : (w4.setRow g K).heap[g + 1]? = some (.cells #[.int .u32 0, .int .u32 0, .int .u32 0, .int .u32 0, .int .u32 0, .int .u32 0, .int .u32 0, .int .u32 0] 82 (0, 0)) := (setRow_other w4 g (g + 1) K (by omega)).trans hh4
 have HH5 := Lib.hid hh5
 have HK6 : Hid (((w4.setRow g K).setRow (g + 1) H).heap[g]? = some (.cells (wc kTab).toArray 81 (0, 0))) := Lib.hid (by rw [HKE.out]; exact (setRow_other _ (g + 1) g H (by omega)).trans (setRow_heap w4 g _ K _ _ hg4))
 have HH6 : Hid (((w4.setRow g K).setRow (g + 1) H).heap[g + 1]? = some (.cells (wc hV.list).toArray 82 (0, 0))) := Lib.hid (by rw [← hV_list, HHE.out]; exact setRow_heap _ (g + 1) _ H _ _ hh5)
 have HM6 : Hid (Mod nil w ((w4.setRow g K).setRow (g + 1) H)) := Lib.hid ⟨hm4.os, hm4.tape, hm4.output, by simpa [World.setRow] using hm4.size, fun k hk h => (setRow_other _ (g + 1) k H (by omega)).trans ((setRow_other w4 g k K (by omega)).trans (hm4.block k hk h))⟩
 have hw6s : g + 2 ≤ ((w4.setRow g K).setRow (g + 1) H).heap.size := by have := heap_lt HH6.out; omega
 clear hg3 hm3 hg4 hh4 hm4 hh5 hm12
 go_upto_region 2 with (first
  | (refine wpList_store_row rfl _ _ _ rfl g K rfl rfl 81 _ HG4.out (by rw [info_a64, HKS.out.1]) HKS.out.1 HKS.out.2 ?_)
  | (refine wpList_store_row rfl _ _ _ rfl (g + 1) H rfl rfl 82 _ HH5.out (by rw [info_a8, HHS.out.1]) HHS.out.1 HHS.out.2 ?_))
 generalize (w4.setRow g K).setRow (g + 1) H = w6 at *
 have HW3 := Lib.hid hw3
 clear HG4 HH5 hw3 hw4 hs3 hg HC1 HC2 HKE HHE HKS HHS
 obtain ⟨B, hB⟩ : ∃ B, w6.heap.size = B := ⟨_, rfl⟩
 rw [hB] at hw6s
 have HBS := Lib.hid hB
 go_wp2_with fail
 refine (refCopyBytes T _ m w6 (HR.out.modNil HM6.out) (by have := HN.out; omega)).mono ?_
 rw [hB]
 rintro e w7 ⟨v7, rfl, hv7, hm7⟩
 clear hB
 obtain ⟨x7, hx7⟩ : ∃ x7, w7.alloc (.cells #[.int .u8 (0x80 : UInt8).toNat] 5) = x7 := ⟨_, rfl⟩
 have hmx7 : Mod nil w6 x7 := by rw [← hx7]; exact hm7.alloc _
 have hv7x : IsVec (fun k => B ≤ k) x7 5 1 v7 m.length (bys m) := hv7.modNil (by rw [← hx7]; exact (Mod.refl _ _).alloc _)
 obtain ⟨v8, w8, hrun8, hv8, hmod8⟩ := bytes_append (l := m) (m := [0x80]) 40 hv7x (by rw [← hx7]; exact row_one 0x80 _ rfl) (by have := HN.out; simp; omega)
 have hm8 : Mod nil w6 w8 := hmx7.new hmod8 (fun k hk => by have := HBS.out; omega)
 rw [List.length_append, List.length_singleton, HN.out] at hv8
 rw [HN.out] at hv7
 obtain ⟨p7, c7, rfl⟩ := hv7.form
 obtain ⟨p8, c8, rfl⟩ := hv8.form
 rw [e80] at hx7
 have HV8 : Hid (IsVec (fun k => B ≤ k) w8 5 1 (.slice p8 (N + 1) c8) (N + 1) (bys (m ++ [0x80] ++ List.replicate 0 0))) := Lib.hid (by
  rw [List.replicate_zero, List.append_nil]
  exact hv8.mono (fun k _ hk => hk.elim id (fun h => by have := hmx7.size; have := HBS.out; omega)))
 obtain ⟨Z, hZ⟩ : ∃ Z, padZ N = Z := ⟨_, rfl⟩
 have hZ1 : (N + 1 + Z) % 64 = 56 := by rw [← hZ]; unfold padZ; omega
 have hZ2 : Z < 64 := by rw [← hZ]; unfold padZ; omega
 have HZZ := Lib.hid hZ
 have HRUN8 := Lib.hid hrun8
 have HM8 := Lib.hid hm8
 clear hv7 hm7 hv7x hmx7 hrun8 hv8 hmod8 hm8 hZ
 go_wp2_with (first | (at_builtin; refine wpList_append_run rfl _ _ _ _ rfl rfl rfl HRUN8.out ?_))
 clear HRUN8 hx7
 go_loopw [5] (fun v5 wr => ∃ (z l : Nat) (p : Option Addr) (c : Nat), z ≤ Z ∧ l = N + 1 + z ∧ v5 = .slice p l c ∧ Hid (IsVec (fun k => B ≤ k) wr 5 1 (.slice p l c) l (bys (m ++ [0x80] ++ List.replicate z 0))) ∧ Hid (Mod nil w6 wr)) (fun v5 _ => N + 1 + Z - lenV v5)
 case atStart => exact ⟨0, N + 1, p8, c8, by omega, rfl, rfl, HV8, HM8⟩
 case round =>
  obtain ⟨z, l, p, c, hz, hl, rfl, HVR, HMR⟩ := hrel
  clear HV8 HM8
  by_cases hlt : z < Z
  ·have hb : ((l : Int) % 64 != 56) = true := by simp; omega
   have hm5 : Mod nil wr (wr.alloc (.cells #[.int .u8 (0 : UInt8).toNat] 5)) := (Mod.refl _ _).alloc _
   have hbl : (m ++ [0x80] ++ List.replicate z (0 : UInt8)).length = l := by have := HN.out; simp; omega
   have hvr := HVR.out.modNil hm5
   have hvr' : IsVec (fun k => B ≤ k) (wr.alloc (.cells #[.int .u8 (0 : UInt8).toNat] 5)) 5 1 (.slice p l c) (m ++ [0x80] ++ List.replicate z (0 : UInt8)).length (bys (m ++ [0x80] ++ List.replicate z 0)) := by rw [hbl]; exact hvr
   obtain ⟨v6, w9, hrun6, hv6, hmod6⟩ := bytes_append (l := m ++ [0x80] ++ List.replicate z 0) (m := [0]) 40 hvr' (row_one 0 _ rfl) (by rw [hbl]; simp; omega)
   have hlen6 : (m ++ [0x80] ++ List.replicate (z + 1) (0 : UInt8)).length = l + 1 := by have := HN.out; simp; omega
   rw [← pad_succ m z, hlen6] at hv6
   clear hlen6
   obtain ⟨p6, c6, rfl⟩ := hv6.form
   rw [e00] at hrun6
   have HRUN6 := Lib.hid hrun6
   have HV6 : Hid (IsVec (fun k => B ≤ k) w9 5 1 (.slice p6 (l + 1) c6) (l + 1) (bys (m ++ [0x80] ++ List.replicate (z + 1) 0))) := Lib.hid (hv6.mono (fun k _ hk => hk.elim id (fun h => by have := hm5.size; have := HMR.out.size; have := HBS.out; omega)))
   have HM6' : Hid (Mod nil w6 w9) := Lib.hid ((HMR.out.thenNil hm5).new hmod6 (fun k hk => by have := HBS.out; omega))
   have HLZ := Lib.hid hl
   have HZ1 := Lib.hid hZ1
   have hlb : l ≤ 1099511627776 := by omega
   clear hm5 hbl hvr hvr' hrun6 hv6 hmod6 hl hZ1
   go_wp2_with (first | (at_builtin; refine wpList_append_run rfl _ _ _ _ rfl rfl rfl HRUN6.out ?_))
   exact ⟨⟨z + 1, l + 1, p6, c6, by omega, by have := HLZ.out; omega, rfl, HV6, HM6'⟩, by have := HLZ.out; simp [lenV]; omega⟩
  ·obtain rfl : z = Z := by omega
   have hb : ((l : Int) % 64 != 56) = false := by simp; omega
   obtain ⟨n8, h8⟩ : ∃ n8, 8 * N = n8 := ⟨_, rfl⟩
   have h8i : (N : Int) * 8 = (n8 : Int) := by omega
   have h8b : n8 < 18446744073709551616 := by omega
   have hNw : (N : Int) % 18446744073709551616 = (N : Int) := by omega
   have hNw2 : IntKind.u64.wrap (N : Int) = (N : Int) := by rw [IntKind.wrap_u64]; exact hNw
   have h8w : IntKind.u64.wrap (n8 : Int) = (n8 : Int) := by rw [IntKind.wrap_u64]; omega
   obtain ⟨pre, hpre⟩ : ∃ pre, m ++ [0x80] ++ List.replicate z (0 : UInt8) = pre := ⟨_, rfl⟩
   have hbl : pre.length = l := by rw [← hpre]; have := HN.out; simp; omega
   have hall : allOf m = pre ++ layC n8 8 8 := by unfold allOf; rw [HN.out, HZZ.out, hpre, h8]
   rw [hpre] at HVR
   have HALL := Lib.hid hall
   have HBL := Lib.hid hbl
   have HLZ := Lib.hid hl
   have HZ1 := Lib.hid hZ1
   have H8 := Lib.hid h8
   have hlb : l ≤ 1099511627776 := by omega
   clear hpre hbl hall hl hZ1 h8
   go_upto_region 6 with (fail)
   clear h8i hNw hNw2 h8w hb
   go_wp2_with fail
   go_loopw [5, 7] (fun v5 v7 wx => ∃ (c l' : Nat) (x : Int) (p : Option Addr) (cc : Nat), c ≤ 8 ∧ v7 = .int .i64 x ∧ x = 7 - (c : Int) ∧ l' = l + c ∧ v5 = .slice p l' cc ∧ Hid (IsVec (fun k => B ≤ k) wx 5 1 (.slice p l' cc) l' (bys (pre ++ layC n8 8 c))) ∧ Hid (Mod nil w6 wx)) (fun _ v _ => (intOf v + 1).toNat)
   case atStart => exact ⟨0, l, _, p, c, by omega, rfl, by omega, rfl, rfl, Lib.hid (by rw [show layC n8 8 0 = [] from rfl, List.append_nil]; exact HVR.out), HMR⟩
   case round =>
    obtain ⟨c, l', x, p, cc, hc, rfl, hx, hl', rfl, HVC, HMC⟩ := hrel
    clear HVR HMR
    by_cases hlt : c < 8
    ·obtain ⟨k, rfl⟩ : ∃ k : Nat, x = k := ⟨7 - c, by omega⟩
     have hk : 8 - 1 - c = k := by omega
     have hvc := HVC.out
     have hnext : pre ++ layC n8 8 (c + 1) = (pre ++ layC n8 8 c) ++ [byteAt n8 k] := by rw [layC_succ, hk, List.append_assoc]
     have hb := byteAt_nat n8 k
     have hbi : ((n8 / 2 ^ (8 * k) % 256 : Nat) : Int) = (n8 : Int) / 2 ^ (8 * k) % 256 := by simp
     rw [hbi] at hb
     have hk8 : k < 8 := by omega
     have hx0 : 0 ≤ 7 - (c : Int) := by omega
     have hcl : (pre ++ layC n8 8 c).length = l' := by rw [List.length_append, layC_length, HBL.out, hl']
     have hm0 : Mod nil wr (wr.alloc (.cells #[.int .u8 (byteAt n8 k).toNat] 5)) := (Mod.refl nil wr).alloc _
     obtain ⟨v7', w7', hrun, hvec, hmod⟩ := bytes_append (l := pre ++ layC n8 8 c) (m := [byteAt n8 k]) 40 (by rw [hcl]; exact hvc.modNil hm0) (row_one (byteAt n8 k) _ rfl) (by rw [hcl]; simp; omega)
     have hlen : (pre ++ layC n8 8 (c + 1)).length = l' + 1 := by rw [hnext, List.length_append, hcl]; rfl
     rw [← hnext, hlen] at hvec
     obtain ⟨p7', c7', rfl⟩ := hvec.form
     rw [hb] at hrun
     have HRUN := Lib.hid hrun
     have HVEC := Lib.hid (hvec.mono (T := fun k => B ≤ k) (fun j _ h => h.elim id (fun h => by have := HMC.out.size; have := hm0.size; have := HBS.out; omega)))
     have HMOD : Hid (Mod nil w6 w7') := Lib.hid ((HMC.out.thenNil hm0).new hmod (fun k h => by have := HBS.out; omega))
     have HX := Lib.hid hx
     have HK := Lib.hid hk
     have HL' := Lib.hid hl'
     clear hvc hnext hb hbi hm0 hrun hvec hmod hlen hcl hx hk hl'
     go_wp2_with (first | (at_builtin; refine wpList_append_run rfl _ _ _ _ rfl rfl rfl HRUN.out ?_))
     exact ⟨⟨c + 1, l' + 1, _, p7', c7', by omega, rfl, by have := HX.out; omega, by have := HL'.out; omega, rfl, HVEC, HMOD⟩, by simp [intOf] <;> omega⟩
    ·obtain rfl : c = 8 := by omega
     obtain rfl : x = -1 := by omega
     have hpl := allOf_length m
     obtain ⟨A, hA⟩ : ∃ A, allOf m = A := ⟨_, rfl⟩
     have hv8 := HVC.out
     rw [← HALL.out, hA] at hv8
     rw [hA, HN.out, HZZ.out] at hpl
     have hsha : shaOf m = outTo (mixK A hV ((N + 9 + z) / 64)) 8 := by rw [shaOf_eq, hA, HN.out, HZZ.out]
     have hAl : A.length = l' := by rw [← hA, HALL.out, List.length_append, layC_length, HBL.out, hl']
     rw [hAl] at hpl
     obtain ⟨Q, hQ⟩ : ∃ Q, (N + 9 + z) / 64 = Q := ⟨_, rfl⟩
     rw [hQ] at hpl hsha
     have hl9 : 64 ≤ l' := by have := HLZ.out; omega
     obtain ⟨ga, rfl, hLc⟩ : ∃ ga, p = some ⟨ga, 0, none⟩ ∧ l' ≤ cc := by
      rcases vec_form1 hv8 with ⟨_, h0⟩ | ⟨g', c', he, hc'⟩
      ·omega
      ·simp only [Value.slice.injEq] at he
       obtain ⟨rfl, -, rfl⟩ := he
       exact ⟨g', rfl, hc'⟩
     have hrowA : ∀ i, i < l' → wr.cell? ⟨ga, i, none⟩ = some (.int .u8 (A.getD i 0).toNat) := fun i hi => by
      obtain ⟨p', c', hp, hcc⟩ := hv8.cells
      obtain ⟨b', o', hp', _, _, hx'⟩ := hcc i (by rw [bys_length, hAl]; exact hi)
      simp only [Value.slice.injEq] at hp
      obtain ⟨rfl, -, -⟩ := hp
      simp only [Option.some.injEq, Addr.mk.injEq, and_true] at hp'
      obtain ⟨rfl, rfl⟩ := hp'
      rw [Nat.zero_add] at hx'
      rw [hx', bys_getD _ _ (by rw [hAl]; exact hi)]
     have hga : B ≤ ga := hv8.2 ga rfl
     have HRA := Lib.hid hrowA
     have HAL := Lib.hid hAl
     have HSHA := Lib.hid hsha
     have HKR := Lib.hid (HMC.out.keep HK6.out)
     have HHR := Lib.hid (HMC.out.keep HH6.out)
     obtain ⟨w9, hw9⟩ : ∃ w9, wr = w9 := ⟨_, rfl⟩
     have HM9 : Hid (Mod nil w w9) := Lib.hid (by rw [← hw9]; exact HM6.out.thenNil HMC.out)
     have hl40 : l' ≤ 1099511627976 := by omega
     have HQ := Lib.hid hQ
     have HPL := Lib.hid hpl
     have HL' := Lib.hid hl'
     clear hv8 hrowA hAl hsha hA hQ hpl hl' hlb hl9 hc hlt hx
     subst hw9
     go_wp2_with fail
     go_loopw [8] (fun v8 wx => ∃ (k I : Nat), k ≤ Q ∧ Hid (I = 64 * k) ∧ v8 = .int .i64 I ∧ Hid (wx.heap[g + 1]? = some (.cells (wc (mixK A hV k).list).toArray 82 (0, 0))) ∧ Hid (Mod (· = g + 1) wr wx)) (fun v _ => l' - (intOf v).toNat)
     case atStart => exact ⟨0, 0, by omega, Lib.hid rfl, rfl, HHR, Lib.hid (Mod.refl _ _)⟩
     case round =>
      rename World => wx
      obtain ⟨k, I, hk, HI, rfl, HHX, HMX⟩ := hrel
      by_cases hlt3 : k < Q
      ·have hIl : I + 64 ≤ l' := by have := HPL.out; have := HI.out; omega
       have hIc : I + 64 ≤ cc := by omega
       have hI0 : (0 : Int) ≤ (I : Int) + 64 := by omega
       have hIw : IntKind.i64.wrap ((I : Int) + 64) = (I : Int) + 64 := by rw [IntKind.wrap_i64]; omega
       have hIn : ((I : Int) + 64).toNat = I + 64 := by omega
       have hIx : (I : Int) ≤ (I : Int) + 64 := by omega
       have hIy : (I : Int) + 64 ≤ (cc : Int) := by omega
       have hsl : ∀ W, (Instr.slice 40 (.slice (some ⟨ga, 0, none⟩) l' cc) (some (.int .i64 (I : Int))) (some (.int .i64 ((I : Int) + 64))) none).run Tryz.prog W = .ok (.slice (some ⟨ga, I, none⟩) 64 (cc - I)) W := fun W => by
        have h := slice_mid ga 0 l' cc I (I + 64) (by omega) hIc (by omega) W
        rw [Nat.zero_add, show I + 64 - I = 64 by omega] at h
        exact h
       have hrx : ∀ i, i < 64 → wx.cell? ⟨ga, I + i, none⟩ = some (.int .u8 (((A.drop I).take 64).getD i 0).toNat) := fun i hi => by
        have h := cell_kept (HRA.out (I + i) (by omega)) HMX.out (World.block_lt_of_cell? _ _ (HRA.out (I + i) (by omega))) (by omega)
        rw [h, List.getD_eq_getElem?_getD, List.getD_eq_getElem?_getD, List.getElem?_take_of_lt hi, List.getElem?_drop]
       have hblk : ∀ W : World, W.heap = wx.heap → Mod nil wx W → Calls Tryz.prog 115 #[.slice (some ⟨g + 1, 0, none⟩) 8 8, .slice (some ⟨g, 0, none⟩) 64 64, .slice (some ⟨ga, I, none⟩) 64 (cc - I)] W fun e w' => e = .returned (.tuple #[]) ∧ w'.heap[g + 1]? = some (.cells (wc (mixK A hV (k + 1)).list).toArray 82 (0, 0)) ∧ Mod (· = g + 1) wx w' := fun W hW hmW =>
        (refBlock (g + 1) g ga I (cc - I) (mixK A hV k) ((A.drop I).take 64) W (by rw [hW]; exact HHX.out) (by rw [hW]; exact (HMX.out.ne g (by have := heap_lt HKR.out; omega) (by omega)).trans HKR.out) (by omega)
         (fun i hi => cell_kept (hrx i hi) hmW (World.block_lt_of_cell? _ _ (hrx i hi)) (not_nil _)) (by rw [List.length_take, List.length_drop, HAL.out]; omega) (by omega)).mono (fun e w' ⟨h1, h2, h3⟩ => ⟨h1, by rw [HI.out] at h2; exact h2, hmW.ofNil.trans h3 (fun _ _ h => h)⟩)
       have HBLK := Lib.hid hblk
       clear hrx hblk
       go_upto_region 13 with (fail)
       go_region_held3 (fun _ => True) (trivial) (first | (go_at_call 115; refine (HBLK.out _ ?_ ?_).mono ?_; exact rfl; (repeat (refine Mod.drew ?_)); exact Mod.refl nil wx; rintro e w' ⟨rfl, hb1, hb2⟩))
       go_wp2_with fail
       exact ⟨⟨k + 1, I + 64, by omega, Lib.hid (by have := HI.out; omega), by go_num, Lib.hid hb1, Lib.hid (HMX.out.trans hb2 (fun _ _ h => h))⟩, by simp [intOf]; omega⟩
      ·obtain rfl : k = Q := by omega
       obtain rfl : I = l' := by have := HI.out; have := HPL.out; omega
       have HBX := HHX
       obtain ⟨V, hV⟩ : ∃ V, mixK A hV k = V := ⟨_, rfl⟩
       rw [hV] at HBX
       have HSH : Hid (shaOf m = outTo V 8) := Lib.hid (by rw [HSHA.out, hV])
       have HMW : Hid (Mod nil w wx) := Lib.hid (HM9.out.new HMX.out (fun j hj => by omega))
       clear HHX hV HI HKR HHR HMC HRA HM6 HPL HMX HM9 HK6 HH6 HVC
       go_wp2_with fail
       go_loopw [9, 10] (fun v9 v10 wz => ∃ (i n : Nat) (p : Option Addr) (c : Nat), i ≤ 8 ∧ v10 = .int .i64 i ∧ v9 = .slice p n c ∧ Hid (n = 4 * i) ∧ Hid (IsVec (fun k => wx.heap.size ≤ k) wz 5 1 (.slice p n c) n (bys (outTo V i))) ∧ Hid (Mod nil wx wz)) (fun _ v _ => 8 - (intOf v).toNat)
       case atStart => exact ⟨0, 0, none, 0, by omega, rfl, rfl, Lib.hid rfl, Lib.hid (IsVec.nil _ _ _ _), Lib.hid (Mod.refl _ _)⟩
       case round =>
        rename World => wz
        obtain ⟨i, n, p, c, hi, rfl, rfl, HN4, HVZ, HMZ⟩ := hrel
        by_cases hi8 : i < 8
        ·obtain ⟨x, hx⟩ : ∃ x, V.list.getD i 0 = x := ⟨_, rfl⟩
         have cx : wz.cell? ⟨g + 1, i, none⟩ = some (.int .u32 (u x)) := by
          exact (wc_cell (HMZ.out.keep HBX.out) i hi8).trans (by rw [hx])
         have ca : ∀ ob, (wz.alloc ob).cell? ⟨g + 1, i, none⟩ = some (.int .u32 (u x)) := fun ob => cell_kept cx ((Mod.refl nil _).alloc ob) (World.block_lt_of_cell? _ _ cx) (not_nil _)
         have b3 : IntKind.u8.wrap (u x / 16777216) = ((byteAt x.toNat 3).toNat : Int) := (IntKind.wrap_u8 _).trans (shift_byte x 3)
         have b2 : IntKind.u8.wrap (u x / 65536) = ((byteAt x.toNat 2).toNat : Int) := (IntKind.wrap_u8 _).trans (shift_byte x 2)
         have b1 : IntKind.u8.wrap (u x / 256) = ((byteAt x.toNat 1).toNat : Int) := (IntKind.wrap_u8 _).trans (shift_byte x 1)
         have b0 : IntKind.u8.wrap (u x) = ((byteAt x.toNat 0).toNat : Int) := (IntKind.wrap_u8 _).trans (by have := shift_byte x 0; simpa using this)
         have HX := Lib.hid hx
         have hn32 : n ≤ 32 := by have := HN4.out; omega
         have hgx : g + 1 < wx.heap.size := heap_lt HBX.out
         have hgz : g + 1 < wz.heap.size := heap_lt (HMZ.out.keep HBX.out)
         have hn32 : n ≤ 32 := by have := HN4.out; omega
         have hgx : g + 1 < wx.heap.size := heap_lt HBX.out
         have hgz : g + 1 < wz.heap.size := heap_lt (HMZ.out.keep HBX.out)
         have hi0 : (i : Int) < 8 := by omega
         clear hx
         go_upto_region 18 with (fail)
         refine wp_region_held_drew (S := fun w' => w'.cell? ⟨g + 1, i, none⟩ = some (.int .u32 (u x))) (by kernel_rfl) (cx) (fun hHeld => ?_)
         refine sH 0 ?_
         refine sH 1 ?_
         refine sH 2 ?_
         refine sH 3 ?_
         refine sH 4 ?_
         refine sH 5 ?_
         refine sH 6 ?_
         refine sH 7 ?_
         refine sH 8 ?_
         refine sH 9 ?_
         refine sH 10 ?_
         refine sH 11 ?_
         refine sH 12 ?_
         refine sH 13 ?_
         refine sH 14 ?_
         refine sH 15 ?_
         refine sH 16 ?_
         refine sH 17 ?_
         refine sH 18 ?_
         refine sH 19 ?_
         refine rH 20 (fun K hK => ?_)
         go_simp
         refine hK.out _ _ (ca _) (fun hHeld => ?_)
         clear hK K
         (try simp only [Act.put, pT])
         obtain ⟨i0, hi0, hz0, hz1, hz2⟩ := info_parts info_u8
         have hg4 := (row_four (w := wz) (byteAt x.toNat 3) (byteAt x.toNat 2) (byteAt x.toNat 1) (byteAt x.toNat 0) _ rfl).modNil (Mod.refl nil _).drew
         have hm4 : Mod nil wz (wz.alloc (.cells #[.int .u8 (byteAt x.toNat 3).toNat, .int .u8 (byteAt x.toNat 2).toNat, .int .u8 (byteAt x.toNat 1).toNat, .int .u8 (byteAt x.toNat 0).toNat] 5)).drew := ((Mod.refl nil wz).alloc _).drew
         have hx4 := cell_kept cx hm4 hgz (not_nil _)
         have hzw : wz.heap.size ≤ (wz.alloc (.cells #[.int .u8 (byteAt x.toNat 3).toNat, .int .u8 (byteAt x.toNat 2).toNat, .int .u8 (byteAt x.toNat 1).toNat, .int .u8 (byteAt x.toNat 0).toNat] 5)).drew.heap.size := hm4.size
         have hs4 : g + 1 < (wz.alloc (.cells #[.int .u8 (byteAt x.toNat 3).toNat, .int .u8 (byteAt x.toNat 2).toNat, .int .u8 (byteAt x.toNat 1).toNat, .int .u8 (byteAt x.toNat 0).toNat] 5)).drew.heap.size := by have := hm4.size; omega
         generalize (wz.alloc (.cells #[.int .u8 (byteAt x.toNat 3).toNat, .int .u8 (byteAt x.toNat 2).toNat, .int .u8 (byteAt x.toNat 1).toNat, .int .u8 (byteAt x.toNat 0).toNat] 5)).drew = w4 at *
         refine rH 21 (fun K hK => ?_)
         refine step_append_vec (S := fun k => wx.heap.size ≤ k) rfl _ _ _ rfl 5 i0 _ 1 1 Tryz.underlying40 hi0 hz0 hz1 hz2 rfl (by omega) _ n (bys (outTo V i)) rfl (HVZ.out.modNil hm4) _ 4 _ rfl hg4.cells (by simp [bys_length]) (bys_one _) (by unfold maxLen; omega) (by omega) ?_
         intro v6 w6 hv6 hm6
         obtain ⟨p6, c6, rfl⟩ := hv6.form
         have hx6 : w6.cell? ⟨g + 1, i, none⟩ = some (.int .u32 (u x)) := cell_kept hx4 hm6 hs4 (show ¬ wx.heap.size ≤ g + 1 by omega)
         have HV6 := Lib.hid hv6
         have HM6 : Hid (Mod nil wx w6) := Lib.hid ((HMZ.out.thenNil hm4).new hm6 (fun j h => h))
         clear hv6 hm6 hm4 hg4 hx4 hs4 hz0 hz1 hz2 hi0
         refine hK.out _ _ hx6 (fun hHeld => ?_)
         clear hK K
         (try simp only [Act.put, pT])
         refine rH 22 (fun K hK => ?_)
         go_simp
         refine hK.out _ _ hx6 (fun hHeld => ?_)
         clear hK K
         (try simp only [Act.put, pT])
         refine wpAnyH_done (by kernel_rfl) ?_ _
         go_wp2_with fail
         have hlx : layC x.toNat 4 4 = [byteAt x.toNat 3, byteAt x.toNat 2, byteAt x.toNat 1, byteAt x.toNat 0] := rfl
         exact ⟨⟨i + 1, n + 4, p6, c6, by omega, by go_num, rfl, Lib.hid (by have := HN4.out; omega), Lib.hid (by
          have h := HV6.out.mono (T := fun k => wx.heap.size ≤ k) (fun k _ hk => hk.elim id (fun h => Nat.le_trans HMZ.out.size (by omega)))
          rw [show outTo V (i + 1) = outTo V i ++ layC (V.list.getD i 0).toNat 4 4 from rfl, HX.out, hlx, bys_append]
          exact h), HM6⟩, by simp [intOf]; omega⟩
        ·obtain rfl : i = 8 := by omega
         obtain rfl : n = 32 := by have := HN4.out; omega
         have HEND : Hid (Post (.returned (.slice p 32 c)) wz) := Lib.hid (HPOST.out _ _ ⟨_, rfl, by rw [HSH.out]; exact HVZ.out.mono (fun k _ hk => Nat.le_trans HMW.out.size hk), HMW.out.thenNil HMZ.out⟩)
         clear HVZ HMZ HMW HN4 HSH
         go_wp2_with fail
         exact HEND.out
end Go.Proofs.YtdfahddpkkeldaaGreat

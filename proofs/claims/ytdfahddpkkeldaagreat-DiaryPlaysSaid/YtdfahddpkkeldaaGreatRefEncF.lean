/- cflref1: Enc. (Printed by wip/tools/gen_refenc.py.) -/
import Derived.Test.YtdfahddpkkeldaaGreatShort
import Derived.Test.YtdfahddpkkeldaaGreatNb
import Derived.Test.YtdfahddpkkeldaaGreatWireB
import Derived.Test.YtdfahddpkkeldaaGreatBytesB
import Derived.Test.YtdfahddpkkeldaaGreatCut
import Derived.Test.YtdfahddpkkeldaaGreatWireE
namespace Go.Proofs.YtdfahddpkkeldaaGreat
set_option linter.unusedSimpArgs false
set_option linter.unusedVariables false
open Go.RowKit
theorem refFits1 (n : Int) (w : World) (h0 : 0 ≤ n) (h1 : n ≤ 255) : Calls Tryz.prog 79 #[.int .i64 n, .int .i64 1] w fun e w' => e = .returned (.bool true) ∧ w' = w := by
 have h2 : n ≤ 4611686018427387904 := by omega
 go_enter Tryz.func79, Tryz.ntmps79
 go_wp2_with fail
 go_ret
 exact ⟨by simp <;> omega, rfl⟩
theorem refFits2 (n : Int) (w : World) (h0 : 0 ≤ n) (h1 : n ≤ 65535) : Calls Tryz.prog 79 #[.int .i64 n, .int .i64 2] w fun e w' => e = .returned (.bool true) ∧ w' = w := by
 have h2 : n ≤ 4611686018427387904 := by omega
 go_enter Tryz.func79, Tryz.ntmps79
 go_wp2_with fail
 go_ret
 exact ⟨by simp <;> omega, rfl⟩
theorem refFits4 (n : Int) (w : World) (h0 : 0 ≤ n) (h1 : n ≤ 4294967295) : Calls Tryz.prog 79 #[.int .i64 n, .int .i64 4] w fun e w' => e = .returned (.bool true) ∧ w' = w := by
 have h2 : n ≤ 4611686018427387904 := by omega
 go_enter Tryz.func79, Tryz.ntmps79
 go_wp2_with fail
 go_ret
 exact ⟨by simp <;> omega, rfl⟩
theorem refFits8 (n : Int) (w : World) (h0 : 0 ≤ n) (h1 : n ≤ 4611686018427387904) : Calls Tryz.prog 79 #[.int .i64 n, .int .i64 8] w fun e w' => e = .returned (.bool true) ∧ w' = w := by
 have h2 : n ≤ 4611686018427387904 := by omega
 go_enter Tryz.func79, Tryz.ntmps79
 go_wp2_with fail
 go_ret
 exact ⟨by simp <;> omega, rfl⟩
set_option maxRecDepth 100000 in
set_option maxHeartbeats 1000000 in
theorem refPutN (n size : Nat) (w : World) (h1 : 1 ≤ size) (h8 : size ≤ 8) (_hn : n ≤ 4611686018427387904) (sz : Int) (hs : sz = (size : Int)) :
  Calls Tryz.prog 81 #[.int .i64 n, .int .i64 sz] w fun e w' => ∃ p q, e = .returned (.slice p size q) ∧ IsVec (fun k => w.heap.size ≤ k) w' 5 1 (.slice p size q) size (bys (layC n size size)) ∧ Mod nil w w' := by
 subst hs
 go_enter Tryz.func81, Tryz.ntmps81
 go_wp2_with fail
 go_loopw [5, 6] (fun v5 v6 wr => ∃ (c : Nat) (x : Int) (p : Option Addr) (q : Nat), c ≤ size ∧ v5 = .slice p c q ∧ v6 = .int .i64 x ∧ Hid (x = (size : Int) - 1 - c) ∧ Hid (IsVec (fun k => w.heap.size ≤ k) wr 5 1 (.slice p c q) c (bys (layC n size c))) ∧ Hid (Mod nil w wr)) (fun _ v _ => (intOf v + 1).toNat)
 case atStart => exact ⟨0, _, none, 0, by omega, rfl, rfl, Lib.hid (by omega), Lib.hid (IsVec.nil _ _ _ _), Lib.hid (Mod.refl _ _)⟩
 case round =>
  obtain ⟨c, x, p, q, hc, rfl, rfl, HX, HV, HM⟩ := hrel
  by_cases hlt : c < size
  ·obtain ⟨k, rfl⟩ : ∃ k : Nat, x = k := ⟨size - 1 - c, by have := HX.out; omega⟩
   have hk : size - 1 - c = k := by have := HX.out; omega
   have hk8 : k < 8 := by omega
   have hb : ((byteAt n k).toNat : Int) = (n : Int) / 2 ^ (8 * k) % 256 := by rw [byteAt_nat]; simp
   have hw : IntKind.u8.wrap ((n : Int) / 2 ^ (8 * k)) = ((byteAt n k).toNat : Int) := by rw [IntKind.wrap_u8, hb]
   have hnat : (8 * (k : Int)).toNat = 8 * k := by omega
   have hmul : IntKind.i64.wrap (8 * (k : Int)) = 8 * (k : Int) := by rw [IntKind.wrap_i64]; omega
   have hu : IntKind.u64.wrap (8 * (k : Int)) = 8 * (k : Int) := by simp only [IntKind.wrap, IntKind.bits, IntKind.signed]; simp; omega
   have hx := row_one (byteAt n k) wr.heap.size rfl
   have hvl : IsVec (fun k => w.heap.size ≤ k) (wr.alloc (.cells #[.int .u8 (byteAt n k).toNat] 5)) 5 1 (.slice p c q) (layC n size c).length (bys (layC n size c)) := by rw [layC_length]; exact HV.out.modNil ((Mod.refl nil wr).alloc _)
   obtain ⟨v2, w2, hrun, hv2, m2⟩ := bytes_append 40 hvl hx (by rw [layC_length]; simp; omega)
   obtain ⟨p2, q2, rfl⟩ := hv2.form
   have el : layC n size c ++ [byteAt n k] = layC n size (c + 1) := by rw [layC_succ, hk]
   rw [el, layC_length] at hv2 hrun
   have HV2 : Hid (IsVec (fun k => w.heap.size ≤ k) w2 5 1 (.slice p2 (c + 1) q2) (c + 1) (bys (layC n size (c + 1)))) := Lib.hid (hv2.mono (fun j _ h => h.elim id (fun h => by have := HM.out.size; rw [World.size_alloc] at h; omega)))
   have HM2 : Hid (Mod nil w w2) := Lib.hid ((HM.out.thenNil ((Mod.refl nil wr).alloc _)).new m2 (fun k h => h))
   have HRUN := Lib.hid hrun
   have HXN : Hid ((k : Int) - 1 = (size : Int) - 1 - ((c + 1 : Nat) : Int)) := Lib.hid (by omega)
   clear hrun hv2 m2 el hx hvl hb hk
   go_wp2_with (first | (at_builtin; refine wpList_append_run rfl _ _ _ _ rfl rfl rfl HRUN.out ?_))
   exact ⟨⟨c + 1, (k : Int) - 1, p2, q2, by omega, rfl, by go_num, HXN, HV2, HM2⟩, by simp [intOf]⟩
  ·obtain rfl : c = size := by omega
   obtain rfl : x = -1 := by have := HX.out; omega
   go_wp2_with fail
   go_ret
   exact ⟨p, q, rfl, HV.out, HM.out⟩
/-- the reference's writer, all of it at blocks of S -/
structure IsREncE (S : Nat → Prop) (w : World) (b : Nat) (l : List UInt8) (er : Int) : Prop where
 lo : S b
 ex : ∃ p q, w.heap[b]? = some (.cells #[.slice p l.length q, .int .i64 er] 111 (0, 0)) ∧ IsVec (fun k => S k ∧ k ≠ b) w 5 1 (.slice p l.length q) l.length (bys l)
theorem IsREncE.mono {S T : Nat → Prop} {w : World} {b : Nat} {l : List UInt8} {er : Int} (h : IsREncE S w b l er) (hs : ∀ k, k < w.heap.size → S k → T k) : IsREncE T w b l er := by
 obtain ⟨p, q, h1, h2⟩ := h.ex
 exact ⟨hs b (heap_lt h1) h.lo, p, q, h1, h2.mono (fun k hk h => ⟨hs k hk h.1, h.2⟩)⟩
theorem IsREncE.mod {S T : Nat → Prop} {w w' : World} {b : Nat} {l : List UInt8} {er : Int} (h : IsREncE S w b l er) (m : Mod T w w') (hs : ∀ k, k < w.heap.size → S k → ¬ T k) : IsREncE S w' b l er := by
 obtain ⟨p, q, h1, h2⟩ := h.ex
 exact ⟨h.lo, p, q, (m.block b (heap_lt h1) (hs b (heap_lt h1) h.lo)).trans h1, h2.mod m (fun k hk h => hs k hk h.1)⟩
theorem IsREncE.modNil {S : Nat → Prop} {w w' : World} {b : Nat} {l : List UInt8} {er : Int} (h : IsREncE S w b l er) (m : Mod nil w w') : IsREncE S w' b l er := h.mod m (fun _ _ _ h => h)
abbrev IsREnc (S : Nat → Prop) (w : World) (b : Nat) (l : List UInt8) : Prop := IsREncE S w b l 0
set_option maxRecDepth 100000 in
set_option maxHeartbeats 1000000 in
theorem refNumSE (er : Int) (S : Nat → Prop) (b : Nat) (l : List UInt8) (n : Int) (sz : Int) (size : Nat) (W0 : World) (h : IsREncE S W0 b l er) (hB : ∀ k, W0.heap.size ≤ k → S k) (hs : sz = (size : Int)) (hsz : size = 1 ∨ size = 2 ∨ size = 8 ∨ size = 4) (h0 : 0 ≤ n) (hn : n ≤ 4611686018427387904) (hfit : n.toNat < 2 ^ (8 * size)) (hl : l.length ≤ 1099511627776) :
  Calls Tryz.prog 48 #[.pointer (some ⟨b, 0, none⟩), .int .i64 n, .int .i64 sz] W0 fun e w' => e = .returned (.tuple #[]) ∧ IsREncE S w' b (l ++ nb n size) er ∧ Mod S W0 w' := by
 obtain ⟨nn, rfl⟩ := Int.eq_ofNat_of_zero_le h0
 rw [Int.toNat_natCast] at hfit
 unfold nb
 rw [Int.toNat_natCast]
 have HFIT : Hid (∀ W, Calls Tryz.prog 79 #[.int .i64 nn, .int .i64 sz] W fun e w' => e = .returned (.bool true) ∧ w' = W) := Lib.hid (fun W => by
  subst hs
  rcases hsz with rfl | rfl | rfl | rfl
  ·exact refFits1 nn W (by omega) (by omega)
  ·exact refFits2 nn W (by omega) (by omega)
  ·exact refFits8 nn W (by omega) hn
  ·exact refFits4 nn W (by omega) (by omega))
 have h18 : 1 ≤ size ∧ size ≤ 8 := by omega
 have HPUT : Hid (∀ W, Calls Tryz.prog 81 #[.int .i64 nn, .int .i64 sz] W fun e w' => ∃ p q, e = .returned (.slice p size q) ∧ IsVec (fun k => W.heap.size ≤ k) w' 5 1 (.slice p size q) size (bys (layC nn size size)) ∧ Mod nil W w') := Lib.hid (fun W => refPutN nn size W h18.1 h18.2 (by omega) sz hs)
 have HLO := Lib.hid h.lo
 obtain ⟨p, q, hb0, hv0⟩ := h.ex
 obtain ⟨N, hN⟩ : ∃ N, l.length = N := ⟨_, rfl⟩
 rw [hN] at hb0 hv0 hl
 have HN := Lib.hid hN
 have c0 := cell_of hb0 0
 simp only [List.getElem?_toArray, List.getElem?_cons_zero] at c0
 have hbl := heap_lt hb0
 have HB0 := Lib.hid hb0
 have HV0 := Lib.hid hv0
 clear hs hsz hfit hb0 hv0 h hN h0
 go_enter Tryz.func48, Tryz.ntmps48
 go_wp2_with fail
 refine (HFIT.out W0).mono ?_
 rintro e w' ⟨rfl, hw'⟩
 obtain rfl : W0 = w' := hw'.symm
 go_upto_region 2 with (fail)
 refine region_till (fun w' => w'.cell? ⟨b, 0, none⟩ = some (.slice p N q)) 11 (by kernel_rfl) ?_
 refine sF 0 (fun _ => c0) ?_
 refine sF 1 (fun _ => c0) ?_
 refine sF 2 (fun _ => c0) ?_
 refine sF 3 (fun _ => c0) ?_
 refine sT 4 (c0) ?_
 refine sF 5 (fun _ => c0) ?_
 refine sF 6 (fun _ => c0) ?_
 refine rT 7 (fun K hK => ?_)
 go_simp
 refine (HPUT.out _).mono ?_
 rintro e w1 ⟨pv, qv, rfl, hv1, m1⟩
 have m1 : Mod nil W0 w1 := (show Mod nil W0 W0.drew from (Mod.refl nil W0).drew).thenNil m1
 have c1 := cell_kept c0 m1 hbl (not_nil _)
 refine hK.out _ _ (fun _ => c1) ?_
 clear hK K
 (try simp only [Act.put, pT])
 refine rT 8 (fun K hK => ?_)
 obtain ⟨i0, hi0, hz0, hz1, hz2⟩ := info_parts info_u8
 refine step_append_vec (S := fun k => S k ∧ k ≠ b) rfl _ _ _ rfl 5 i0 _ 1 1 Tryz.underlying40 hi0 hz0 hz1 hz2 rfl (by omega) _ N (bys l) rfl (HV0.out.modNil m1) _ size (bys (layC nn size size)) rfl hv1.cells (by rw [bys_length, layC_length]; omega) (bys_one _) (by unfold maxLen; omega) (by omega) ?_
 intro v2 w2 hv2 m2
 obtain ⟨p2, q2, rfl⟩ := hv2.form
 have hb2 := (m2.block b (by have := m1.size; omega) (fun h => h.2 rfl)).trans (m1.keep HB0.out)
 have c2 := cell_of hb2 0
 have z2 := free_of hb2 0
 simp only [List.getElem?_toArray, List.getElem?_cons_zero] at c2
 refine hK.out _ _ (fun _ => c2) ?_
 clear hK K
 (try simp only [Act.put, pT])
 refine sF 9 (fun _ => c2) ?_
 refine sF 10 (fun _ => c2) ?_
 refine rT 11 (fun K hK => ?_)
 go_simp
 refine hK.out _ _ (fun h => (by simp at h)) ?_
 clear hK K
 (try simp only [Act.put, pT])
 refine till_done (by kernel_rfl) ?_ _
 have HFIN : Hid (IsREncE S (w2.setCell ⟨b, 0, none⟩ (.slice p2 (N + size) q2)) b (l ++ layC nn size size) er ∧ Mod S W0 (w2.setCell ⟨b, 0, none⟩ (.slice p2 (N + size) q2))) := Lib.hid (by
  have el : (l ++ layC nn size size).length = N + size := by rw [List.length_append, layC_length, HN.out]
  have ms : Mod (· = b) w2 (w2.setCell ⟨b, 0, none⟩ (.slice p2 (N + size) q2)) := (Mod.refl (· = b) w2).setCell _ _ (fun _ => rfl)
  refine ⟨⟨HLO.out, p2, q2, ?_, ?_⟩, ?_⟩
  ·rw [el]; exact heap_setCell_same hb2 (.slice p2 (N + size) q2) (off := 0)
  ·rw [el, bys_append]
   exact (hv2.mono (fun k hk h => h.elim id (fun h => by have := m1.size; exact ⟨hB k (by omega), by omega⟩))).mod ms (fun k _ h e => h.2 e)
  ·exact ((m1.ofNil).trans m2 (fun k _ h => h.1)).trans ms (fun k _ (e : k = b) => by rw [e]; exact HLO.out))
 clear hv2 m2 hb2 c2 z2 m1 hv1 c1 c0 hbl HB0 HV0 hi0 hz0 hz1 hz2
 go_wp2_with fail
 go_end0
 exact ⟨rfl, HFIN.out.1, HFIN.out.2⟩
theorem refNumS (S : Nat → Prop) (b : Nat) (l : List UInt8) (n : Int) (sz : Int) (size : Nat) (W0 : World) (h : IsREnc S W0 b l) (hB : ∀ k, W0.heap.size ≤ k → S k) (hs : sz = (size : Int)) (hsz : size = 1 ∨ size = 2 ∨ size = 8 ∨ size = 4) (h0 : 0 ≤ n) (hn : n ≤ 4611686018427387904) (hfit : n.toNat < 2 ^ (8 * size)) (hl : l.length ≤ 1099511627776) :
  Calls Tryz.prog 48 #[.pointer (some ⟨b, 0, none⟩), .int .i64 n, .int .i64 sz] W0 fun e w' => e = .returned (.tuple #[]) ∧ IsREnc S w' b (l ++ nb n size) ∧ Mod S W0 w' :=
 refNumSE 0 S b l n sz size W0 h hB hs hsz h0 hn hfit hl
set_option maxHeartbeats 1000000 in
theorem refRawE (er : Int) (S T : Nat → Prop) (b : Nat) (l m : List UInt8) (v : Value) (W0 : World) (h : IsREncE S W0 b l er) (hB : ∀ k, W0.heap.size ≤ k → S k) (hx : IsRow T W0 v (bys m)) (hl : l.length + m.length ≤ 1099511627776) :
  Calls Tryz.prog 47 #[.pointer (some ⟨b, 0, none⟩), v] W0 fun e w' => e = .returned (.tuple #[]) ∧ IsREncE S w' b (l ++ m) er ∧ Mod S W0 w' := by
 have HLO := Lib.hid h.lo
 obtain ⟨p, q, hb0, hv0⟩ := h.ex
 obtain ⟨v2, w2, hrun, hv2, m2⟩ := bytes_append 40 hv0 hx (by omega)
 obtain ⟨p2, q2, rfl⟩ := hv2.form
 obtain ⟨N, hN⟩ : ∃ N, l.length = N := ⟨_, rfl⟩
 rw [hN] at hb0 hrun
 obtain ⟨M, hM⟩ : ∃ N, (l ++ m).length = N := ⟨_, rfl⟩
 rw [hM] at hrun hv2
 have c0 := cell_of hb0 0
 simp only [List.getElem?_toArray, List.getElem?_cons_zero] at c0
 have hbl := heap_lt hb0
 have hb2 := (m2.block b hbl (fun h => h.2 rfl)).trans hb0
 have c2 := cell_of hb2 0
 have z2 := free_of hb2 0
 simp only [List.getElem?_toArray, List.getElem?_cons_zero] at c2
 have HRUN := Lib.hid hrun
 have HFIN : Hid (IsREncE S (w2.setCell ⟨b, 0, none⟩ (.slice p2 M q2)) b (l ++ m) er ∧ Mod S W0 (w2.setCell ⟨b, 0, none⟩ (.slice p2 M q2))) := Lib.hid (by
  have ms : Mod (· = b) w2 (w2.setCell ⟨b, 0, none⟩ (.slice p2 M q2)) := (Mod.refl (· = b) w2).setCell _ _ (fun _ => rfl)
  refine ⟨⟨HLO.out, p2, q2, ?_, ?_⟩, ?_⟩
  ·rw [hM]; exact heap_setCell_same hb2 (.slice p2 M q2) (off := 0)
  ·rw [hM]
   exact (hv2.mono (fun k hk h => h.elim id (fun h => ⟨hB k h, by omega⟩))).mod ms (fun k _ h e => h.2 e)
  ·exact (m2.mono (fun k _ h => h.1)).trans ms (fun k _ (e : k = b) => by rw [e]; exact HLO.out))
 obtain ⟨pv, cv, rfl, -⟩ := id hx
 rw [bys_length] at *
 clear hv2 m2 hb2 hbl hb0 hv0 hrun h hx hN hM
 go_enter Tryz.func47, Tryz.ntmps47
 go_wp2_with (first | (at_builtin; refine wpList_append_run rfl _ _ _ _ rfl rfl rfl HRUN.out ?_))
 go_end0
 exact ⟨rfl, HFIN.out.1, HFIN.out.2⟩
theorem refRaw (S T : Nat → Prop) (b : Nat) (l m : List UInt8) (v : Value) (W0 : World) (h : IsREnc S W0 b l) (hB : ∀ k, W0.heap.size ≤ k → S k) (hx : IsRow T W0 v (bys m)) (hl : l.length + m.length ≤ 1099511627776) :
  Calls Tryz.prog 47 #[.pointer (some ⟨b, 0, none⟩), v] W0 fun e w' => e = .returned (.tuple #[]) ∧ IsREnc S w' b (l ++ m) ∧ Mod S W0 w' :=
 refRawE 0 S T b l m v W0 h hB hx hl
theorem refDone (S : Nat → Prop) (b : Nat) (l : List UInt8) (W0 : World) (h : IsREnc S W0 b l) :
  Calls Tryz.prog 49 #[.pointer (some ⟨b, 0, none⟩)] W0 fun e w' => ∃ v, e = .returned (.tuple #[v, .int .i64 0]) ∧ IsVec S w' 5 1 v l.length (bys l) ∧ w' = W0 := by
 obtain ⟨p, q, hb0, hv0⟩ := h.ex
 obtain ⟨N, hN⟩ : ∃ N, l.length = N := ⟨_, rfl⟩
 rw [hN] at hb0 hv0 ⊢
 have HV0 := Lib.hid hv0
 have c0 := cell_of hb0 0
 have c1 := cell_of hb0 1
 simp only [List.getElem?_toArray, List.getElem?_cons_zero, List.getElem?_cons_succ] at c0 c1
 clear hb0 hv0 h hN
 go_enter Tryz.func49, Tryz.ntmps49
 go_wp2_with fail
 go_ret2
 exact ⟨_, rfl, HV0.out.mono (fun k _ h => h.1), rfl⟩
end Go.Proofs.YtdfahddpkkeldaaGreat

/- cflref1's writer with its error: any number, any text. -/
namespace Go.Proofs.YtdfahddpkkeldaaGreat
open Go.RowKit
theorem IsREncE.lt {S : Nat → Prop} {w : World} {b : Nat} {l : List UInt8} {er : Int} (h : IsREncE S w b l er) : b < w.heap.size := by
 obtain ⟨p, q, h1, h2⟩ := h.ex
 exact heap_lt h1
end Go.Proofs.YtdfahddpkkeldaaGreat

/- cflref22: Bad, Next, Head. (Printed by wip/tools/gen_refdiary.py.) -/
import Derived.Test.YtdfahddpkkeldaaGreatRefEncF
import Derived.Test.YtdfahddpkkeldaaGreatRefShaD
import Derived.Test.YtdfahddpkkeldaaGreatChain
set_option linter.unusedSimpArgs false
set_option linter.unusedVariables false
namespace Go.Proofs.YtdfahddpkkeldaaGreat
open Go.RowKit
theorem refBad (k : Int) (p : Option Addr) (n c : Nat) (w : World) :
  Calls Tryz.prog 37 #[.agg #[.int .i64 k, .slice p n c]] w fun e w' => e = .returned (.int .i64 (entErr k n)) ∧ Mod nil w w' := by
 refine (?_ : ∀ Post : Ending → World → Prop, Hid (∀ e w', (e = .returned (.int .i64 (entErr k n)) ∧ Mod nil w w') → Post e w') → Calls Tryz.prog 37 #[.agg #[.int .i64 k, .slice p n c]] w Post) _ (Lib.hid (fun _ _ h => h))
 intro Post HPOST
 have HE := Lib.hid (HPOST.out (.returned (.int .i64 (entErr k n))))
 rcases (show k < 0 ∨ (0 ≤ k ∧ 255 < k) ∨ (0 ≤ k ∧ k ≤ 255 ∧ 60000 < n) ∨ (0 ≤ k ∧ k ≤ 255 ∧ n ≤ 60000) by omega) with h | ⟨h1, h2⟩ | ⟨h1, h2, h3⟩ | ⟨h1, h2, h3⟩
 ·rw [show entErr k n = 1 from by unfold entErr; rw [if_pos (.inl h)]] at HE
  go_enter Tryz.func37, Tryz.ntmps37
  go_wp2_with fail
  exact HE.out _ (by first | exact ⟨rfl, (Mod.refl _ _).alloc _⟩ | exact ⟨trivial, (Mod.refl _ _).alloc _⟩)
 ·rw [show entErr k n = 1 from by unfold entErr; rw [if_pos (.inr h2)]] at HE
  go_enter Tryz.func37, Tryz.ntmps37
  go_wp2_with fail
  exact HE.out _ (by first | exact ⟨rfl, (Mod.refl _ _).alloc _⟩ | exact ⟨trivial, (Mod.refl _ _).alloc _⟩)
 ·rw [show entErr k n = 3 from by unfold entErr; rw [if_neg (by omega), if_pos h3]] at HE
  go_enter Tryz.func37, Tryz.ntmps37
  go_wp2_with fail
  exact HE.out _ (by first | exact ⟨rfl, (Mod.refl _ _).alloc _⟩ | exact ⟨trivial, (Mod.refl _ _).alloc _⟩)
 ·rw [show entErr k n = 0 from by unfold entErr; rw [if_neg (by omega), if_neg (by omega)]] at HE
  go_enter Tryz.func37, Tryz.ntmps37
  go_wp2_with fail
  exact HE.out _ (by first | exact ⟨rfl, (Mod.refl _ _).alloc _⟩ | exact ⟨trivial, (Mod.refl _ _).alloc _⟩)
set_option maxRecDepth 100000 in
set_option maxHeartbeats 2000000 in
theorem refNext (SH T : Nat → Prop) (nh ch nl cl k : Nat) (ph pb : Option Addr) (h body : List UInt8) (w : World) (hh : IsRow SH w (.slice ph nh ch) (bys h)) (hrow : IsRow T w (.slice pb nl cl) (bys body)) (hk : k ≤ 255) (hn : nl ≤ 60000) (hh32 : h.length = 32) :
  Calls Tryz.prog 53 #[.slice ph nh ch, .agg #[.int .i64 (k : Nat), .slice pb nl cl]] w fun e w' => ∃ p c, e = .returned (.slice p 32 c) ∧ IsVec (fun j => w.heap.size ≤ j) w' 5 1 (.slice p 32 c) 32 (bys (nextH h ⟨(k : Nat), body⟩)) ∧ Mod nil w w' := by
 refine (?_ : ∀ Post : Ending → World → Prop, Hid (∀ e w', (∃ p c, e = .returned (.slice p 32 c) ∧ IsVec (fun j => w.heap.size ≤ j) w' 5 1 (.slice p 32 c) 32 (bys (nextH h ⟨(k : Nat), body⟩)) ∧ Mod nil w w') → Post e w') → Calls Tryz.prog 53 #[.slice ph nh ch, .agg #[.int .i64 (k : Nat), .slice pb nl cl]] w Post) _ (Lib.hid (fun _ _ h => h))
 intro Post HPOST
 have hbl : body.length = nl := by
  obtain ⟨_, _, h, _⟩ := hrow
  simp only [Value.slice.injEq, bys_length] at h
  exact h.2.1.symm
 have HBL := Lib.hid hbl
 have HROW := Lib.hid hrow.here
 have HHR := Lib.hid hh.here
 have HH32 := Lib.hid hh32
 clear hrow hbl hh hh32
 go_enter Tryz.func53, Tryz.ntmps53
 go_wp2_with fail
 obtain ⟨G, hG⟩ : ∃ G, w.heap.size = G := ⟨_, rfl⟩
 (try rw [hG])
 generalize hw1 : World.alloc (World.alloc w _) _ = w1
 have hm1 : Mod nil w w1 := by rw [← hw1]; exact ((Mod.refl _ _).alloc _).alloc _
 have hs1 : w1.heap.size = G + 2 := by rw [← hw1, ← hG, World.size_alloc, World.size_alloc]
 have hx1 : w1.heap[G]? = some (.cells #[.int .i64 (k : Nat), .slice pb nl cl] 42 (0, 0)) := by rw [← hw1, ← hG]; exact heap_alloc_old (heap_alloc_new _ _)
 have hb1 : w1.heap[G + 1]? = some (.cells #[.slice none 0 0, .int .i64 0] 111 (0, 0)) := by rw [← hw1, ← hG, show w.heap.size + 1 = (World.alloc w _).heap.size from (World.size_alloc _ _).symm]; exact heap_alloc_new _ _
 have HG := Lib.hid hG
 have HKEEP : Hid (∀ W, Mod (fun k => G < k) w1 W → W.cell? ⟨G, 0, none⟩ = some (.int .i64 (k : Nat)) ∧ W.cell? ⟨G, 1, none⟩ = some (.slice pb nl cl)) := Lib.hid (fun W m => by
  have hx := (m.block G (heap_lt hx1) (by omega)).trans hx1
  exact ⟨cell_of hx 0, cell_of hx 1⟩)
 have HM1 := Lib.hid hm1
 have HROW1 := Lib.hid (HROW.out.modNil hm1)
 have HHR1 := Lib.hid (HHR.out.modNil hm1)
 have HS1 := Lib.hid hs1
 obtain ⟨b, hb⟩ : ∃ b, G + 1 = b := ⟨_, rfl⟩
 (try rw [hb])
 rw [hb] at hb1
 have HB := Lib.hid hb
 have HE : Hid (IsREnc (fun k => G < k) w1 b []) := Lib.hid ⟨by omega, none, 0, hb1, IsVec.nil _ _ _ _⟩
 have M : Hid (Mod (fun k => G < k) w1 w1) := Lib.hid (Mod.refl _ _)
 obtain ⟨a0, a1⟩ := HKEEP.out w1 M.out
 clear hw1 hx1 hb1 hm1 hb hs1 hG
 go_wp2_with fail
 refine (refRaw (fun k => G < k) _ b _ h _ w1 HE.out (fun k hk => by have := M.out.size; have := HS1.out; omega) HHR1.out (by rw [HH32.out]; simp)).mono ?_
 rintro e w2 ⟨rfl, he2, m2⟩
 have HE2 := Lib.hid he2
 have M2 := Lib.hid (M.out.trans m2 (fun _ _ h => h))
 clear HE M he2 m2 a0 a1
 have HE := HE2
 have M := M2
 clear HE2 M2
 obtain ⟨a0, a1⟩ := HKEEP.out w2 M.out
 go_wp2_with fail
 refine (refNumS (fun k => G < k) b _ (k : Nat) 1 1 w2 HE.out (fun k hk => by have := M.out.size; have := HS1.out; omega) rfl (by omega) (by omega) (by omega) (by simp; omega) (by simp only [List.length_append, HH32.out]; simp)).mono ?_
 rintro e w3 ⟨rfl, he2, m2⟩
 have HE2 := Lib.hid he2
 have M2 := Lib.hid (M.out.trans m2 (fun _ _ h => h))
 clear HE M he2 m2 a0 a1
 have HE := HE2
 have M := M2
 clear HE2 M2
 obtain ⟨a0, a1⟩ := HKEEP.out w3 M.out
 go_wp2_with fail
 refine (refNumS (fun k => G < k) b _ (nl : Nat) 4 4 w3 HE.out (fun k hk => by have := M.out.size; have := HS1.out; omega) rfl (by omega) (by omega) (by omega) (by simp; omega) (by simp only [List.length_append, nb_length, HH32.out]; simp)).mono ?_
 rintro e w4 ⟨rfl, he2, m2⟩
 have HE2 := Lib.hid he2
 have M2 := Lib.hid (M.out.trans m2 (fun _ _ h => h))
 clear HE M he2 m2 a0 a1
 have HE := HE2
 have M := M2
 clear HE2 M2
 obtain ⟨a0, a1⟩ := HKEEP.out w4 M.out
 go_wp2_with fail
 refine (refRaw (fun k => G < k) (fun j => T j ∧ j < w.heap.size) b _ body _ w4 HE.out (fun k hk => by have := M.out.size; have := HS1.out; omega) (HROW1.out.mod M.out (fun j _ hj h => by have := hj.2; have := HG.out; omega)) (by simp only [List.length_append, nb_length, HH32.out, HBL.out]; simp; omega)).mono ?_
 rintro e w5 ⟨rfl, he2, m2⟩
 have HE2 := Lib.hid he2
 have M2 := Lib.hid (M.out.trans m2 (fun _ _ h => h))
 clear HE M he2 m2 a0 a1
 have HE := HE2
 have M := M2
 clear HE2 M2
 obtain ⟨a0, a1⟩ := HKEEP.out w5 M.out
 have hlay : [] ++ h ++ Go.Proofs.YtdfahddpkkeldaaGreat.nb (k : Nat) 1 ++ Go.Proofs.YtdfahddpkkeldaaGreat.nb (nl : Nat) 4 ++ body = h ++ entStart k nl ++ body := by
  simp [nb, entStart, List.append_assoc]
 rw [hlay] at HE
 obtain ⟨L, hL⟩ : ∃ L, h ++ entStart k nl ++ body = L := ⟨_, rfl⟩
 have hLn : nextH h ⟨(k : Nat), body⟩ = shaOf L := by rw [← hL, ← HBL.out]; rfl
 have hLl : L.length = 37 + nl := by rw [← hL, List.length_append, List.length_append, entStart_length, HH32.out, HBL.out]
 rw [hL] at HE
 rw [hLn] at HPOST
 obtain ⟨p5, c5, hb5, hv5⟩ := HE.out.ex
 rw [hLl] at hb5 hv5
 have b0 := cell_of hb5 0
 simp only [List.getElem?_toArray, List.getElem?_cons_zero] at b0
 have HV5 := Lib.hid hv5
 have HLL := Lib.hid hLl
 have HM5 : Hid (Mod nil w w5) := Lib.hid (HM1.out.new M.out (fun j hj => by have := HG.out; omega))
 clear hb5 hv5 hlay hL hLn hLl a0 a1
 go_wp2_with fail
 refine (refHash _ _ L w5 HV5.out.row (by rw [HLL.out]; omega)).mono ?_
 rintro e w6 ⟨v', rfl, hv, hm⟩
 obtain ⟨p, c, rfl⟩ := hv.form
 have HEND := Lib.hid (HPOST.out _ _ ⟨p, c, rfl, hv.mono (fun j _ hj => Nat.le_trans HM5.out.size hj), HM5.out.thenNil hm⟩)
 clear hv hm
 go_wp2_with fail
 exact HEND.out
set_option maxRecDepth 100000 in
set_option maxHeartbeats 2000000 in
theorem refHeadOf (S : Nat → Prop) (p : Option Addr) (n c : Nat) (l : List En) (w : World) (hl : IsEns S w (.slice p n c) l) (hok : ∀ e ∈ l, 0 ≤ e.k ∧ e.k ≤ 255 ∧ e.b.length ≤ 60000) (hn : n ≤ 1000000) :
  Calls Tryz.prog 27 #[.slice p n c] w fun e w' => ∃ p' c', e = .returned (.slice p' 32 c') ∧ IsVec (fun j => w.heap.size ≤ j) w' 5 1 (.slice p' 32 c') 32 (bys (headH l)) ∧ Mod nil w w' := by
 refine (?_ : ∀ Post : Ending → World → Prop, Hid (∀ e w', (∃ p' c', e = .returned (.slice p' 32 c') ∧ IsVec (fun j => w.heap.size ≤ j) w' 5 1 (.slice p' 32 c') 32 (bys (headH l)) ∧ Mod nil w w') → Post e w') → Calls Tryz.prog 27 #[.slice p n c] w Post) _ (Lib.hid (fun _ _ h => h))
 intro Post HPOST
 have hln : l.length = n := by
  obtain ⟨_, _, h⟩ := hl.form
  simp only [Value.slice.injEq] at h
  exact h.2.1.symm
 have HLN := Lib.hid hln
 have HL := Lib.hid (hl.mono (T := fun k => S k ∧ k < w.heap.size) (fun k hk h => ⟨h, hk⟩))
 have HOK := Lib.hid hok
 obtain ⟨i0, hi0, hz0, hz1, hz2⟩ := info_parts info_u8
 have hmk : (Instr.makeSlice 40 (.int .i64 32) (.int .i64 32)).run Tryz.prog w = .ok (.slice (some ⟨w.heap.size, 0, none⟩) 32 32) (w.alloc (.cells (List.replicate 32 (.int .u8 0)).toArray 5)) := run_make_one 40 5 i0 _ 1 Tryz.underlying40 hi0 hz0 hz1 hz2 rfl 32 (by omega) (by unfold maxLen; omega) w
 obtain ⟨L, hL⟩ : ∃ L, (List.replicate 32 (Value.int .u8 0)).toArray = L := ⟨_, rfl⟩
 rw [hL] at hmk
 have HLZ := Lib.hid hL
 clear hL hi0 hz0 hz1 hz2 hln hl hok
 go_enter Tryz.func27, Tryz.ntmps27
 go_wp2_with fail
 obtain ⟨g, hg⟩ : ∃ g, w.heap.size = g := ⟨_, rfl⟩
 (try rw [hg])
 generalize hw1 : World.alloc w _ = w1
 have hb1 : w1.heap[g]? = some (.cells (bys zeros32).toArray 5 (0, 0)) := by rw [← hw1, ← hg, zeros32, bys_replicate0, HLZ.out]; exact heap_alloc_new _ _
 have hm1 : Mod nil w w1 := by rw [← hw1]; exact (Mod.refl _ _).alloc _
 have HV1 : Hid (IsRow (fun k => w.heap.size ≤ k) w1 (.slice (some ⟨g, 0, none⟩) 32 32) (bys zeros32)) := Lib.hid (IsRow.ofBlock hb1 (by omega) 32 32 (by simp [zeros32, bys]))
 have HW1 : Hid (IsVec (fun k => w.heap.size ≤ k) w1 5 1 (.slice (some ⟨g, 0, none⟩) 32 32) 32 (bys zeros32)) := Lib.hid ⟨⟨by simp [zeros32, bys], .inr ⟨g, 32, _, rfl, Nat.zero_le _, hb1, Nat.le_refl _, by unfold maxLen; omega, by simp [zeros32, bys], by simp [zeros32, bys]⟩⟩, fun k hk => by simp [Value.ownBlock] at hk; omega⟩
 have HM1 := Lib.hid hm1
 clear hw1 hb1 hm1 hmk hg
 go_loopw [3, 4] (fun v0 v1 wr => ∃ (i : Nat) (ph : Option Addr) (ch : Nat), i ≤ n ∧ v0 = .slice ph 32 ch ∧ v1 = .int .i64 i ∧ Hid (IsVec (fun k => w.heap.size ≤ k) wr 5 1 (.slice ph 32 ch) 32 (bys (headH (l.take i)))) ∧ Hid (Mod nil w wr)) (fun _ v _ => n - (intOf v).toNat)
 case atStart => exact ⟨0, _, _, by omega, rfl, rfl, HW1, HM1⟩
 case round =>
  obtain ⟨i, ph, ch, hi, rfl, rfl, HV, HM⟩ := hrel
  by_cases hlt : i < n
  ·have hil : i < l.length := by rw [HLN.out]; exact hlt
   have hitem := (HL.out.modNil HM.out).at i hil
   obtain ⟨g, o, x, rfl, -, hgw, hx0, hx1, hrow⟩ := hitem
   obtain ⟨⟨k, bd⟩, hent⟩ : ∃ e, l[i] = e := ⟨_, rfl⟩
   have hok := HOK.out _ (List.getElem_mem hil)
   have HTK : Hid (l.take (i + 1) = l.take i ++ [l[i]]) := Lib.hid (List.take_succ_eq_append_getElem hil)
   rw [hent] at hx0 hrow hok HTK
   simp only at hx0 hrow hok
   obtain ⟨kk, rfl⟩ := Int.eq_ofNat_of_zero_le hok.1
   obtain ⟨pb, cb, rfl, -⟩ := id hrow
   rw [bys_length] at hx1 hrow
   obtain ⟨nl, hnl⟩ : ∃ q, bd.length = q := ⟨_, rfl⟩
   rw [hnl] at hx1 hrow
   have HN : Hid (Calls Tryz.prog 53 #[.slice ph 32 ch, .agg #[.int .i64 (kk : Nat), .slice pb nl cb]] wr fun e w' => ∃ p c, e = .returned (.slice p 32 c) ∧ IsVec (fun j => wr.heap.size ≤ j) w' 5 1 (.slice p 32 c) 32 (bys (headH (l.take (i + 1)))) ∧ Mod nil wr w') := Lib.hid (by
    rw [HTK.out, headH_snoc]
    exact refNext _ _ 32 ch nl cb kk ph pb (headH (l.take i)) bd wr HV.out.row hrow (by omega) (by omega) (headH_length _))
   clear hrow hent hok hnl hil
   go_wp2_with fail
   refine HN.out.mono ?_
   rintro e w3 ⟨p3, c3, rfl, hv3, hm3⟩
   have HV3 : Hid (IsVec (fun k => w.heap.size ≤ k) w3 5 1 (.slice p3 32 c3) 32 (bys (headH (l.take (i + 1))))) := Lib.hid (hv3.mono (fun k _ h => Nat.le_trans HM.out.size h))
   have HM3 := Lib.hid (HM.out.thenNil hm3)
   clear hv3 hm3 HN
   go_wp2_with fail
   exact ⟨⟨i + 1, p3, c3, by omega, rfl, by go_num, HV3, HM3⟩, by simp [intOf]; omega⟩
  ·obtain rfl : i = n := by omega
   have htake : l.take i = l := List.take_of_length_le (by rw [HLN.out]; exact Nat.le_refl _)
   have HEND := Lib.hid (HPOST.out _ _ ⟨ph, ch, rfl, by have h := HV.out; rw [htake] at h; exact h, HM.out⟩)
   clear htake
   go_wp2_with fail
   exact HEND.out
end Go.Proofs.YtdfahddpkkeldaaGreat

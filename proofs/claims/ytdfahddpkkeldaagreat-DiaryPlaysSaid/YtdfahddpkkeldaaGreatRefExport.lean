/- cflref22: Export of entries that may be. (Printed by wip/tools/gen_refdiary.py.) -/
import Derived.Test.YtdfahddpkkeldaaGreatRefDiary
import Derived.Test.YtdfahddpkkeldaaGreatExport
set_option linter.unusedSimpArgs false
set_option linter.unusedVariables false
namespace Go.Proofs.YtdfahddpkkeldaaGreat
open Go.RowKit
set_option maxRecDepth 100000 in
set_option maxHeartbeats 4000000 in
theorem refExport (S : Nat → Prop) (p : Option Addr) (n c : Nat) (l : List En) (w : World) (hl : IsEns S w (.slice p n c) l) (hok : ∀ e ∈ l, 0 ≤ e.k ∧ e.k ≤ 255 ∧ e.b.length ≤ 60000) (hn : n ≤ 10000) :
  Calls Tryz.prog 21 #[.slice p n c] w fun e w' => ∃ p' c', e = .returned (.tuple #[.slice p' (exportF l).length c', .int .i64 0]) ∧ IsVec (fun k => w.heap.size ≤ k) w' 5 1 (.slice p' (exportF l).length c') (exportF l).length (bys (exportF l)) ∧ Mod nil w w' := by
 refine (?_ : ∀ Post : Ending → World → Prop, Hid (∀ e w', (∃ p' c', e = .returned (.tuple #[.slice p' (exportF l).length c', .int .i64 0]) ∧ IsVec (fun k => w.heap.size ≤ k) w' 5 1 (.slice p' (exportF l).length c') (exportF l).length (bys (exportF l)) ∧ Mod nil w w') → Post e w') → Calls Tryz.prog 21 #[.slice p n c] w Post) _ (Lib.hid (fun _ _ h => h))
 intro Post HPOST
 have hln : l.length = n := by
  obtain ⟨_, _, h⟩ := hl.form
  simp only [Value.slice.injEq] at h
  exact h.2.1.symm
 have HLN := Lib.hid hln
 have HL := Lib.hid (hl.mono (T := fun k => S k ∧ k < w.heap.size) (fun k hk h => ⟨h, hk⟩))
 have HOK := Lib.hid hok
 have HBL : Hid (∀ i, i ≤ n → (bodyB (l.take i)).length ≤ 60005 * i) := Lib.hid (fun i hi => by
  have h : ∀ m : List En, (∀ e ∈ m, e.b.length ≤ 60000) → (bodyB m).length ≤ 60005 * m.length := by
   intro m
   induction m with
   | nil => intro _; simp [bodyB]
   | cons a m ih =>
    intro hm
    have h1 := ih (fun e he => hm e (List.mem_cons_of_mem _ he))
    have h2 := hm a (List.mem_cons_self ..)
    simp only [bodyB, List.map_cons, List.flatten_cons, List.length_append, entStart_length, List.length_cons] at h1 ⊢
    omega
  have h1 := h (l.take i) (fun e he => (hok e (List.mem_of_mem_take he)).2.2)
  rw [List.length_take] at h1
  omega)
 have hn64 : (n : Int) ≤ 65535 := by omega
 clear hln hl hok
 go_enter Tryz.func21, Tryz.ntmps21
 go_wp2_with fail
 go_loopw [4] (fun v4 wr => ∃ i : Nat, i ≤ n ∧ v4 = .int .i64 i ∧ Hid (Mod nil w wr)) (fun v _ => n - (intOf v).toNat)
 case atStart => exact ⟨0, by omega, rfl, Lib.hid (Mod.refl _ _)⟩
 case round =>
  obtain ⟨i, hi, rfl, HM⟩ := hrel
  by_cases hlt : i < n
  ·have hil : i < l.length := by rw [HLN.out]; exact hlt
   obtain ⟨g, o, x, rfl, -, hgw, hx0, hx1, hrow⟩ := (HL.out.modNil HM.out).at i hil
   obtain ⟨⟨k, bd⟩, hent⟩ : ∃ e, l[i] = e := ⟨_, rfl⟩
   have hok := HOK.out _ (List.getElem_mem hil)
   rw [hent] at hx0 hrow hok
   simp only at hx0 hrow hok
   obtain ⟨pb, cb, rfl, -⟩ := id hrow
   rw [bys_length] at hx1 hrow
   have HB : Hid (Calls Tryz.prog 37 #[.agg #[.int .i64 k, .slice pb bd.length cb]] wr fun e w' => e = .returned (.int .i64 0) ∧ Mod nil wr w') := Lib.hid (by
    have h := refBad k pb bd.length cb wr
    rwa [show entErr k bd.length = 0 from by unfold entErr; rw [if_neg (by omega), if_neg (by omega)]] at h)
   clear hrow hent hok hil
   go_wp2_with fail
   refine HB.out.mono ?_
   rintro e w3 ⟨rfl, hm3⟩
   have HM3 := Lib.hid (HM.out.thenNil hm3)
   clear hm3 HB hx0 hx1
   go_wp2_with fail
   exact ⟨⟨i + 1, by omega, by go_num, HM3⟩, by simp [intOf]; omega⟩
  ·obtain rfl : i = n := by omega
   go_upto_region 10 with (fail)
   obtain ⟨b, hb⟩ : ∃ b, wr.heap.size = b := ⟨_, rfl⟩
   (try rw [hb])
   generalize hw1 : World.alloc wr _ = w1
   have hm1 : Mod nil wr w1 := by rw [← hw1]; exact (Mod.refl _ _).alloc _
   have hs1 : w1.heap.size = b + 1 := by rw [← hw1, World.size_alloc, hb]
   have hb1 : w1.heap[b]? = some (.cells #[.slice none 0 0, .int .i64 0] 111 (0, 0)) := by rw [← hw1, ← hb]; exact heap_alloc_new _ _
   have HM1 := Lib.hid (HM.out.thenNil hm1)
   obtain ⟨B, hB⟩ : ∃ B, b = B := ⟨_, rfl⟩
   have HBB : Hid (w.heap.size ≤ B) := Lib.hid (by have := HM.out.size; omega)
   have HB1 := Lib.hid hb1
   have HS1 := Lib.hid hs1
   have HBE := Lib.hid hB
   have HHD := Lib.hid (refHeadOf _ p i c l w1 (HL.out.modNil HM1.out) HOK.out (by omega))
   clear hw1 hm1 hs1 hb1 hb HM hB hlt
   go_wp2_with fail
   refine HHD.out.mono ?_
   rintro e w2 ⟨ph, ch, rfl, hvh, hm2⟩
   have HE : Hid (IsREnc (fun k => B ≤ k) w2 b []) := Lib.hid ⟨Nat.le_of_eq HBE.out.symm, none, 0, hm2.keep HB1.out, IsVec.nil _ _ _ _⟩
   have M : Hid (Mod (fun k => B ≤ k) w1 w2) := Lib.hid hm2.ofNil
   have HVH := Lib.hid hvh
   have HBS : Hid (B < w1.heap.size) := Lib.hid (by have := HS1.out; have := HBE.out; omega)
   clear hvh hm2 HHD
   go_wp2_with fail
   refine (refRaw (fun k => B ≤ k) _ b _ (headH l) _ w2 HE.out (fun k hk => by have := M.out.size; have := HBS.out; omega) (HVH.out.row) (by rw [headH_length]; simp)).mono ?_
   rintro e w3 ⟨rfl, he2, m2⟩
   have HE2 := Lib.hid he2
   have M2 := Lib.hid (M.out.trans m2 (fun _ _ h => h))
   clear HE M he2 m2
   have HE := HE2
   have M := M2
   clear HE2 M2
   go_wp2_with fail
   refine (refNumS (fun k => B ≤ k) b _ (i : Nat) 2 2 w3 HE.out (fun k hk => by have := M.out.size; have := HBS.out; omega) rfl (by omega) (by omega) (by omega) (by simp; omega) (by simp only [List.length_append, headH_length]; simp)).mono ?_
   rintro e w4 ⟨rfl, he2, m2⟩
   have HE2 := Lib.hid he2
   have M2 := Lib.hid (M.out.trans m2 (fun _ _ h => h))
   clear HE M he2 m2
   have HE := HE2
   have M := M2
   clear HE2 M2
   have hst : [] ++ headH l ++ Go.Proofs.YtdfahddpkkeldaaGreat.nb (i : Nat) 2 = headH l ++ layC l.length 2 2 := by rw [HLN.out]; simp [nb]
   rw [hst] at HE
   obtain ⟨H2, hH2⟩ : ∃ q, headH l ++ layC l.length 2 2 = q := ⟨_, rfl⟩
   have hH2l : H2.length = 34 := by rw [← hH2, List.length_append, headH_length, layC_length]
   rw [hH2] at HE
   have HH2 := Lib.hid hH2
   have HH2L := Lib.hid hH2l
   have hi := Nat.le_refl i
   obtain ⟨n, hn'⟩ : ∃ n, n = i := ⟨_, rfl⟩
   subst hn'
   clear hst hH2 hH2l HVH hi
   go_wp2_with fail
   go_loopw [7] (fun v7 wr => ∃ j : Nat, j ≤ n ∧ v7 = .int .i64 j ∧ Hid (IsREnc (fun k => B ≤ k) wr b (H2 ++ bodyB (l.take j))) ∧ Hid (Mod (fun k => B ≤ k) w1 wr)) (fun v _ => n - (intOf v).toNat)
   case atStart => exact ⟨0, by omega, rfl, by simpa [bodyB] using HE, M⟩
   case round =>
    clear HE M
    obtain ⟨j, hj, rfl, HE, M⟩ := hrel
    have HLJ := HBL.out j hj
    by_cases hlt : j < n
    ·have hil : j < l.length := by rw [HLN.out]; exact hlt
     have HTK : Hid (l.take (j + 1) = l.take j ++ [l[j]]) := Lib.hid (List.take_succ_eq_append_getElem hil)
     obtain ⟨g, o, x, rfl, hgS, hgw, hx0, hx1, hrow⟩ := (HL.out.modNil HM1.out).at j hil
     obtain ⟨⟨k, bd⟩, hent⟩ : ∃ e, l[j] = e := ⟨_, rfl⟩
     have hok := HOK.out _ (List.getElem_mem hil)
     rw [hent] at hx0 hrow hok HTK
     simp only at hx0 hrow hok
     obtain ⟨kk, rfl⟩ := Int.eq_ofNat_of_zero_le hok.1
     obtain ⟨pb, cb, rfl, -⟩ := id hrow
     rw [bys_length] at hx1 hrow
     obtain ⟨nl, hnl⟩ : ∃ q, bd.length = q := ⟨_, rfl⟩
     rw [hnl] at hx1 hrow hok
     have HNL := Lib.hid hnl
     have HROW := Lib.hid hrow
     have HOKE := Lib.hid hok
     have HCELL : Hid (∀ W, Mod (fun k => B ≤ k) w1 W → W.cell? ⟨g, o + j * 2, none⟩ = some (.int .i64 (kk : Nat)) ∧ W.cell? ⟨g, o + j * 2 + 1, none⟩ = some (.slice pb nl cb)) := Lib.hid (fun W m => ⟨cell_kept hx0 m hgw (fun h => by have := hgS.2; have := HBB.out; omega), cell_kept hx1 m hgw (fun h => by have := hgS.2; have := HBB.out; omega)⟩)
     obtain ⟨F, hF⟩ : ∃ q, H2 ++ bodyB (l.take j) = q := ⟨_, rfl⟩
     have hFl : F.length ≤ 34 + 60005 * j := by rw [← hF, List.length_append, HH2L.out]; omega
     rw [hF] at HE
     have HF := Lib.hid hF
     clear hrow hent hok hil hF hnl HLJ
     clear hx0 hx1
     have hx0 := (HCELL.out wr M.out).1
     have hx1 := (HCELL.out wr M.out).2
     go_wp2_with fail
     refine (refNumS (fun k => B ≤ k) b _ (kk : Nat) 1 1 wr HE.out (fun k hk => by have := M.out.size; have := HBS.out; omega) rfl (by omega) (by omega) (by have := HOKE.out; omega) (by have := HOKE.out; simp; omega) (by omega)).mono ?_
     rintro e w5 ⟨rfl, he2, m2⟩
     have HE2 := Lib.hid he2
     have M2 := Lib.hid (M.out.trans m2 (fun _ _ h => h))
     clear HE M he2 m2
     have HE := HE2
     have M := M2
     clear HE2 M2
     clear hx0 hx1
     have hx0 := (HCELL.out w5 M.out).1
     have hx1 := (HCELL.out w5 M.out).2
     go_wp2_with fail
     refine (refNumS (fun k => B ≤ k) b _ (nl : Nat) 4 4 w5 HE.out (fun k hk => by have := M.out.size; have := HBS.out; omega) rfl (by omega) (by omega) (by have := HOKE.out; omega) (by have := HOKE.out; simp; omega) (by simp only [List.length_append, nb_length]; omega)).mono ?_
     rintro e w6 ⟨rfl, he2, m2⟩
     have HE2 := Lib.hid he2
     have M2 := Lib.hid (M.out.trans m2 (fun _ _ h => h))
     clear HE M he2 m2
     have HE := HE2
     have M := M2
     clear HE2 M2
     clear hx0 hx1
     have hx0 := (HCELL.out w6 M.out).1
     have hx1 := (HCELL.out w6 M.out).2
     go_wp2_with fail
     refine (refRaw (fun k => B ≤ k) _ b _ bd _ w6 HE.out (fun k hk => by have := M.out.size; have := HBS.out; omega) (HROW.out.mod M.out (fun q _ hq h => by have := hq.2; have := HBB.out; omega)) (by have := HOKE.out; simp only [List.length_append, nb_length, HNL.out]; omega)).mono ?_
     rintro e w7 ⟨rfl, he2, m2⟩
     have HE2 := Lib.hid he2
     have M2 := Lib.hid (M.out.trans m2 (fun _ _ h => h))
     clear HE M he2 m2
     have HE := HE2
     have M := M2
     clear HE2 M2
     have HE8 : Hid (IsREnc (fun k => B ≤ k) w7 b (H2 ++ bodyB (l.take (j + 1)))) := Lib.hid (by
      have h := HE.out
      rw [HTK.out, bodyB_snoc, ← List.append_assoc, HF.out]
      simpa [nb, entStart, HNL.out, List.append_assoc] using h)
     clear HE hx0 hx1 hFl
     go_wp2_with fail
     exact ⟨⟨j + 1, by omega, by go_num, HE8, M⟩, by simp [intOf]; omega⟩
    ·obtain rfl : j = n := by omega
     have htake : l.take j = l := List.take_of_length_le (by rw [HLN.out]; exact Nat.le_refl _)
     have hex : H2 ++ bodyB (l.take j) = exportF l := by rw [htake, ← HH2.out]; rfl
     rw [hex] at HE
     have HDN := Lib.hid (refDone (fun k => B ≤ k) b (exportF l) wr HE.out)
     have HMQ : Hid (Mod nil w wr) := Lib.hid (HM1.out.new M.out (fun k h => Nat.le_trans HBB.out h))
     clear htake hex HE HLJ
     go_wp2_with fail
     refine HDN.out.mono ?_
     rintro e w9 ⟨v, rfl, hv, rfl⟩
     obtain ⟨p9, c9, rfl⟩ := hv.form
     have HEND := Lib.hid (HPOST.out _ _ ⟨p9, c9, rfl, hv.mono (fun k _ h => Nat.le_trans HBB.out h), HMQ.out⟩)
     clear hv
     go_wp2_with fail
     exact HEND.out
end Go.Proofs.YtdfahddpkkeldaaGreat

/- Package chain: Add, Head, Len. (Printed by wip/tools/gen_chainadd.py.) -/
import Derived.Test.YtdfahddpkkeldaaGreatShort
import Derived.Test.YtdfahddpkkeldaaGreatChain
import Derived.Test.YtdfahddpkkeldaaGreatConcat
import Derived.Test.YtdfahddpkkeldaaGreatTailB
import Derived.Test.YtdfahddpkkeldaaGreatStep
import Derived.Test.YtdfahddpkkeldaaGreatBytesB
set_option linter.unusedSimpArgs false
set_option linter.unusedVariables false
namespace Go.Proofs.YtdfahddpkkeldaaGreat
open Go.RowKit
theorem chainAdd_bad (cb : Nat) (k : Int) (p : Option Addr) (nb c : Nat) (w : World) (hn : nb ≤ maxLen) (hbad : entErr k nb ≠ 0) :
  Calls Tryz.prog 35 #[.pointer (some ⟨cb, 0, none⟩), .agg #[.int .i64 k, .slice p nb c]] w fun e w' => e = .returned (.int .i64 (entErr k nb)) ∧ Mod nil w w' := by
 refine (?_ : ∀ Post : Ending → World → Prop, Hid (∀ e w', (e = .returned (.int .i64 (entErr k nb)) ∧ Mod nil w w') → Post e w') → Calls Tryz.prog 35 #[.pointer (some ⟨cb, 0, none⟩), .agg #[.int .i64 k, .slice p nb c]] w Post) _ (Lib.hid (fun _ _ h => h))
 intro Post HPOST
 have HMAY : Hid (∀ W, Calls Tryz.prog 61 #[.agg #[.int .i64 k, .slice p nb c]] W fun e w' => e = .returned (.int .i64 (entErr k nb)) ∧ Mod nil W w') := Lib.hid (fun W => chainMay k p nb c W hn)
 obtain ⟨r, hr⟩ : ∃ r, entErr k nb = r := ⟨_, rfl⟩
 rw [hr] at HMAY HPOST hbad
 have hr0 : (r != 0) = true := by simpa using hbad
 clear hr
 go_enter Tryz.func35, Tryz.ntmps35
 go_wp2_with fail
 refine (HMAY.out _).mono ?_
 rintro e w1 ⟨rfl, hm⟩
 have HE := Lib.hid (HPOST.out _ w1 ⟨rfl, ((Mod.refl nil w).alloc _).thenNil hm⟩)
 clear hm
 go_wp2_with fail
 exact HE.out
set_option maxRecDepth 100000 in
set_option maxHeartbeats 4000000 in
theorem chainAdd (S T : Nat → Prop) (cb tb n k nb c : Nat) (h body : List UInt8) (p : Option Addr) (w : World) (hch : IsChain S w cb tb h n) (ht : IsTab w tb) (hrow : IsRow T w (.slice p nb c) (bys body)) (hSt : ¬ S tb) (hk : k ≤ 255) (hnb : nb ≤ 60000) (hn : n ≤ 1000000000) :
  Calls Tryz.prog 35 #[.pointer (some ⟨cb, 0, none⟩), .agg #[.int .i64 (k : Nat), .slice p nb c]] w fun e w' => e = .returned (.int .i64 0) ∧ IsTab w' tb ∧ IsChain (fun j => S j ∨ w.heap.size ≤ j) w' cb tb (nextH h ⟨(k : Nat), body⟩) (n + 1) ∧ Mod (fun j => j = cb ∨ j = tb) w w' := by
 refine (?_ : ∀ Post : Ending → World → Prop, Hid (∀ e w', (e = .returned (.int .i64 0) ∧ IsTab w' tb ∧ IsChain (fun j => S j ∨ w.heap.size ≤ j) w' cb tb (nextH h ⟨(k : Nat), body⟩) (n + 1) ∧ Mod (fun j => j = cb ∨ j = tb) w w') → Post e w') → Calls Tryz.prog 35 #[.pointer (some ⟨cb, 0, none⟩), .agg #[.int .i64 (k : Nat), .slice p nb c]] w Post) _ (Lib.hid (fun _ _ h => h))
 intro Post HPOST
 have hbl : body.length = nb := by
  obtain ⟨_, _, h, _⟩ := hrow
  simp only [Value.slice.injEq, bys_length] at h
  exact h.2.1.symm
 have hct : ¬ cb = tb := fun e => hSt (e ▸ hch.own)
 obtain ⟨hp, hc, hb0, hhd⟩ := hch.ex
 have HHL := Lib.hid hch.len
 have HBL := Lib.hid hbl
 have HCT := Lib.hid hct
 have HOWN := Lib.hid hch.own
 have htl := ht.lt
 have hcl := heap_lt hb0
 have HMAY : Hid (∀ W, Calls Tryz.prog 61 #[.agg #[.int .i64 (k : Nat), .slice p nb c]] W fun e w' => e = .returned (.int .i64 0) ∧ Mod nil W w') := Lib.hid (fun W => by
  refine (chainMay k p nb c W (by unfold maxLen; omega)).mono ?_
  rintro e w' ⟨rfl, hm⟩
  exact ⟨by unfold entErr; rw [if_neg (by omega), if_neg (by omega)], hm⟩)
 obtain ⟨X, hX⟩ : ∃ X, w.heap.size = X := ⟨_, rfl⟩
 have HX := Lib.hid hX
 have hcX : cb < X := by omega
 have htX : tb < X := by omega
 have HXT : Hid (¬ X = tb) := Lib.hid (by omega)
 have HW1 : Hid (∀ ob, Mod nil w (w.alloc ob)) := Lib.hid (fun ob => (Mod.refl nil w).alloc ob)
 have HB0 := Lib.hid hb0
 have HHD0 := Lib.hid hhd
 have HBD0 := Lib.hid hrow
 have HT0 := Lib.hid ht
 clear hch hrow hSt hbl hct hb0 hhd ht hcl htl hX
 go_enter Tryz.func35, Tryz.ntmps35
 go_wp2_with fail
 rw [HX.out]
 generalize hw1 : World.alloc w _ = w1
 have hx1 : w1.heap[X]? = some (.cells #[.int .i64 (k : Nat), .slice p nb c] 42 (0, 0)) := by rw [← hw1, ← HX.out]; exact heap_alloc_new _ _
 have hm1 : Mod nil w w1 := by rw [← hw1]; exact (Mod.refl _ _).alloc _
 refine (HMAY.out w1).mono ?_
 rintro e w2 ⟨rfl, hm⟩
 have hm2 := hm1.thenNil hm
 have hb2 := hm2.keep HB0.out
 have hx2 := hm.keep hx1
 have a0 := cell_of hb2 0
 have a1 := cell_of hb2 1
 have x0 := cell_of hx2 0
 have x1 := cell_of hx2 1
 simp only [List.getElem?_toArray, List.getElem?_cons_zero, List.getElem?_cons_succ] at a0 a1 x0 x1
 have HB2 := Lib.hid hb2
 have HHD := Lib.hid (HHD0.out.modNil hm2)
 have HBD := Lib.hid (HBD0.out.modNil hm2)
 have HT2 := Lib.hid (HT0.out.mod hm2 (not_nil _))
 have HM2 := Lib.hid hm2
 have HST : Hid (∀ W, Mod nil w2 W → Calls Tryz.prog 64 #[.agg #[.int .i64 (k : Nat), .slice p nb c]] W fun e w' => ∃ p c, e = .returned (.slice p 5 c) ∧ IsVec (fun k => W.heap.size ≤ k) w' 5 1 (.slice p 5 c) 5 (bys (entStart k nb)) ∧ Mod nil W w') := Lib.hid (fun W m => by
  refine (chainStarts k nb c p W hk hnb).mono ?_
  rintro e w' ⟨v, rfl, hv, hm⟩
  obtain ⟨p', c', rfl⟩ := hv.form
  exact ⟨p', c', rfl, hv, hm⟩)
 clear hw1 hx1 hm1 hm hm2 hb2 hx2 HHD0 HBD0 HT0 HB0
 go_upto_region 4 with (fail)
 refine region_till (fun w' => w'.cell? ⟨cb, 0, none⟩ = some (.pointer (some ⟨tb, 0, none⟩)) ∧ w'.cell? ⟨cb, 1, none⟩ = some (.slice hp 32 hc) ∧ w'.cell? ⟨X, 0, none⟩ = some (.int .i64 (k : Nat)) ∧ w'.cell? ⟨X, 1, none⟩ = some (.slice p nb c)) 18 (by kernel_rfl) ?_
 refine sF 0 (fun _ => ⟨a0, a1, x0, x1⟩) ?_
 refine sF 1 (fun _ => ⟨a0, a1, x0, x1⟩) ?_
 refine sF 2 (fun _ => ⟨a0, a1, x0, x1⟩) ?_
 refine sF 3 (fun _ => ⟨a0, a1, x0, x1⟩) ?_
 refine sT 4 (⟨a0, a1, x0, x1⟩) ?_
 refine sF 5 (fun _ => ⟨a0, a1, x0, x1⟩) ?_
 refine sF 6 (fun _ => ⟨a0, a1, x0, x1⟩) ?_
 refine sF 7 (fun _ => ⟨a0, a1, x0, x1⟩) ?_
 refine sT 8 (⟨a0, a1, x0, x1⟩) ?_
 refine sT 9 (⟨a0, a1, x0, x1⟩) ?_
 refine sF 11 (fun _ => ⟨a0, a1, x0, x1⟩) ?_
 refine sT 12 (⟨a0, a1, x0, x1⟩) ?_
 refine rT 10 (fun K hK => ?_)
 go_simp
 refine (HST.out _ ?_).mono ?_
 ·(repeat (first | exact Mod.refl _ _ | refine Mod.drew ?_))
 rintro e w3 ⟨p3, c3, rfl, hv3, hm3⟩
 have hm3' : Mod nil w2 w3 := (show Mod nil w2 _ from by (repeat (first | exact Mod.refl _ _ | refine Mod.drew ?_))).thenNil hm3
 have ba0 := cell_kept a0 hm3' (World.block_lt_of_cell? _ _ a0) (not_nil _)
 have ba1 := cell_kept a1 hm3' (World.block_lt_of_cell? _ _ a1) (not_nil _)
 have bx0 := cell_kept x0 hm3' (World.block_lt_of_cell? _ _ x0) (not_nil _)
 have bx1 := cell_kept x1 hm3' (World.block_lt_of_cell? _ _ x1) (not_nil _)
 have ka0 : ∀ ob, (w3.alloc ob).cell? _ = _ := fun ob => cell_kept ba0 ((Mod.refl nil w3).alloc _) (World.block_lt_of_cell? _ _ ba0) (not_nil _)
 have ka1 : ∀ ob, (w3.alloc ob).cell? _ = _ := fun ob => cell_kept ba1 ((Mod.refl nil w3).alloc _) (World.block_lt_of_cell? _ _ ba1) (not_nil _)
 have kx0 : ∀ ob, (w3.alloc ob).cell? _ = _ := fun ob => cell_kept bx0 ((Mod.refl nil w3).alloc _) (World.block_lt_of_cell? _ _ bx0) (not_nil _)
 have kx1 : ∀ ob, (w3.alloc ob).cell? _ = _ := fun ob => cell_kept bx1 ((Mod.refl nil w3).alloc _) (World.block_lt_of_cell? _ _ bx1) (not_nil _)
 obtain ⟨w4, hw4⟩ : ∃ w4, w3.alloc (.cells #[.slice hp 32 hc, .slice p3 5 c3, .slice p nb c] 40) = w4 := ⟨_, rfl⟩
 have hm4 : Mod nil w3 w4 := by rw [← hw4]; exact (Mod.refl _ _).alloc _
 have hg4 : w4.heap[w3.heap.size]? = some (.cells #[.slice hp 32 hc, .slice p3 5 c3, .slice p nb c] 40 (0, 0)) := by rw [← hw4]; exact heap_alloc_new _ _
 have HCC : Hid (∀ W, Mod nil w4 W → Calls Tryz.prog 63 #[.slice (some ⟨w3.heap.size, 0, none⟩) 3 3] W fun e w' => ∃ p c, e = .returned (.slice p (37 + nb) c) ∧ IsVec (fun k => W.heap.size ≤ k) w' 5 1 (.slice p (37 + nb) c) (37 + nb) (bys (h ++ entStart k nb ++ body)) ∧ Mod nil W w') := Lib.hid (fun W m => by
  have h3 := IsLs.three (S := fun _ => True) (m.keep hg4) trivial ((((HHD.out.modNil (hm3'.thenNil hm4)).modNil m)).mono (fun _ _ _ => trivial)) (((hv3.row.modNil hm4).modNil m).mono (fun _ _ _ => trivial)) ((((HBD.out.modNil (hm3'.thenNil hm4)).modNil m)).mono (fun _ _ _ => trivial))
  refine (concatBytes _ _ _ W h3 (by simp) (by simp [entStart_length, HHL.out, HBL.out]; omega)).mono ?_
  rintro e w' ⟨v, rfl, hv, hmm⟩
  have hfl : [h, entStart k nb, body].flatten = h ++ entStart k nb ++ body := by simp
  have hln : (h ++ entStart k nb ++ body).length = 37 + nb := by simp [entStart_length, HHL.out, HBL.out]; omega
  rw [hfl, hln] at hv
  obtain ⟨p', c', rfl⟩ := hv.form
  exact ⟨p', c', rfl, hv, hmm⟩)
 have HM4 := Lib.hid (hm3'.thenNil hm4)
 have q0 := ka0 (.cells #[.slice hp 32 hc, .slice p3 5 c3, .slice p nb c] 40)
 rw [hw4] at q0
 have q1 := ka1 (.cells #[.slice hp 32 hc, .slice p3 5 c3, .slice p nb c] 40)
 rw [hw4] at q1
 have q2 := kx0 (.cells #[.slice hp 32 hc, .slice p3 5 c3, .slice p nb c] 40)
 rw [hw4] at q2
 have q3 := kx1 (.cells #[.slice hp 32 hc, .slice p3 5 c3, .slice p nb c] 40)
 rw [hw4] at q3
 refine hK.out _ _ (fun _ => ⟨ba0, ba1, bx0, bx1⟩) ?_
 clear hK K
 (try simp only [Act.put, pT])
 refine rT 13 (fun K hK => ?_)
 go_simp
 refine hK.out _ _ (fun _ => ⟨q0, q1, q2, q3⟩) ?_
 clear hK K
 (try rw [hw4])
 (try simp only [Act.put, pT])
 refine rT 14 (fun K hK => ?_)
 go_simp
 (try rw [hw4])
 refine (HCC.out _ ?_).mono ?_
 ·(repeat (first | exact Mod.refl _ _ | refine Mod.drew ?_))
 rintro e w5 ⟨p5, c5, rfl, hv5, hm5⟩
 have hm5' : Mod nil w2 w5 := HM4.out.thenNil ((show Mod nil w4 _ from by (repeat (first | exact Mod.refl _ _ | refine Mod.drew ?_))).thenNil hm5)
 have da0 := cell_kept a0 hm5' (World.block_lt_of_cell? _ _ a0) (not_nil _)
 have da1 := cell_kept a1 hm5' (World.block_lt_of_cell? _ _ a1) (not_nil _)
 have dx0 := cell_kept x0 hm5' (World.block_lt_of_cell? _ _ x0) (not_nil _)
 have dx1 := cell_kept x1 hm5' (World.block_lt_of_cell? _ _ x1) (not_nil _)
 have HON : Hid (∀ W, Mod nil w5 W → Calls Tryz.prog 62 #[.pointer (some ⟨tb, 0, none⟩), .slice p5 (37 + nb) c5] W fun e w' => ∃ p, ∃ c, e = .returned (.slice p 32 c) ∧ IsVec (fun k => w2.heap.size ≤ k) w' 5 1 (.slice p 32 c) 32 (bys (nextH h ⟨(k : Nat), body⟩)) ∧ IsTab w' tb ∧ Mod (· = tb) W w') := Lib.hid (fun W m => by
  have hrow := hv5.row.here.modNil m
  refine (shaOne tb _ _ (h ++ entStart k nb ++ body) W (HT2.out.mod (hm5'.thenNil m) (not_nil _)) hrow (fun j hj => ⟨Nat.lt_of_lt_of_le hj.2 m.size, fun e => by have h1 : w4.heap.size ≤ j := hj.1; have h2 := HT2.out.lt; have h3 := hm4.size; have h4 := hm3'.size; omega⟩) (by simp [entStart_length, HHL.out, HBL.out]; omega)).mono ?_
  rintro e w' ⟨v, rfl, hv, ht, hmm⟩
  obtain ⟨p', c', rfl⟩ := hv.form
  exact ⟨p', c', rfl, by unfold nextH; simp only [Int.toNat_natCast, HBL.out]; exact hv.mono (fun j _ hj => by have h1 := (hm5'.thenNil m).size; omega), ht, hmm⟩)
 refine hK.out _ _ (fun _ => ⟨da0, da1, dx0, dx1⟩) ?_
 clear hK K
 (try simp only [Act.put, pT])
 refine rT 15 (fun K hK => ?_)
 go_simp
 refine (HON.out _ ?_).mono ?_
 ·(repeat (first | exact Mod.refl _ _ | refine Mod.drew ?_))
 rintro e w6 ⟨p6, c6, rfl, hv6, ht6, hm6⟩
 have hm6' : Mod (· = tb) w2 w6 := hm5'.ofNil.trans ((show Mod nil w5 _ from by (repeat (first | exact Mod.refl _ _ | refine Mod.drew ?_))).ofNil.trans hm6 (fun _ _ h => h)) (fun _ _ h => h)
 have e0 := cell_kept a0 hm6' (World.block_lt_of_cell? _ _ a0) HCT.out
 have e1 := cell_kept a1 hm6' (World.block_lt_of_cell? _ _ a1) HCT.out
 have y0 := cell_kept x0 hm6' (World.block_lt_of_cell? _ _ x0) HXT.out
 have y1 := cell_kept x1 hm6' (World.block_lt_of_cell? _ _ x1) HXT.out
 have hb6 := (hm6'.block cb (heap_lt HB2.out) HCT.out).trans HB2.out
 have z1 := free_of hb6 1
 have HB6 := Lib.hid hb6
 have HV6 := Lib.hid hv6
 have HT6 := Lib.hid ht6
 have HM6 := Lib.hid hm6'
 clear hb6 hv6 ht6 hm6'
 refine hK.out _ _ (fun _ => ⟨e0, e1, y0, y1⟩) ?_
 clear hK K
 (try simp only [Act.put, pT])
 refine rT 16 (fun K hK => ?_)
 go_simp
 refine hK.out _ _ (fun _ => ⟨e0, e1, y0, y1⟩) ?_
 clear hK K
 (try simp only [Act.put, pT])
 refine rT 17 (fun K hK => ?_)
 go_simp
 refine hK.out _ _ (fun _ => ⟨e0, e1, y0, y1⟩) ?_
 clear hK K
 (try simp only [Act.put, pT])
 refine rT 18 (fun K hK => ?_)
 go_simp
 refine hK.out _ _ (fun h => (by simp at h)) ?_
 clear hK K
 (try simp only [Act.put, pT])
 refine till_done (by kernel_rfl) ?_ _
 have g1 := heap_setCell_same HB6.out (.slice p6 32 c6) (off := 1)
 simp only [List.setIfInBounds_toArray, List.set_cons_succ, List.set_cons_zero] at g1
 have hm7 : Mod (· = cb) w6 (w6.setCell ⟨cb, 1, none⟩ (.slice p6 32 c6)) := (Mod.refl _ _).setCell _ _ (fun _ => rfl)
 generalize World.setCell w6 _ _ = w7 at g1 hm7 ⊢
 have g2 := cell_of g1 2
 have z2 := free_of g1 2
 simp only [List.getElem?_toArray, List.getElem?_cons_zero, List.getElem?_cons_succ] at g2
 have hadd : IntKind.i64.wrap ((n : Int) + 1) = ((n + 1 : Nat) : Int) := by rw [IntKind.wrap_i64]; omega
 have hm8 : Mod (· = cb) w7 (w7.setCell ⟨cb, 2, none⟩ (.int .i64 ((n + 1 : Nat) : Int))) := (Mod.refl _ _).setCell _ _ (fun _ => rfl)
 have hm68 : Mod (· = cb) w6 _ := hm7.trans hm8 (fun _ _ h => h)
 have g3 := heap_setCell_same g1 (.int .i64 ((n + 1 : Nat) : Int)) (off := 2)
 simp only [List.setIfInBounds_toArray, List.set_cons_succ, List.set_cons_zero] at g3
 have hs2 := HM2.out.size
 have HE := Lib.hid (HPOST.out _ _ ⟨rfl, HT6.out.mod hm68 (fun e => HCT.out e.symm), ⟨.inl HOWN.out, nextH_length _ _, p6, c6, g3, ((HV6.out.row.mod hm68 (fun j _ h1 h2 => by have := HX.out; omega)).mono (fun j _ hj => ⟨.inr (by have := HX.out; omega), by have := HX.out; omega⟩))⟩, (HM2.out.ofNil.trans (HM6.out.mono (T := fun j => j = cb ∨ j = tb) (fun _ _ h => .inr h)) (fun _ _ h => h)).trans (hm68.mono (T := fun j => j = cb ∨ j = tb) (fun _ _ h => .inl h)) (fun _ _ h => h)⟩)
 clear hm7 hm8 hm68 g3 g1 hs2
 go_wp2_with fail
 exact HE.out
theorem chainHead (S : Nat → Prop) (cb tb n : Nat) (h : List UInt8) (w : World) (hch : IsChain S w cb tb h n) :
  Calls Tryz.prog 52 #[.pointer (some ⟨cb, 0, none⟩)] w fun e w' => ∃ p c, e = .returned (.slice p 32 c) ∧ IsVec (fun k => w.heap.size ≤ k) w' 5 1 (.slice p 32 c) 32 (bys h) ∧ Mod nil w w' := by
 refine (?_ : ∀ Post : Ending → World → Prop, Hid (∀ e w', (∃ p c, e = .returned (.slice p 32 c) ∧ IsVec (fun k => w.heap.size ≤ k) w' 5 1 (.slice p 32 c) 32 (bys h) ∧ Mod nil w w') → Post e w') → Calls Tryz.prog 52 #[.pointer (some ⟨cb, 0, none⟩)] w Post) _ (Lib.hid (fun _ _ h => h))
 intro Post HPOST
 obtain ⟨hp, hc, hb0, hhd⟩ := hch.ex
 have a1 := cell_of hb0 1
 simp only [List.getElem?_toArray, List.getElem?_cons_zero, List.getElem?_cons_succ] at a1
 have HC := Lib.hid (bytesClone _ _ h w hhd (by rw [hch.len]; omega))
 have HL := Lib.hid hch.len
 clear hb0 hhd hch
 go_enter Tryz.func52, Tryz.ntmps52
 go_wp2_with fail
 refine HC.out.mono ?_
 rintro e w1 ⟨v, rfl, hv, hm⟩
 rw [HL.out] at hv
 obtain ⟨p', c', rfl⟩ := hv.form
 have HE := Lib.hid (HPOST.out _ _ ⟨p', c', rfl, hv, hm⟩)
 clear hv hm
 go_wp2_with fail
 exact HE.out
theorem chainLen (S : Nat → Prop) (cb tb n : Nat) (h : List UInt8) (w : World) (hch : IsChain S w cb tb h n) :
  Calls Tryz.prog 51 #[.pointer (some ⟨cb, 0, none⟩)] w fun e w' => e = .returned (.int .i64 n) ∧ w = w' := by
 obtain ⟨hp, hc, hb0, hhd⟩ := hch.ex
 have a2 := cell_of hb0 2
 simp only [List.getElem?_toArray, List.getElem?_cons_zero, List.getElem?_cons_succ] at a2
 clear hb0 hhd hch
 go_enter Tryz.func51, Tryz.ntmps51
 go_wp2_with fail
 go_ret
 exact ⟨rfl, rfl⟩
end Go.Proofs.YtdfahddpkkeldaaGreat

/- cflref6: Sectors, Get. (Printed by wip/tools/gen_sixget.py.) -/
import Derived.Test.YtdfahddpkkeldaaGreatSixPut
import Derived.Test.YtdfahddpkkeldaaGreatJPlain
set_option linter.unusedSimpArgs false
set_option linter.unusedVariables false
namespace Go.Proofs.YtdfahddpkkeldaaGreat
open Go.RowKit
theorem sixSectors (n : Nat) (w : World) (h : n ≤ 4294967295) : Calls Tryz.prog 87 #[.int .i64 n] w fun e w' => e = .returned (.int .i64 ((if n ≤ 60000 then sectorsF n else 0 : Nat) : Int)) ∧ w = w' := by
 by_cases hn : n ≤ 60000
 ·rw [if_pos hn]
  have h1 : (((24 + (n : Int)) + 62) / 63) = ((sectorsF n : Nat) : Int) := by unfold sectorsF; omega
  go_enter Tryz.func87, Tryz.ntmps87
  go_wp2_with fail
  go_ret
  exact ⟨congrArg Ending.returned (congrArg (Value.int .i64) h1), rfl⟩
 ·rw [if_neg hn]
  have h1 : 60000 < (n : Int) := by omega
  go_enter Tryz.func87, Tryz.ntmps87
  go_wp2_with fail
  go_ret
  exact ⟨rfl, rfl⟩
/-- the numbers that the reference reads -/
def midF (b : List UInt8) : List UInt8 := (b.drop 3).take 14
theorem midF_length (b : List UInt8) (h : 64 ≤ b.length) : (midF b).length = 14 := by unfold midF; rw [List.length_take, List.length_drop]; omega
theorem midF_cut (b : List UInt8) (i k : Nat) (h : i + k ≤ 14) : ((tailsTo b 1).drop (2 + i)).take k = ((midF b).drop i).take k := by
 unfold midF tailsTo tailsTo
 simp only [List.nil_append, List.drop_take, List.take_take, List.drop_drop, Nat.mul_zero]
 rw [Nat.min_eq_left (by omega), Nat.min_eq_left (by omega)]
 congr 2
 omega
theorem midF_head (b : List UInt8) : headF b = (beN (((midF b).drop 0).take 1), beN (((midF b).drop 2).take 4), beN (((midF b).drop 6).take 4), beN (((midF b).drop 10).take 4)) := by
 unfold headF
 rw [show (2 : Nat) = 2 + 0 from rfl, midF_cut b 0 1 (by omega), show (4 : Nat) = 2 + 2 from rfl, midF_cut b 2 (2 + 2) (by omega), show (8 : Nat) = 2 + 6 from rfl, midF_cut b 6 (2 + 2) (by omega), show (12 : Nat) = 2 + 10 from rfl, midF_cut b 10 (2 + 2) (by omega)]
theorem getF_short {b : List UInt8} (h : b.length < 64) : getF b = none := by
 unfold getF
 refine if_neg (fun h1 => ?_)
 have h2 := ((liftOk_iff b 1).1 h1.1).1
 omega
theorem getF_long {b : List UInt8} {k g q n : Nat} (hh : headF b = (k, g, q, n)) (h : 60000 < n ∨ b.length < 64 * sectorsF n) : getF b = none := by
 unfold getF
 rw [hh]
 refine if_neg (fun h1 => ?_)
 rcases h with h | h
 ·have := h1.2.1; simp only at this; omega
 ·have h2 := ((liftOk_iff b (sectorsF n)).1 h1.2.2.1).1
  omega
theorem getF_turned {b : List UInt8} {k g q n : Nat} (hh : headF b = (k, g, q, n)) (h : putF k g q (((tailsTo b (sectorsF n)).drop 24).take n) ≠ b.take (64 * sectorsF n)) : getF b = none := by
 unfold getF
 rw [hh]
 exact if_neg (fun h1 => h h1.2.2.2)
theorem getF_right {b : List UInt8} {k g q n : Nat} (hh : headF b = (k, g, q, n)) (h0 : b.length ≥ 64) (h1 : b[0]? = some 1) (hn : n ≤ 60000) (hl : 64 * sectorsF n ≤ b.length) (h : putF k g q (((tailsTo b (sectorsF n)).drop 24).take n) = b.take (64 * sectorsF n)) : getF b = some (k, g, q, ((tailsTo b (sectorsF n)).drop 24).take n) := by
  have hb : (((tailsTo b (sectorsF n)).drop 24).take n).length = n := by
    rw [List.length_take, List.length_drop, tailsTo_length b _ hl]
    unfold sectorsF at *
    omega
  have e : b = putF k g q (((tailsTo b (sectorsF n)).drop 24).take n) ++ b.drop (64 * sectorsF n) := by rw [h, List.take_append_drop]
  have h2 : liftOk b (sectorsF n) = true := by
    have := putF_lift k g q (((tailsTo b (sectorsF n)).drop 24).take n) (b.drop (64 * sectorsF n)) (sectorsF n) (by rw [hb]; exact Nat.le_refl _)
    rw [← e] at this
    exact this
  have h3 : liftOk b 1 = true := (liftOk_iff b 1).2 ⟨by omega, fun i hi => (by
    obtain rfl : i = 0 := by omega
    simpa [markF] using h1)⟩
  unfold getF
  rw [hh]
  exact if_pos ⟨h3, hn, h2, h⟩
def SixGot (w w' : World) (b : List UInt8) (e : Ending) : Prop :=
 Mod nil w w' ∧
 ((getF b = none ∧ e = .returned (.tuple #[.agg #[.int .i64 0, .int .i64 0, .int .i64 0, .slice none 0 0], .int .i64 0, .int .i64 2])) ∨
  (∃ kind gen seq body q c, getF b = some (kind, gen, seq, body) ∧ e = .returned (.tuple #[.agg #[.int .i64 (kind : Nat), .int .i64 (gen : Nat), .int .i64 (seq : Nat), .slice q body.length c], .int .i64 (sectorsF body.length : Nat), .int .i64 0]) ∧
   IsVec (fun k => w.heap.size ≤ k) w' 5 1 (.slice q body.length c) body.length (bys body)))
theorem refNumAt (S : Nat → Prop) (b k k' size : Nat) (s : List UInt8) (w : World) (h : IsRDec S w b (s.drop k) 0) (hS : ¬ S b) (h1 : 1 ≤ size) (h4 : size ≤ 4) (hk : k' = k + size) (hl : k' ≤ s.length) :
  Calls Tryz.prog 86 #[.pointer (some ⟨b, 0, none⟩), .int .i64 size] w fun e w' => ∃ n : Nat, Hid (n = beN ((s.drop k).take size)) ∧ e = .returned (.int .i64 n) ∧ IsRDec S w' b (s.drop k') 0 ∧ Mod (· = b) w w' := by
 have hd := decN_ok (s.drop k) size h4 (by rw [List.length_drop]; omega)
 refine (refDNum S b (s.drop k) 0 size (size : Int) w h hS rfl h1 (by omega) hd).mono ?_
 rintro e w' ⟨rfl, h2, h3⟩
 rw [List.drop_drop, ← hk] at h2
 exact ⟨_, Lib.hid rfl, rfl, h2, h3⟩
set_option maxRecDepth 100000 in
set_option maxHeartbeats 4000000 in
theorem sixGet (T : Nat → Prop) (p : Option Addr) (len cap : Nat) (b : List UInt8) (w : World) (hrow : IsRow T w (.slice p len cap) (bys b)) (hcap : len ≤ cap) (hcm : cap ≤ maxLen) (hlm : len ≤ 1000000000) :
    Calls Tryz.prog 59 #[.slice p len cap] w fun e w' => SixGot w w' b e := by
  refine (?_ : ∀ Post : Ending → World → Prop, Hid (∀ e w', SixGot w w' b e → Post e w') → Calls Tryz.prog 59 #[.slice p len cap] w Post) _ (Lib.hid (fun _ _ h => h))
  intro Post HPOST
  have hbl : b.length = len := by
    obtain ⟨_, _, h, _⟩ := hrow
    simp only [Value.slice.injEq, bys_length] at h
    exact h.2.1.symm
  have HBL := Lib.hid hbl
  have HROW := Lib.hid hrow
  obtain ⟨G, hG⟩ : ∃ G, w.heap.size = G := ⟨_, rfl⟩
  obtain ⟨w1, hw1⟩ : ∃ W, (w.alloc (.cells #[.int .i64 0, .int .i64 0, .int .i64 0, .slice none 0 0] 122)).alloc (.cells #[.int .i64 0, .int .i64 0, .int .i64 0, .slice none 0 0] 122) = W := ⟨_, rfl⟩
  have hm1 : Mod nil w w1 := by rw [← hw1]; exact ((Mod.refl _ _).alloc _).alloc _
  have HX : Hid (w1.heap[G]? = some (.cells #[.int .i64 0, .int .i64 0, .int .i64 0, .slice none 0 0] 122 (0, 0))) := Lib.hid (by rw [← hw1, ← hG]; exact heap_alloc_old (heap_alloc_new _ _))
  have HN : Hid (w1.heap[G + 1]? = some (.cells #[.int .i64 0, .int .i64 0, .int .i64 0, .slice none 0 0] 122 (0, 0))) := Lib.hid (by
    rw [← hw1, ← hG]
    have := heap_alloc_new (w.alloc (.cells #[.int .i64 0, .int .i64 0, .int .i64 0, .slice none 0 0] 122)) (.cells #[.int .i64 0, .int .i64 0, .int .i64 0, .slice none 0 0] 122)
    rw [World.size_alloc] at this
    exact this)
  have hG2 : G + 1 < w1.heap.size := heap_lt HN.out
  have HG : Hid (w.heap.size = G) := Lib.hid hG
  have HM := Lib.hid hm1
  have hmax : (cap : Int) ≤ 9223372036854775807 := by unfold maxLen at hcm; omega
  clear hrow hm1 hbl hcm
  by_cases h64 : len < 64
  · have HNONE := Lib.hid (getF_short (b := b) (by rw [HBL.out]; exact h64))
    go_enter Tryz.func59, Tryz.ntmps59
    go_upto_region 2 with (fail)
    (try rw [hG])
    (try rw [hw1])
    clear hw1 hG
    have n0 := cell_of HN.out 0
    have n1 := cell_of HN.out 1
    have n2 := cell_of HN.out 2
    have n3 := cell_of HN.out 3
    simp only [List.getElem?_toArray, List.getElem?_cons_zero, List.getElem?_cons_succ] at n0 n1 n2 n3
    go_wp2_with (refine wpList_store_row rfl _ _ _ rfl G #[.int .i64 0, .int .i64 0, .int .i64 0, .slice none 0 0] rfl rfl 122 _ HX.out info_frame rfl (by simp [Value.oneCell']) ?_)
    refine bodyPost_ret (results_cell_row3 rfl _ _ G 122 #[.int .i64 0, .int .i64 0, .int .i64 0, .slice none 0 0] (0, 0) rfl (setRow_heap w1 G _ #[.int .i64 0, .int .i64 0, .int .i64 0, .slice none 0 0] _ _ HX.out) Tryz.underlying122 info_frame) rfl ?_
    exact HPOST.out _ _ ⟨HM.out.new ((Mod.refl (· = G) w1).rowSet G #[.int .i64 0, .int .i64 0, .int .i64 0, .slice none 0 0] (fun _ => rfl)) (fun k h => by have := HG.out; omega), .inl ⟨HNONE.out, rfl⟩⟩
  · obtain ⟨g, ofs, rfl⟩ : ∃ g ofs, p = some ⟨g, ofs, none⟩ := by
      obtain ⟨p', c', h, hc⟩ := HROW.out
      simp only [Value.slice.injEq, bys_length] at h
      obtain ⟨rfl, -, rfl⟩ := h
      obtain ⟨g, ofs, h, -⟩ := hc 0 (by rw [bys_length, HBL.out]; omega)
      exact ⟨g, ofs, h⟩
    obtain ⟨x0, hx0⟩ : ∃ x, b.getD 0 0 = x := ⟨_, rfl⟩
    have hb0 : b[0]? = some x0 := by rw [← hx0, List.getD_eq_getElem?_getD, List.getElem?_eq_getElem (by rw [HBL.out]; omega)]; rfl
    have hc0 : w1.cell? ⟨g, ofs, none⟩ = some (.int .u8 x0.toNat) := by
      obtain ⟨p', c', h, hc⟩ := HROW.out.modNil HM.out
      simp only [Value.slice.injEq, bys_length] at h
      obtain ⟨rfl, -, rfl⟩ := h
      obtain ⟨g', ofs', h, -, -, h4⟩ := hc 0 (by rw [bys_length, HBL.out]; omega)
      simp only [Option.some.injEq, Addr.mk.injEq, and_true] at h
      obtain ⟨rfl, rfl⟩ := h
      rw [Nat.add_zero, bys_getD _ _ (by rw [HBL.out]; omega), hx0] at h4
      exact h4
    have HB0 := Lib.hid hb0
    have h64' : ¬ (len : Int) < 64 := by omega
    clear hx0 hb0
    by_cases h1 : x0 = 1
    rotate_left
    · have HNONE := Lib.hid (getF_mark0 (b := b) (by rw [HB0.out]; simpa using h1))
      have hne : ((x0.toNat : Int) != 1) = true := by
        rw [bne_iff_ne]
        intro e
        exact h1 (UInt8.toNat_inj.1 (by simpa using (show x0.toNat = 1 by omega)))
      clear h1
      go_enter Tryz.func59, Tryz.ntmps59
      go_upto_region 2 with (fail)
      (try rw [hG])
      (try rw [hw1])
      clear hw1 hG
      have n0 := cell_of HN.out 0
      have n1 := cell_of HN.out 1
      have n2 := cell_of HN.out 2
      have n3 := cell_of HN.out 3
      simp only [List.getElem?_toArray, List.getElem?_cons_zero, List.getElem?_cons_succ] at n0 n1 n2 n3
      go_wp2_with (refine wpList_store_row rfl _ _ _ rfl G #[.int .i64 0, .int .i64 0, .int .i64 0, .slice none 0 0] rfl rfl 122 _ HX.out info_frame rfl (by simp [Value.oneCell']) ?_)
      refine bodyPost_ret (results_cell_row3 rfl _ _ G 122 #[.int .i64 0, .int .i64 0, .int .i64 0, .slice none 0 0] (0, 0) rfl (setRow_heap w1 G _ #[.int .i64 0, .int .i64 0, .int .i64 0, .slice none 0 0] _ _ HX.out) Tryz.underlying122 info_frame) rfl ?_
      exact HPOST.out _ _ ⟨HM.out.new ((Mod.refl (· = G) w1).rowSet G #[.int .i64 0, .int .i64 0, .int .i64 0, .slice none 0 0] (fun _ => rfl)) (fun k h => by have := HG.out; omega), .inl ⟨HNONE.out, rfl⟩⟩
    · subst h1
      have hne : (((1 : UInt8).toNat : Int) != 1) = false := by simp
      go_enter Tryz.func59, Tryz.ntmps59
      go_upto_region 2 with (fail)
      (try rw [hG])
      (try rw [hw1])
      clear hw1 hG
      have hcs : ¬ cap = 3 ∧ 17 ≤ cap ∧ 3 ≤ cap := by omega
      go_wp2_with fail
      obtain ⟨bd, hbd⟩ : ∃ g, w1.heap.size = g := ⟨_, rfl⟩
      (try rw [hbd])
      generalize hw2 : World.alloc w1 _ = w2
      have hm2 : Mod nil w1 w2 := by rw [← hw2]; exact (Mod.refl _ _).alloc _
      have hd2 : w2.heap[bd]? = some (.cells #[.slice (some ⟨g, ofs + 3, none⟩) 14 (cap - 3), .int .i64 0] 148 (0, 0)) := by rw [← hw2, ← hbd]; exact heap_alloc_new _ _
      have hmid : IsRow (fun k => T k ∧ k < G) w2 (.slice (some ⟨g, ofs + 3, none⟩) 14 (cap - 3)) (bys (midF b)) := by
        have h := row_drop (rowFront ((HROW.out.here.mono (T := fun k => T k ∧ k < G) (fun k _ h => ⟨h.1, by rw [← HG.out]; exact h.2⟩)).modNil (HM.out.thenNil hm2)) 17 (by rw [bys_length, HBL.out]; omega)) 3 (by rw [List.length_take, bys_length, HBL.out]; omega)
        rw [← bysTake, ← bys_drop, List.drop_take] at h
        exact h
      have HML : Hid ((midF b).length = 14) := Lib.hid (midF_length b (by rw [HBL.out]; omega))
      have HD : Hid (IsRDec (fun k => T k ∧ k < G) w2 bd ((midF b).drop 0) 0) := Lib.hid ⟨_, cap - 3, by rw [List.drop_zero, HML.out]; omega, by unfold maxLen; omega, by rw [List.drop_zero, HML.out]; exact hd2, by rw [List.drop_zero, HML.out]; exact hmid⟩
      have hS : ¬ (T bd ∧ bd < G) := fun h => by omega
      have HBD : Hid (bd ≠ G ∧ bd ≠ G + 1 ∧ G + 1 < bd ∧ bd < w2.heap.size) := Lib.hid (by have := heap_lt hd2; omega)
      have hx2 := hm2.keep HX.out
      have hn2 := hm2.keep HN.out
      have hmm := HM.out.thenNil hm2
      clear HX HN HM
      have HX := Lib.hid hx2
      have HN := Lib.hid hn2
      have HM := Lib.hid hmm
      clear hw2 hm2 hd2 hmid hx2 hn2 hmm hbd
      go_wp2_with fail
      refine (refNumAt (fun k => T k ∧ k < G) bd 0 1 1 (midF b) w2 HD.out hS (by omega) (by omega) rfl (by rw [HML.out]; omega)).mono ?_
      rintro e w3 ⟨kind, Hkind, rfl, hd, hm⟩
      have hm' : Mod nil w w3 := HM.out.new hm (fun k h => by have := HG.out; have := HBD.out; omega)
      have hx' := (hm.block G (heap_lt HX.out) (by have := HBD.out; omega)).trans HX.out
      have hn' := (hm.block (G + 1) (heap_lt HN.out) (by have := HBD.out; omega)).trans HN.out
      clear HD HM HX HN
      have HD := Lib.hid hd
      have HM := Lib.hid hm'
      have HX := Lib.hid hx'
      have HN := Lib.hid hn'
      clear hd hm' hx' hn' hm
      go_upto_region 6 with (fail)
      obtain ⟨F, hF⟩ : ∃ g, w3.heap.size = g := ⟨_, rfl⟩
      (try rw [hF])
      generalize hw4 : World.alloc w3 _ = w4
      have hma : Mod nil w3 w4 := by rw [← hw4]; exact (Mod.refl _ _).alloc _
      have HF : Hid (w4.heap[F]? = some (.cells #[.int .i64 kind, .int .i64 0, .int .i64 0, .slice none 0 0] 122 (0, 0))) := Lib.hid (by rw [← hw4, ← hF]; exact heap_alloc_new _ _)
      have HFF : Hid (F ≠ G ∧ F ≠ G + 1 ∧ bd < F ∧ F < w4.heap.size) := Lib.hid (by have := heap_lt HF.out; have := HD.out.lt; have := HBD.out; omega)
      have hd := HD.out.mod hma (not_nil _) (fun _ _ _ h => h)
      have hx' := hma.keep HX.out
      have hn' := hma.keep HN.out
      have hm' := HM.out.thenNil hma
      clear HD HX HN HM
      have HD := Lib.hid hd
      have HX := Lib.hid hx'
      have HN := Lib.hid hn'
      have HM := Lib.hid hm'
      clear hw4 hma hd hx' hn' hm' hF
      go_wp2_with fail
      refine (refNumAt (fun k => T k ∧ k < G) bd 1 2 1 (midF b) w4 HD.out hS (by omega) (by omega) rfl (by rw [HML.out]; omega)).mono ?_
      rintro e w5 ⟨pad, Hpad, rfl, hd, hm⟩
      have hm' : Mod nil w w5 := HM.out.new hm (fun k h => by have := HG.out; have := HBD.out; omega)
      have hx' := (hm.block G (heap_lt HX.out) (by have := HBD.out; omega)).trans HX.out
      have hn' := (hm.block (G + 1) (heap_lt HN.out) (by have := HBD.out; omega)).trans HN.out
      have hf' := (hm.block F (heap_lt HF.out) (by have := HFF.out; omega)).trans HF.out
      clear HF
      have HF := Lib.hid hf'
      clear hf'
      clear HD HM HX HN
      have HD := Lib.hid hd
      have HM := Lib.hid hm'
      have HX := Lib.hid hx'
      have HN := Lib.hid hn'
      clear hd hm' hx' hn' hm
      go_wp2_with fail
      refine (refNumAt (fun k => T k ∧ k < G) bd 2 6 4 (midF b) w5 HD.out hS (by omega) (by omega) rfl (by rw [HML.out]; omega)).mono ?_
      rintro e w6 ⟨gen, Hgen, rfl, hd, hm⟩
      have hm' : Mod nil w w6 := HM.out.new hm (fun k h => by have := HG.out; have := HBD.out; omega)
      have hx' := (hm.block G (heap_lt HX.out) (by have := HBD.out; omega)).trans HX.out
      have hn' := (hm.block (G + 1) (heap_lt HN.out) (by have := HBD.out; omega)).trans HN.out
      have hf' := (hm.block F (heap_lt HF.out) (by have := HFF.out; omega)).trans HF.out
      clear HF
      have HF := Lib.hid hf'
      clear hf'
      clear HD HM HX HN
      have HD := Lib.hid hd
      have HM := Lib.hid hm'
      have HX := Lib.hid hx'
      have HN := Lib.hid hn'
      clear hd hm' hx' hn' hm
      go_wp2_with fail
      refine (refNumAt (fun k => T k ∧ k < G) bd 6 10 4 (midF b) w6 HD.out hS (by omega) (by omega) rfl (by rw [HML.out]; omega)).mono ?_
      rintro e w7 ⟨seq, Hseq, rfl, hd, hm⟩
      have hm' : Mod nil w w7 := HM.out.new hm (fun k h => by have := HG.out; have := HBD.out; omega)
      have hx' := (hm.block G (heap_lt HX.out) (by have := HBD.out; omega)).trans HX.out
      have hn' := (hm.block (G + 1) (heap_lt HN.out) (by have := HBD.out; omega)).trans HN.out
      have hf' := (hm.block F (heap_lt HF.out) (by have := HFF.out; omega)).trans HF.out
      clear HF
      have HF := Lib.hid hf'
      clear hf'
      clear HD HM HX HN
      have HD := Lib.hid hd
      have HM := Lib.hid hm'
      have HX := Lib.hid hx'
      have HN := Lib.hid hn'
      clear hd hm' hx' hn' hm
      have q1 := cell_of HF.out 1
      have q2 := cell_of HF.out 2
      have z1 := free_of HF.out 1
      have z2 := free_of HF.out 2
      simp only [List.getElem?_toArray, List.getElem?_cons_zero, List.getElem?_cons_succ] at q1 q2
      have hf1 := heap_setCell_same HF.out (.int .i64 gen) (off := 1)
      have hf2 := heap_setCell_same hf1 (.int .i64 seq) (off := 2)
      simp only [List.setIfInBounds_toArray, List.set_cons_succ, List.set_cons_zero] at hf2
      have hm8 : Mod (· = F) w7 ((w7.setCell ⟨F, 1, none⟩ (.int .i64 gen)).setCell ⟨F, 2, none⟩ (.int .i64 seq)) := ((Mod.refl (· = F) w7).setCell _ _ (fun _ => rfl)).setCell _ _ (fun _ => rfl)
      go_upto_region 8 with (fail)
      generalize World.setCell (World.setCell w7 _ _) _ _ = w8 at *
      have hd := HD.out.mod hm8 (by have := HFF.out; omega) (fun k _ h1 h2 => by have := HFF.out; have := HBD.out; omega)
      have hx' := (hm8.block G (heap_lt HX.out) (by have := HFF.out; omega)).trans HX.out
      have hn' := (hm8.block (G + 1) (heap_lt HN.out) (by have := HFF.out; omega)).trans HN.out
      have hm' := HM.out.new hm8 (fun k h => by have := HG.out; have := HFF.out; have := HBD.out; omega)
      clear HD HX HN HM HF q1 q2 z1 z2 hf1 hm8
      have HD := Lib.hid hd
      have HX := Lib.hid hx'
      have HN := Lib.hid hn'
      have HM := Lib.hid hm'
      have HF := Lib.hid hf2
      clear hd hx' hn' hm' hf2
      go_wp2_with fail
      refine (refNumAt (fun k => T k ∧ k < G) bd 10 14 4 (midF b) w8 HD.out hS (by omega) (by omega) rfl (by rw [HML.out]; omega)).mono ?_
      rintro e w9 ⟨nn, Hnn, rfl, hd, hm⟩
      have hm' : Mod nil w w9 := HM.out.new hm (fun k h => by have := HG.out; have := HBD.out; omega)
      have hx' := (hm.block G (heap_lt HX.out) (by have := HBD.out; omega)).trans HX.out
      have hn' := (hm.block (G + 1) (heap_lt HN.out) (by have := HBD.out; omega)).trans HN.out
      have hf' := (hm.block F (heap_lt HF.out) (by have := HFF.out; omega)).trans HF.out
      clear HF
      have HF := Lib.hid hf'
      clear hf'
      clear HD HM HX HN
      have HD := Lib.hid hd
      have HM := Lib.hid hm'
      have HX := Lib.hid hx'
      have HN := Lib.hid hn'
      clear hd hm' hx' hn' hm
      have hhead : headF b = (kind, gen, seq, nn) := by rw [midF_head, ← Hkind.out, ← Hgen.out, ← Hseq.out, ← Hnn.out]
      have hb1 : kind ≤ 255 := by rw [Hkind.out]; exact be1_lt _
      have hb2 : gen ≤ 4294967295 := by rw [Hgen.out]; exact be4_lt _
      have hb3 : seq ≤ 4294967295 := by rw [Hseq.out]; exact be4_lt _
      have hb4 : nn ≤ 4294967295 := by rw [Hnn.out]; exact be4_lt _
      have HHEAD := Lib.hid hhead
      clear hhead Hkind Hgen Hseq Hnn Hpad HD HML hS
      go_wp2_with fail
      refine (sixSectors nn w9 hb4).mono ?_
      obtain ⟨S, hS⟩ : ∃ S, (if nn ≤ 60000 then sectorsF nn else 0) = S := ⟨_, rfl⟩
      rw [hS]
      rintro e w' ⟨rfl, rfl⟩
      have hS1 : (60000 < nn → S = 0) ∧ (nn ≤ 60000 → S = sectorsF nn ∧ 24 + nn ≤ 63 * S ∧ 1 ≤ S ∧ S ≤ 1000) := by
        rw [← hS]
        constructor
        · intro h; rw [if_neg (by omega)]
        · intro h; rw [if_pos h]; unfold sectorsF; omega
      clear hS
      by_cases hnn : 60000 < nn
      · obtain rfl := hS1.1 hnn
        have HNONE := Lib.hid (getF_long HHEAD.out (.inl hnn))
        clear hS1 hnn hb1 hb2 hb3 hb4 HF HFF
        have n0 := cell_of HN.out 0
        have n1 := cell_of HN.out 1
        have n2 := cell_of HN.out 2
        have n3 := cell_of HN.out 3
        simp only [List.getElem?_toArray, List.getElem?_cons_zero, List.getElem?_cons_succ] at n0 n1 n2 n3
        go_wp2_with (refine wpList_store_row rfl _ _ _ rfl G #[.int .i64 0, .int .i64 0, .int .i64 0, .slice none 0 0] rfl rfl 122 _ HX.out info_frame rfl (by simp [Value.oneCell']) ?_)
        refine bodyPost_ret (results_cell_row3 rfl _ _ G 122 #[.int .i64 0, .int .i64 0, .int .i64 0, .slice none 0 0] (0, 0) rfl (setRow_heap w9 G _ #[.int .i64 0, .int .i64 0, .int .i64 0, .slice none 0 0] _ _ HX.out) Tryz.underlying122 info_frame) rfl ?_
        exact HPOST.out _ _ ⟨HM.out.new ((Mod.refl (· = G) w9).rowSet G #[.int .i64 0, .int .i64 0, .int .i64 0, .slice none 0 0] (fun _ => rfl)) (fun k h => by have := HG.out; omega), .inl ⟨HNONE.out, rfl⟩⟩
      obtain ⟨hSe, hS24, hSp, hSl⟩ := hS1.2 (by omega)
      have HSE := Lib.hid hSe
      have hnn60 : nn ≤ 60000 := by omega
      have hk0 : ((S : Int) == 0) = false := by rw [beq_eq_false_iff_ne]; omega
      clear hS1 hnn hSe
      by_cases hfit : len < 64 * S
      · have HNONE := Lib.hid (getF_long HHEAD.out (.inr (by rw [HBL.out, ← HSE.out]; exact hfit)))
        have hfit' : (len : Int) < 64 * (S : Int) := by omega
        clear hfit hb1 hb2 hb3 hb4 HF HFF
        have n0 := cell_of HN.out 0
        have n1 := cell_of HN.out 1
        have n2 := cell_of HN.out 2
        have n3 := cell_of HN.out 3
        simp only [List.getElem?_toArray, List.getElem?_cons_zero, List.getElem?_cons_succ] at n0 n1 n2 n3
        go_wp2_with (refine wpList_store_row rfl _ _ _ rfl G #[.int .i64 0, .int .i64 0, .int .i64 0, .slice none 0 0] rfl rfl 122 _ HX.out info_frame rfl (by simp [Value.oneCell']) ?_)
        refine bodyPost_ret (results_cell_row3 rfl _ _ G 122 #[.int .i64 0, .int .i64 0, .int .i64 0, .slice none 0 0] (0, 0) rfl (setRow_heap w9 G _ #[.int .i64 0, .int .i64 0, .int .i64 0, .slice none 0 0] _ _ HX.out) Tryz.underlying122 info_frame) rfl ?_
        exact HPOST.out _ _ ⟨HM.out.new ((Mod.refl (· = G) w9).rowSet G #[.int .i64 0, .int .i64 0, .int .i64 0, .slice none 0 0] (fun _ => rfl)) (fun k h => by have := HG.out; omega), .inl ⟨HNONE.out, rfl⟩⟩
      have hfit' : ¬ (len : Int) < 64 * (S : Int) := by omega
      obtain ⟨B, hB⟩ : ∃ B, w9.heap.size = B := ⟨_, rfl⟩
      have HB := Lib.hid hB
      have hFB : Hid (F < B ∧ bd < B ∧ G + 1 < B) := Lib.hid (by have := heap_lt HF.out; have := HFF.out; have := HBD.out; omega)
      have HFIT := Lib.hid hfit
      clear hB hfit
      go_wp2_with fail
      clear hfit'
      go_loopw [10, 11] (fun v10 v11 wr => ∃ (j m q : Nat) (p : Option Addr), j ≤ S ∧ v11 = .int .i64 j ∧ v10 = .slice p m q ∧ Hid (m = 63 * j) ∧ Hid (IsVec (fun k => B ≤ k) wr 5 1 (.slice p m q) m (bys (tailsTo b j))) ∧ Hid (Mod nil w9 wr)) (fun _ v _ => S - (intOf v).toNat)
      case atStart => exact ⟨0, 0, 0, none, by omega, rfl, rfl, Lib.hid rfl, Lib.hid (IsVec.nil _ _ _ _), Lib.hid (Mod.refl _ _)⟩
      case round =>
        obtain ⟨j, m, q, pv, hj, rfl, rfl, HMM, HV, HMR⟩ := hrel
        by_cases hlt : j < S
        · obtain ⟨a, ha⟩ : ∃ a, 64 * j + 1 = a := ⟨_, rfl⟩
          obtain ⟨z, hz⟩ : ∃ z, 64 * j + 64 = z := ⟨_, rfl⟩
          have h1 : 64 * (j : Int) + 1 = (a : Int) := by omega
          have h2 : 64 * (j : Int) + 64 = (z : Int) := by omega
          have h3 : z ≤ cap ∧ a ≤ z ∧ ¬ cap = a ∧ z ≤ 64000 := by have := HFIT.out; omega
          obtain ⟨h3a, h3b, h3c, h3d⟩ := h3
          have h3e : (z : Int) ≤ (cap : Int) ∧ (a : Int) ≤ (z : Int) := by omega
          have h4 : z - a = 63 := by omega
          have HA := Lib.hid ha
          have hrx : IsRow (fun k => T k ∧ k < G) wr (.slice (some ⟨g, ofs + a, none⟩) 63 (cap - a)) (bys ((b.drop a).take 63)) := by
            have h := row_drop (rowFront ((HROW.out.here.mono (T := fun k => T k ∧ k < G) (fun k _ h => ⟨h.1, by rw [← HG.out]; exact h.2⟩)).modNil (HM.out.thenNil HMR.out)) z (by rw [bys_length, HBL.out]; have := HFIT.out; omega)) a (by rw [List.length_take, bys_length, HBL.out]; have := HFIT.out; omega)
            rw [← bysTake, ← bys_drop, List.drop_take, h4] at h
            exact h
          have hlx : ((b.drop a).take 63).length = 63 := by rw [List.length_take, List.length_drop, HBL.out]; have := HFIT.out; omega
          have hmb : m ≤ 63000 := by have := HMM.out; omega
          obtain ⟨p2, c2, w2', hrun, hv2, hm2⟩ := six_append 40 (by have h := HV.out.row; obtain ⟨_, _, e, _⟩ := h; simp only [Value.slice.injEq, bys_length] at e; exact e.2.1.symm) hlx HV.out hrx (by omega)
          have HRUN := Lib.hid hrun
          have HVN : Hid (IsVec (fun k => B ≤ k) w2' 5 1 (.slice p2 (m + 63) c2) (m + 63) (bys (tailsTo b (j + 1)))) := Lib.hid (by
            rw [tailsTo, HA.out]
            exact hv2.mono (fun k _ h => h.elim id (fun h => by have := HMR.out.size; have := HB.out; omega)))
          have HMN : Hid (Mod nil w9 w2') := Lib.hid (HMR.out.new hm2 (fun k h => by have := HB.out; omega))
          have HM63 : Hid (m + 63 = 63 * (j + 1)) := Lib.hid (by have := HMM.out; omega)
          clear hrx hlx hrun hv2 hm2 ha hz
          go_wp2_with (first | (at_builtin; refine wpList_append_run rfl _ _ _ _ rfl rfl rfl HRUN.out ?_))
          exact ⟨⟨j + 1, m + 63, c2, p2, by omega, by go_num, rfl, HM63, HVN, HMN⟩, by simp [intOf]; omega⟩
        · obtain rfl : j = S := by omega
          have hx9 := HMR.out.keep HX.out
          have hn9 := HMR.out.keep HN.out
          have hf9 := HMR.out.keep HF.out
          have hm9 := HM.out.thenNil HMR.out
          clear HX HN HM HF
          have HX := Lib.hid hx9
          have HN := Lib.hid hn9
          have HF := Lib.hid hf9
          have HM := Lib.hid hm9
          obtain ⟨gv, rfl, -, -⟩ := vecBlock HV.out (by have := HMM.out; omega)
          have hqc : m ≤ q ∧ q ≤ maxLen := by
            obtain ⟨p', c', h, h1, h2⟩ := vecCap HV.out
            simp only [Value.slice.injEq] at h
            obtain ⟨-, -, rfl⟩ := h
            exact ⟨h1, h2⟩
          have hm63 := HMM.out
          have hq24 : ¬ q = 24 ∧ 24 + nn ≤ q := by omega
          have hq24' : 24 + (nn : Int) ≤ (q : Int) := by omega
          have hqb := hqc.2
          obtain ⟨body, hbody⟩ : ∃ x, ((tailsTo b j).drop 24).take nn = x := ⟨_, rfl⟩
          have HBODY := Lib.hid hbody
          have htl := tailsTo_length b j (by rw [HBL.out]; have := HFIT.out; omega)
          have hbodl : body.length = nn := by rw [← hbody, List.length_take, List.length_drop, htl]; omega
          have HBODL := Lib.hid hbodl
          have hrb : IsRow (fun k => B ≤ k) wr (.slice (some ⟨gv, 24, none⟩) nn (q - 24)) (bys body) := by
            have h := row_drop (rowFront HV.out.row (24 + nn) (by rw [bys_length, htl]; omega)) 24 (by rw [List.length_take, bys_length, htl]; omega)
            rw [← bysTake, ← bys_drop, List.drop_take, show 24 + nn - 24 = nn by omega, hbody, Nat.zero_add] at h
            exact h
          have HCB := Lib.hid (refCopyBytesV _ _ body wr hrb (by rw [hbodl]; omega))
          clear hx9 hn9 hf9 hm9 hrb hbody htl hbodl hqc hm63 HV HMM
          unfold maxLen at hqb
          go_wp2_with fail
          refine HCB.out.mono ?_
          rintro e wc ⟨vb, rfl, hvb, hmc⟩
          obtain ⟨pb, cb, rfl⟩ := hvb.form
          rw [HBODL.out] at hvb ⊢
          have hf10 := hmc.keep HF.out
          have r0 := cell_of hf10 0
          have r1 := cell_of hf10 1
          have r2 := cell_of hf10 2
          have r3 := cell_of hf10 3
          have r4 := free_of hf10 3
          simp only [List.getElem?_toArray, List.getElem?_cons_zero, List.getElem?_cons_succ] at r0 r1 r2 r3
          have hfd := heap_setCell_same hf10 (.slice pb nn cb) (off := 3)
          simp only [List.setIfInBounds_toArray, List.set_cons_succ, List.set_cons_zero] at hfd
          have hmd : Mod (· = F) wc (wc.setCell ⟨F, 3, none⟩ (.slice pb nn cb)) := (Mod.refl (· = F) wc).setCell _ _ (fun _ => rfl)
          obtain ⟨wd, hwd⟩ : ∃ W, wc.setCell ⟨F, 3, none⟩ (.slice pb nn cb) = W := ⟨_, rfl⟩
          rw [hwd] at hfd hmd
          have s0 := cell_of hfd 0
          have s1 := cell_of hfd 1
          have s2 := cell_of hfd 2
          have s3 := cell_of hfd 3
          simp only [List.getElem?_toArray, List.getElem?_cons_zero, List.getElem?_cons_succ] at s0 s1 s2 s3
          have hBle := HMR.out.size
          have HVB : Hid (IsVec (fun k => B ≤ k) wd 5 1 (.slice pb nn cb) nn (bys body)) := Lib.hid ((hvb.mono (T := fun k => B ≤ k) (fun k _ h => by have := HB.out; omega)).mod hmd (fun k _ h e => by have := hFB.out; omega))
          have hx11 := (hmd.block G (heap_lt (hmc.keep HX.out)) (by have := HFF.out; omega)).trans (hmc.keep HX.out)
          have hn11 := (hmd.block (G + 1) (heap_lt (hmc.keep HN.out)) (by have := HFF.out; omega)).trans (hmc.keep HN.out)
          have hm11 : Mod nil w wd := (HM.out.thenNil hmc).new hmd (fun k h => by have := HG.out; have := HFF.out; have := HBD.out; omega)
          clear HX HN HM HF
          have HX := Lib.hid hx11
          have HN := Lib.hid hn11
          have HM := Lib.hid hm11
          have HF := Lib.hid hfd
          have HPUT := Lib.hid (sixPut kind gen seq nn cb pb (fun k => k < wd.heap.size) body wd (HVB.out.row.here.mono (fun k _ h => h.2)) (fun k h => h) hb1 hb2 hb3 hnn60)
          clear hf10 hfd hmd hvb hmc hx11 hn11 hm11
          go_wp2_with fail
          clear r0 r1 r2 r3 r4 hwd
          refine HPUT.out.mono ?_
          rintro e we ⟨pa, ca, rfl, hva, hme⟩
          rw [← HSE.out] at hva ⊢
          have hx12 := hme.keep HX.out
          have hn12 := hme.keep HN.out
          have hf12 := hme.keep HF.out
          have hm12 := HM.out.thenNil hme
          have HVB2 := Lib.hid (HVB.out.modNil hme)
          clear HX HN HM HF s0 s1 s2 s3
          have HX := Lib.hid hx12
          have HN := Lib.hid hn12
          have HM := Lib.hid hm12
          have HF := Lib.hid hf12
          obtain ⟨X, hX⟩ : ∃ x, 64 * j = x := ⟨_, rfl⟩
          have hX1 : 64 * (j : Int) = (X : Int) := by omega
          have hX2 : X ≤ cap ∧ ((X : Int) ≤ (cap : Int)) := by have := HFIT.out; omega
          obtain ⟨hX2, hX3⟩ := hX2
          have hrf : IsRow T we (.slice (some ⟨g, ofs, none⟩) X cap) (bys (b.take X)) := by
            rw [bysTake]
            exact rowFront (HROW.out.modNil hm12) X (by rw [bys_length, HBL.out]; have := HFIT.out; omega)
          rw [hX] at hva ⊢
          have hbytes := refBytesW _ _ _ _ _ _ we hva.row hrf
          have HXX := Lib.hid hX
          clear hva hme hx12 hn12 hf12 hm12 hrf hX HVB
          by_cases heq : putF kind gen seq body = b.take X
          · rw [decide_eq_true heq] at hbytes
            have HBY := Lib.hid hbytes
            have HSOME := Lib.hid (getF_right HHEAD.out (by rw [HBL.out]; omega) HB0.out hnn60 (by rw [← HSE.out, HBL.out]; have := HFIT.out; omega) (by rw [← HSE.out, HBODY.out, HXX.out]; exact heq))
            have t0 := cell_of HF.out 0
            have t1 := cell_of HF.out 1
            have t2 := cell_of HF.out 2
            have t3 := cell_of HF.out 3
            simp only [List.getElem?_toArray, List.getElem?_cons_zero, List.getElem?_cons_succ] at t0 t1 t2 t3
            have mr : Mod (· = G) we (we.setRow G #[.int .i64 kind, .int .i64 gen, .int .i64 seq, .slice pb nn cb]) := (Mod.refl _ _).rowSet G _ (fun _ => rfl)
            have HE := Lib.hid (HPOST.out (.returned (.tuple #[.agg #[.int .i64 kind, .int .i64 gen, .int .i64 seq, .slice pb nn cb], .int .i64 (j : Int), .int .i64 0])) (we.setRow G #[.int .i64 kind, .int .i64 gen, .int .i64 seq, .slice pb nn cb]) ⟨HM.out.new mr (fun k h => by have := HG.out; omega), .inr ⟨kind, gen, seq, body, pb, cb, by rw [HSOME.out, ← HSE.out, HBODY.out], by rw [HBODL.out, ← HSE.out], by rw [HBODL.out]; exact (HVB2.out.mod mr (fun k _ h e => by have := hFB.out; omega)).mono (fun k _ h => by have := hFB.out; have := HG.out; omega)⟩⟩)
            clear hbytes heq mr
            go_wp2_with fail
            refine HBY.out.mono ?_
            rintro e wf ⟨rfl, rfl⟩
            go_wp2_with (refine wpList_store_row rfl _ _ _ rfl G #[.int .i64 kind, .int .i64 gen, .int .i64 seq, .slice pb nn cb] rfl rfl 122 _ HX.out info_frame rfl (by simp [Value.oneCell']) ?_)
            refine bodyPost_ret (results_cell_row3 rfl _ _ G 122 #[.int .i64 kind, .int .i64 gen, .int .i64 seq, .slice pb nn cb] (0, 0) rfl (setRow_heap we G _ #[.int .i64 kind, .int .i64 gen, .int .i64 seq, .slice pb nn cb] _ _ HX.out) Tryz.underlying122 info_frame) rfl ?_
            exact HE.out
          · rw [decide_eq_false heq] at hbytes
            have HBY := Lib.hid hbytes
            have HNONE := Lib.hid (getF_turned HHEAD.out (by rw [← HSE.out, HBODY.out, HXX.out]; exact heq))
            clear hbytes heq hb1 hb2 hb3 hb4
            have n0 := cell_of HN.out 0
            have n1 := cell_of HN.out 1
            have n2 := cell_of HN.out 2
            have n3 := cell_of HN.out 3
            simp only [List.getElem?_toArray, List.getElem?_cons_zero, List.getElem?_cons_succ] at n0 n1 n2 n3
            go_wp2_with fail
            refine HBY.out.mono ?_
            rintro e wf ⟨rfl, rfl⟩
            go_wp2_with (refine wpList_store_row rfl _ _ _ rfl G #[.int .i64 0, .int .i64 0, .int .i64 0, .slice none 0 0] rfl rfl 122 _ HX.out info_frame rfl (by simp [Value.oneCell']) ?_)
            refine bodyPost_ret (results_cell_row3 rfl _ _ G 122 #[.int .i64 0, .int .i64 0, .int .i64 0, .slice none 0 0] (0, 0) rfl (setRow_heap we G _ #[.int .i64 0, .int .i64 0, .int .i64 0, .slice none 0 0] _ _ HX.out) Tryz.underlying122 info_frame) rfl ?_
            exact HPOST.out _ _ ⟨HM.out.new ((Mod.refl (· = G) we).rowSet G #[.int .i64 0, .int .i64 0, .int .i64 0, .slice none 0 0] (fun _ => rfl)) (fun k h => by have := HG.out; omega), .inl ⟨HNONE.out, rfl⟩⟩
end Go.Proofs.YtdfahddpkkeldaaGreat

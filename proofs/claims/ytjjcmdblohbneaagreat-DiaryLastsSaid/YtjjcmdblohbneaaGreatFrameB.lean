/- Package frame: starts, text, Sectors. (Printed by wip/tools/gen_frame.py.) -/
import Derived.Test.YtjjcmdblohbneaaGreatWire
import Derived.Test.YtjjcmdblohbneaaGreatChain
import Derived.Test.YtjjcmdblohbneaaGreatOverFn
import Derived.Laws.CopyOwn
import Derived.Laws.Tables
namespace Go.Proofs.YtjjcmdblohbneaaGreat
open Go.RowKit
/-- what stands ahead of a frame's sum -/
def startsF (kind gen seq n : Nat) : List UInt8 := [] ++ layC 25446 2 2 ++ layC kind 1 1 ++ layC 0 1 1 ++ layC gen 4 4 ++ layC seq 4 4 ++ layC n 4 4
theorem startsF_length (kind gen seq n : Nat) : (startsF kind gen seq n).length = 16 := by simp [startsF, layC_length]
/-- a frame's text -/
def textF (kind gen seq : Nat) (body : List UInt8) : List UInt8 := startsF kind gen seq body.length ++ (shaOf (startsF kind gen seq body.length ++ body)).take 8 ++ body
theorem textF_length (kind gen seq : Nat) (body : List UInt8) : (textF kind gen seq body).length = 24 + body.length := by simp [textF, startsF_length, shaOf_length]; omega
/-- how many sectors a body needs -/
def sectorsF (n : Nat) : Nat := (n + 86) / 63
theorem frameSectors (n : Int) (w : World) : Calls Tryz.prog 102 #[.int .i64 n] w fun e w' => e = .returned (.int .i64 (if 0 ≤ n ∧ n ≤ 60000 then sectorsF n.toNat else 0 : Nat)) ∧ w = w' := by
  rcases (show n < 0 ∨ (¬ n < 0 ∧ 60000 < n) ∨ (¬ n < 0 ∧ ¬ 60000 < n) by omega) with h | ⟨h, h'⟩ | ⟨h, h'⟩
  · rw [if_neg (by omega)]
    go_enter Tryz.func102, Tryz.ntmps102
    go_wp2_with fail
    go_ret
    exact ⟨rfl, rfl⟩
  · rw [if_neg (by omega)]
    go_enter Tryz.func102, Tryz.ntmps102
    go_wp2_with fail
    go_ret
    exact ⟨rfl, rfl⟩
  · obtain ⟨k, rfl⟩ : ∃ k : Nat, n = k := ⟨n.toNat, by omega⟩
    rw [if_pos (by omega), Int.toNat_natCast]
    have hk : ((24 + (k : Int) + 63 - 1) / 63 : Int) = ((sectorsF k : Nat) : Int) := by unfold sectorsF; omega
    go_enter Tryz.func102, Tryz.ntmps102
    go_wp2_with fail
    go_ret
    exact ⟨rfl, rfl⟩
set_option maxRecDepth 100000 in
set_option maxHeartbeats 1000000 in
theorem frameStarts (kind gen seq nb cb : Nat) (pb : Option Addr) (w : World) (h1 : kind ≤ 255) (h2 : gen ≤ 4294967295) (h3 : seq ≤ 4294967295) (h4 : nb ≤ 60000) :
    Calls Tryz.prog 133 #[.agg #[.int .i64 kind, .int .i64 gen, .int .i64 seq, .slice pb nb cb]] w fun e w' => ∃ v, e = .returned v ∧ IsVec (fun k => w.heap.size ≤ k) w' 5 1 v 16 (bys (startsF kind gen seq nb)) ∧ Mod nil w w' := by
  refine (?_ : ∀ Post : Ending → World → Prop, Hid (∀ e w', (∃ v, e = .returned v ∧ IsVec (fun k => w.heap.size ≤ k) w' 5 1 v 16 (bys (startsF kind gen seq nb)) ∧ Mod nil w w') → Post e w') → Calls Tryz.prog 133 #[.agg #[.int .i64 kind, .int .i64 gen, .int .i64 seq, .slice pb nb cb]] w Post) _ (Lib.hid (fun _ _ h => h))
  intro Post HPOST
  go_enter Tryz.func133, Tryz.ntmps133
  go_wp2_with fail
  obtain ⟨G, hG⟩ : ∃ G, w.heap.size = G := ⟨_, rfl⟩
  rw [hG]
  generalize hw1 : World.alloc w _ = w1
  have hx1 : w1.heap[G]? = some (.cells #[.int .i64 kind, .int .i64 gen, .int .i64 seq, .slice pb nb cb] 135 (0, 0)) := by rw [← hw1, ← hG]; exact heap_alloc_new _ _
  have hm1 : Mod nil w w1 := by rw [← hw1]; exact (Mod.refl _ _).alloc _
  obtain ⟨B, hBB⟩ : ∃ B, w1.heap.size = B := ⟨_, rfl⟩
  have hGB : G < B := by have := heap_lt hx1; omega
  have HG := Lib.hid hG
  refine (wireNewEnc w1).mono ?_
  rw [hBB]
  rintro e w2 ⟨b, rfl, he, hm⟩
  have hB2 : B ≤ w2.heap.size := by have := hm.size; omega
  have hx := hm.keep hx1
  have hmm := hm1.thenNil hm
  have HE := Lib.hid he
  have HX := Lib.hid hx
  have HM := Lib.hid hmm
  have f0 := cell_of hx 0
  have f1 := cell_of hx 1
  have f2 := cell_of hx 2
  have f3 := cell_of hx 3
  simp only [List.getElem?_toArray, List.getElem?_cons_zero, List.getElem?_cons_succ] at f0 f1 f2 f3
  clear he hx hmm hm hx1 hm1 hw1 hG hBB
  go_wp2_with fail
  refine (encNum B b _ 25446 2 w2 HE.out hB2 (by omega) (by omega) (by omega) (by decide) (by simp [layC_length])).mono ?_
  rintro e w3 ⟨rfl, he, hm⟩
  have hB3 : B ≤ w3.heap.size := by have := hm.size; omega
  have hx : w3.heap[G]? = some (.cells #[.int .i64 kind, .int .i64 gen, .int .i64 seq, .slice pb nb cb] 135 (0, 0)) := (hm.block G (by have := heap_lt HX.out; omega) (by omega)).trans HX.out
  have hmm : Mod nil w w3 := HM.out.new hm (fun k h => by have := HG.out; omega)
  clear HE HX HM f0 f1 f2 f3
  have HE := Lib.hid he
  have HX := Lib.hid hx
  have HM := Lib.hid hmm
  have f0 := cell_of hx 0
  have f1 := cell_of hx 1
  have f2 := cell_of hx 2
  have f3 := cell_of hx 3
  simp only [List.getElem?_toArray, List.getElem?_cons_zero, List.getElem?_cons_succ] at f0 f1 f2 f3
  clear he hx hmm hm
  go_wp2_with fail
  refine (encNum B b _ kind 1 w3 HE.out hB3 (by omega) (by omega) (by omega) (Nat.lt_of_le_of_lt h1 (by decide)) (by simp [layC_length])).mono ?_
  rintro e w4 ⟨rfl, he, hm⟩
  have hB4 : B ≤ w4.heap.size := by have := hm.size; omega
  have hx : w4.heap[G]? = some (.cells #[.int .i64 kind, .int .i64 gen, .int .i64 seq, .slice pb nb cb] 135 (0, 0)) := (hm.block G (by have := heap_lt HX.out; omega) (by omega)).trans HX.out
  have hmm : Mod nil w w4 := HM.out.new hm (fun k h => by have := HG.out; omega)
  clear HE HX HM f0 f1 f2 f3
  have HE := Lib.hid he
  have HX := Lib.hid hx
  have HM := Lib.hid hmm
  have f0 := cell_of hx 0
  have f1 := cell_of hx 1
  have f2 := cell_of hx 2
  have f3 := cell_of hx 3
  simp only [List.getElem?_toArray, List.getElem?_cons_zero, List.getElem?_cons_succ] at f0 f1 f2 f3
  clear he hx hmm hm
  go_wp2_with fail
  refine (encNum B b _ 0 1 w4 HE.out hB4 (by omega) (by omega) (by omega) (by decide) (by simp [layC_length])).mono ?_
  rintro e w5 ⟨rfl, he, hm⟩
  have hB5 : B ≤ w5.heap.size := by have := hm.size; omega
  have hx : w5.heap[G]? = some (.cells #[.int .i64 kind, .int .i64 gen, .int .i64 seq, .slice pb nb cb] 135 (0, 0)) := (hm.block G (by have := heap_lt HX.out; omega) (by omega)).trans HX.out
  have hmm : Mod nil w w5 := HM.out.new hm (fun k h => by have := HG.out; omega)
  clear HE HX HM f0 f1 f2 f3
  have HE := Lib.hid he
  have HX := Lib.hid hx
  have HM := Lib.hid hmm
  have f0 := cell_of hx 0
  have f1 := cell_of hx 1
  have f2 := cell_of hx 2
  have f3 := cell_of hx 3
  simp only [List.getElem?_toArray, List.getElem?_cons_zero, List.getElem?_cons_succ] at f0 f1 f2 f3
  clear he hx hmm hm
  go_wp2_with fail
  refine (encNum B b _ gen 4 w5 HE.out hB5 (by omega) (by omega) (by omega) (Nat.lt_of_le_of_lt h2 (by decide)) (by simp [layC_length])).mono ?_
  rintro e w6 ⟨rfl, he, hm⟩
  have hB6 : B ≤ w6.heap.size := by have := hm.size; omega
  have hx : w6.heap[G]? = some (.cells #[.int .i64 kind, .int .i64 gen, .int .i64 seq, .slice pb nb cb] 135 (0, 0)) := (hm.block G (by have := heap_lt HX.out; omega) (by omega)).trans HX.out
  have hmm : Mod nil w w6 := HM.out.new hm (fun k h => by have := HG.out; omega)
  clear HE HX HM f0 f1 f2 f3
  have HE := Lib.hid he
  have HX := Lib.hid hx
  have HM := Lib.hid hmm
  have f0 := cell_of hx 0
  have f1 := cell_of hx 1
  have f2 := cell_of hx 2
  have f3 := cell_of hx 3
  simp only [List.getElem?_toArray, List.getElem?_cons_zero, List.getElem?_cons_succ] at f0 f1 f2 f3
  clear he hx hmm hm
  go_wp2_with fail
  refine (encNum B b _ seq 4 w6 HE.out hB6 (by omega) (by omega) (by omega) (Nat.lt_of_le_of_lt h3 (by decide)) (by simp [layC_length])).mono ?_
  rintro e w7 ⟨rfl, he, hm⟩
  have hB7 : B ≤ w7.heap.size := by have := hm.size; omega
  have hx : w7.heap[G]? = some (.cells #[.int .i64 kind, .int .i64 gen, .int .i64 seq, .slice pb nb cb] 135 (0, 0)) := (hm.block G (by have := heap_lt HX.out; omega) (by omega)).trans HX.out
  have hmm : Mod nil w w7 := HM.out.new hm (fun k h => by have := HG.out; omega)
  clear HE HX HM f0 f1 f2 f3
  have HE := Lib.hid he
  have HX := Lib.hid hx
  have HM := Lib.hid hmm
  have f0 := cell_of hx 0
  have f1 := cell_of hx 1
  have f2 := cell_of hx 2
  have f3 := cell_of hx 3
  simp only [List.getElem?_toArray, List.getElem?_cons_zero, List.getElem?_cons_succ] at f0 f1 f2 f3
  clear he hx hmm hm
  go_wp2_with fail
  refine (encNum B b _ nb 4 w7 HE.out hB7 (by omega) (by omega) (by omega) (Nat.lt_of_le_of_lt h4 (by decide)) (by simp [layC_length])).mono ?_
  rintro e w8 ⟨rfl, he, hm⟩
  have hB8 : B ≤ w8.heap.size := by have := hm.size; omega
  have hx : w8.heap[G]? = some (.cells #[.int .i64 kind, .int .i64 gen, .int .i64 seq, .slice pb nb cb] 135 (0, 0)) := (hm.block G (by have := heap_lt HX.out; omega) (by omega)).trans HX.out
  have hmm : Mod nil w w8 := HM.out.new hm (fun k h => by have := HG.out; omega)
  clear HE HX HM f0 f1 f2 f3
  have HE := Lib.hid he
  have HX := Lib.hid hx
  have HM := Lib.hid hmm
  have f0 := cell_of hx 0
  have f1 := cell_of hx 1
  have f2 := cell_of hx 2
  have f3 := cell_of hx 3
  simp only [List.getElem?_toArray, List.getElem?_cons_zero, List.getElem?_cons_succ] at f0 f1 f2 f3
  clear he hx hmm hm
  go_wp2_with fail
  refine (encDone B b _ w8 HE.out (by simp [layC_length])).mono ?_
  rintro e w9 ⟨v, rfl, hv, hm⟩
  have hvf : IsVec (fun k => w.heap.size ≤ k) w9 5 1 v 16 (bys (startsF kind gen seq nb)) := by
    have h := hv.mono (T := fun k => w.heap.size ≤ k) (fun k _ h => Nat.le_trans HM.out.size h)
    simpa [layC_length, startsF] using h
  have HF := Lib.hid (And.intro hvf (HM.out.thenNil hm))
  clear hvf hv hm
  go_wp2_with fail
  exact HPOST.out _ _ ⟨v, rfl, HF.out.1, HF.out.2⟩
end Go.Proofs.YtjjcmdblohbneaaGreat

/- Frames as sectors: plain lists of bytes. -/
namespace Go.Proofs.YtjjcmdblohbneaaGreat
open Go.RowKit
/-- so many bytes, filled up with zeros -/
def fillTo (n : Nat) (l : List UInt8) : List UInt8 := l ++ List.replicate (n - l.length) 0
theorem fillTo_length (n : Nat) (l : List UInt8) (h : l.length ≤ n) : (fillTo n l).length = n := by simp [fillTo]; omega
/-- the sector number i of a text, whatever its number, marked with 2 -/
def sect2 (t : List UInt8) (i : Nat) : List UInt8 := 2 :: fillTo 63 ((t.drop (63 * i)).take 63)
theorem sect2_length (t : List UInt8) (i : Nat) : (sect2 t i).length = 64 := by
  simp only [sect2, List.length_cons]
  rw [fillTo_length _ _ (by simp; omega)]
/-- the first so many sectors -/
def sectsTo (t : List UInt8) : Nat → List UInt8
  | 0 => []
  | j + 1 => sectsTo t j ++ sect2 t j
theorem sectsTo_length (t : List UInt8) (j : Nat) : (sectsTo t j).length = 64 * j := by
  induction j with
  | zero => rfl
  | succ j ih => rw [sectsTo, List.length_append, ih, sect2_length]; omega
/-- what Put lays -/
def putF (kind gen seq : Nat) (body : List UInt8) : List UInt8 := (sectsTo (textF kind gen seq body) (sectorsF body.length)).set 0 1
theorem putF_length (kind gen seq : Nat) (body : List UInt8) : (putF kind gen seq body).length = 64 * sectorsF body.length := by rw [putF, List.length_set, sectsTo_length]
/-- what lies in memory behind j rounds -/
def outAt (t : List UInt8) (S j : Nat) : List UInt8 := sectsTo t j ++ List.replicate (64 * (S - j)) 0
theorem outAt_length (t : List UInt8) (S j : Nat) (h : j ≤ S) : (outAt t S j).length = 64 * S := by rw [outAt, List.length_append, sectsTo_length, List.length_replicate]; omega
theorem outAt_zero (t : List UInt8) (S : Nat) : outAt t S 0 = List.replicate (64 * S) 0 := rfl
theorem outAt_last (t : List UInt8) (S : Nat) : outAt t S S = sectsTo t S := by simp [outAt]
theorem outAt_succ (t : List UInt8) (S j : Nat) (h : j < S) : splice ((outAt t S j).set (64 * j) 2) (64 * j + 1) ((t.drop (63 * j)).take 63) = outAt t S (j + 1) := by
  have hP := sectsTo_length t j
  obtain ⟨P, hPe⟩ : ∃ P, sectsTo t j = P := ⟨_, rfl⟩
  obtain ⟨C, hC⟩ : ∃ C, (t.drop (63 * j)).take 63 = C := ⟨_, rfl⟩
  have hCl : C.length ≤ 63 := by rw [← hC, List.length_take]; omega
  have e : outAt t S (j + 1) = P ++ (2 :: (C ++ List.replicate (63 - C.length) 0)) ++ List.replicate (64 * (S - (j + 1))) 0 := by
    rw [outAt, sectsTo, hPe, sect2, hC]; rfl
  rw [e, hC, outAt, hPe]
  rw [hPe] at hP
  clear e hC hPe
  obtain ⟨m, hm⟩ : ∃ m, 64 * (S - j) = m + 64 := ⟨64 * (S - j) - 64, by omega⟩
  have hm2 : 64 * (S - (j + 1)) = m := by omega
  rw [hm, hm2]
  have h1 : (P ++ List.replicate (m + 64) (0 : UInt8)).set (64 * j) 2 = P ++ 2 :: List.replicate (m + 63) 0 := by
    rw [← hP, List.set_append_right _ _ (Nat.le_refl _), Nat.sub_self]; rfl
  rw [h1]
  unfold splice
  have h2 : (P ++ 2 :: List.replicate (m + 63) (0 : UInt8)).take (64 * j + 1) = P ++ [2] := by
    rw [← hP, List.take_length_add_append]; rfl
  have h3 : (P ++ 2 :: List.replicate (m + 63) (0 : UInt8)).drop (64 * j + 1 + C.length) = List.replicate (63 - C.length + m) 0 := by
    rw [← hP, Nat.add_assoc, List.drop_length_add_append, Nat.add_comm 1 C.length, List.drop_succ_cons, List.drop_replicate]
    congr 1
    omega
  rw [h2, h3, ← List.replicate_append_replicate]
  simp
theorem bys_set (l : List UInt8) (i : Nat) (b : UInt8) : (bys l).set i (.int .u8 b.toNat) = bys (l.set i b) := by simp [bys, List.map_set]
theorem bys_splice (l c : List UInt8) (o : Nat) : splice (bys l) o (bys c) = bys (splice l o c) := by simp [splice, bys, List.map_take, List.map_drop]
theorem bys_replicate (n : Nat) : bys (List.replicate n 0) = List.replicate n (.int .u8 0) := by simp [bys]
theorem Mod.ofBelowAt {B : Nat} {w w' : World} (h : Below B w w') : Mod (fun k => B ≤ k) w w' := ⟨h.os, h.tape, h.output, h.size, fun k _ hk => h.block k (by omega)⟩
end Go.Proofs.YtjjcmdblohbneaaGreat

/- Package frame: text. -/
namespace Go.Proofs.YtjjcmdblohbneaaGreat
open Go.RowKit
set_option maxRecDepth 100000 in
set_option maxHeartbeats 1000000 in
theorem frameText (tb kind gen seq nb cb : Nat) (pb : Option Addr) (T : Nat → Prop) (body : List UInt8) (w : World) (ht : IsTab w tb) (hrow : IsRow T w (.slice pb nb cb) (bys body)) (hT : ∀ k, T k → k < w.heap.size ∧ k ≠ tb)
    (h1 : kind ≤ 255) (h2 : gen ≤ 4294967295) (h3 : seq ≤ 4294967295) (h4 : nb ≤ 60000) :
    Calls Tryz.prog 101 #[.pointer (some ⟨tb, 0, none⟩), .agg #[.int .i64 kind, .int .i64 gen, .int .i64 seq, .slice pb nb cb]] w fun e w' => ∃ v, e = .returned v ∧ IsVec (fun k => w.heap.size ≤ k) w' 5 1 v (24 + nb) (bys (textF kind gen seq body)) ∧ IsTab w' tb ∧ Mod (· = tb) w w' := by
  refine (?_ : ∀ Post : Ending → World → Prop, Hid (∀ e w', (∃ v, e = .returned v ∧ IsVec (fun k => w.heap.size ≤ k) w' 5 1 v (24 + nb) (bys (textF kind gen seq body)) ∧ IsTab w' tb ∧ Mod (· = tb) w w') → Post e w') → Calls Tryz.prog 101 #[.pointer (some ⟨tb, 0, none⟩), .agg #[.int .i64 kind, .int .i64 gen, .int .i64 seq, .slice pb nb cb]] w Post) _ (Lib.hid (fun _ _ h => h))
  intro Post HPOST
  have hbl : body.length = nb := by
    obtain ⟨_, _, h, _⟩ := hrow
    simp only [Value.slice.injEq, bys_length] at h
    exact h.2.1.symm
  have HBL := Lib.hid hbl
  have HROW := Lib.hid hrow
  have HTT := Lib.hid hT
  have htl := ht.lt
  have HT := Lib.hid ht
  obtain ⟨ST, hST⟩ : ∃ ST, startsF kind gen seq nb = ST := ⟨_, rfl⟩
  have HST := Lib.hid hST
  have HSL : Hid (ST.length = 16) := Lib.hid (by rw [← hST]; exact startsF_length _ _ _ _)
  clear hrow hT ht hbl
  go_enter Tryz.func101, Tryz.ntmps101
  go_wp2_with fail
  obtain ⟨G, hG⟩ : ∃ G, w.heap.size = G := ⟨_, rfl⟩
  rw [hG] at htl ⊢
  generalize hw1 : World.alloc w _ = w1
  have hx1 : w1.heap[G]? = some (.cells #[.int .i64 kind, .int .i64 gen, .int .i64 seq, .slice pb nb cb] 135 (0, 0)) := by rw [← hw1, ← hG]; exact heap_alloc_new _ _
  have hm1 : Mod nil w w1 := by rw [← hw1]; exact (Mod.refl _ _).alloc _
  have hs1 : w1.heap.size = G + 1 := by rw [← hw1, ← hG]; simp
  have HG := Lib.hid hG
  refine (frameStarts kind gen seq nb cb pb w1 h1 h2 h3 h4).mono ?_
  rw [hs1, hST]
  rintro e w2 ⟨v5, rfl, hv5, hm2⟩
  have HS2 : Hid (G + 1 ≤ w2.heap.size) := Lib.hid (by have := hm2.size; omega)
  obtain ⟨p5, c5, rfl, hc5, -⟩ := vecCap hv5
  obtain ⟨B2, hB2⟩ : ∃ B2, w2.heap.size = B2 := ⟨_, rfl⟩
  have HB2 := Lib.hid hB2
  have HV5 : Hid (IsVec (fun k => G + 1 ≤ k ∧ k < B2) w2 5 1 (.slice p5 16 c5) 16 (bys ST)) := Lib.hid (hv5.mono (fun k hk h => ⟨h, by omega⟩))
  clear hB2
  have HX2 := Lib.hid (hm2.keep hx1)
  have HM2 := Lib.hid (hm1.thenNil hm2)
  clear hv5 hm2 hm1 hx1 hw1 hs1 hST hG
  go_wp2_with fail
  refine (shaNew2 tb w2 (HT.out.mod HM2.out (not_nil _))).mono ?_
  rintro e w3 ⟨b, rfl, hh3, hb3, ht3, hm3⟩
  have hbG : B2 ≤ b ∧ G < b ∧ tb < b ∧ tb < G + 1 := by have := HS2.out; have := HB2.out; omega
  have HV53 := Lib.hid (HV5.out.mod hm3 (fun k _ h1 h2 => by omega))
  have HX3 := Lib.hid ((hm3.block G (heap_lt HX2.out) (by omega)).trans HX2.out)
  have HM3 : Hid (Mod (· = tb) w w3) := Lib.hid (HM2.out.ofNil.trans hm3 (fun _ _ h => h))
  have HH3 := Lib.hid hh3
  have HT3 := Lib.hid ht3
  have HR3 : Hid (IsRow T w3 (.slice pb nb cb) (bys body)) := Lib.hid (HROW.out.mod HM3.out (fun k _ h e => (HTT.out k h).2 e))
  clear hh3 hb3 ht3 hm3
  go_wp2_with fail
  refine (shaWrite2 b tb nil (fun k => G + 1 ≤ k ∧ k < B2) (.slice p5 16 c5) [] ST w3 HH3.out (not_nil _) (not_nil _) (by omega) HT3.out HV53.out.row (by omega) (by have := HSL.out; simp; omega)).mono ?_
  rintro e w4 ⟨rfl, hh4, ht4, hm4⟩
  rw [List.nil_append] at hh4
  have hb3l := HH3.out.lt
  obtain ⟨B3, hB3⟩ : ∃ B3, w3.heap.size = B3 := ⟨_, rfl⟩
  rw [hB3] at hh4 hb3l
  have HV54 := Lib.hid (HV53.out.mod hm4 (fun k _ h1 h2 => by rcases h2 with h2 | h2 | h2; omega; omega; exact h2))
  have hx4 := (hm4.block G (heap_lt HX3.out) (by rintro (h | h | h); omega; omega; exact h)).trans HX3.out
  have HX4 := Lib.hid hx4
  have HM4 : Hid (Mod (· = tb) w w4) := Lib.hid (HM3.out.trans hm4 (fun k hk h => by rcases h with h | h | h; exact h; have := HG.out; omega; exact h.elim))
  have HH4 := Lib.hid hh4
  have HT4 := Lib.hid ht4
  have HR4 : Hid (IsRow T w4 (.slice pb nb cb) (bys body)) := Lib.hid (HROW.out.mod HM4.out (fun k _ h e => (HTT.out k h).2 e))
  have f3 := cell_of hx4 3
  simp only [List.getElem?_toArray, List.getElem?_cons_zero, List.getElem?_cons_succ] at f3
  have hB34 : B3 ≤ w4.heap.size := by have := hm4.size; omega
  clear hh4 ht4 hm4 hx4 hB3
  go_wp2_with fail
  refine (shaWrite2 b tb (fun k => B3 ≤ k) T (.slice pb nb cb) ST body w4 HH4.out (by omega) (by omega) (by omega) HT4.out HR4.out (fun h => by have := (HTT.out b h).1; have := HG.out; omega) (by have := HSL.out; have := HBL.out; omega)).mono ?_
  rintro e w5 ⟨rfl, hh5, ht5, hm5⟩
  have HV55 := Lib.hid (HV54.out.mod hm5 (fun k hk h1 h2 => by rcases h2 with h2 | h2 | h2 <;> omega))
  obtain ⟨B4, hB4⟩ : ∃ B4, w4.heap.size = B4 := ⟨_, rfl⟩
  rw [hB4] at hh5
  rw [hB4] at hB34
  have hx5 := (hm5.block G (heap_lt HX4.out) (by rintro (h | h | h) <;> omega)).trans HX4.out
  have HX5 := Lib.hid hx5
  have HM5 : Hid (Mod (· = tb) w w5) := Lib.hid (HM4.out.trans hm5 (fun k hk h => by have := HG.out; rcases h with h | h | h <;> omega))
  have HH5 := Lib.hid hh5
  have HT5 := Lib.hid ht5
  clear hh5 ht5 hm5 hx5 f3 hB4
  go_wp2_with fail
  refine (shaSum2 b tb (fun k => B4 ≤ k) (ST ++ body) w5 HH5.out (by omega) HT5.out (by have := HSL.out; have := HBL.out; simp; omega)).mono ?_
  rintro e w6 ⟨v6, rfl, hv6, ht6, hm6⟩
  obtain ⟨p6, c6, rfl, hc6, hcm6⟩ := vecCap hv6
  have HV56 := Lib.hid (HV55.out.mod hm6 (fun k hk h1 h2 => by omega))
  have HX6 := Lib.hid ((hm6.block G (heap_lt HX5.out) (by omega)).trans HX5.out)
  have HM6 : Hid (Mod (· = tb) w w6) := Lib.hid (HM5.out.trans hm6 (fun k hk h => h))
  have HT6 := Lib.hid ht6
  have hrow6 : IsRow (fun k => w5.heap.size ≤ k) w6 (.slice p6 8 c6) (bys ((shaOf (ST ++ body)).take 8)) := by
    rw [bysTake]
    exact rowFront hv6.row 8 (by rw [bys_length, shaOf_length]; omega)
  obtain ⟨v7, w7, hrun7, hv7, hm7⟩ := bytes_append (l := ST) (m := (shaOf (ST ++ body)).take 8) 34 (by rw [HSL.out]; exact HV56.out) hrow6 (by have := HSL.out; simp; omega)
  have hl7 : (ST ++ (shaOf (ST ++ body)).take 8).length = 24 := by rw [List.length_append, HSL.out, List.length_take, shaOf_length]; rfl
  rw [hl7] at hv7
  obtain ⟨p7, c7, rfl⟩ := hv7.form
  have hx7 := (hm7.block G (heap_lt HX6.out) (by omega)).trans HX6.out
  have HM7 : Hid (Mod (· = tb) w w7) := Lib.hid (HM6.out.trans hm7 (fun k hk h => by have := HG.out; omega))
  have HT7 : Hid (IsTab w7 tb) := Lib.hid (HT6.out.mod hm7 (by omega))
  have f3 := cell_of hx7 3
  simp only [List.getElem?_toArray, List.getElem?_cons_zero, List.getElem?_cons_succ] at f3
  have HV7 := Lib.hid hv7
  have HL7 := Lib.hid hl7
  have HRUN7 := Lib.hid hrun7
  obtain ⟨v8, w8, hrun8, hv8, hm8⟩ := bytes_append (l := ST ++ (shaOf (ST ++ body)).take 8) (m := body) 34 (by rw [hl7]; exact hv7) (HROW.out.mod HM7.out (fun k _ h e => (HTT.out k h).2 e)) (by rw [hl7]; have := HBL.out; omega)
  obtain ⟨p8, c8, rfl⟩ := hv8.form
  have hl8 : (ST ++ (shaOf (ST ++ body)).take 8 ++ body).length = 24 + nb := by rw [List.length_append, hl7, HBL.out]
  rw [hl8] at hv8 hrun8
  have HRUN8 := Lib.hid hrun8
  have hfin : IsVec (fun k => w.heap.size ≤ k) w8 5 1 (.slice p8 (24 + nb) c8) (24 + nb) (bys (textF kind gen seq body)) := by
    have h := hv8.mono (T := fun k => w.heap.size ≤ k) (fun k hk h => by have := HG.out; have := HM7.out.size; have := HM6.out.size; rcases h with (h | h) | h <;> omega)
    unfold textF
    rw [HBL.out, HST.out]
    exact h
  have HF := Lib.hid (And.intro hfin (And.intro (HT7.out.mod hm8 (by have := HT6.out.lt; omega)) (HM7.out.trans hm8 (fun k hk h => by have := HG.out; have := HM6.out.size; omega))))
  clear hrow6 hrun7 hv7 hm7 hrun8 hv8 hm8 hfin hv6 ht6 hm6 hx7 hl7
  go_wp2_with (first | (at_builtin; refine wpList_append_run rfl _ _ _ _ rfl rfl rfl HRUN7.out ?_) | (at_builtin; refine wpList_append_run rfl _ _ _ _ rfl rfl rfl HRUN8.out ?_))
  exact HPOST.out _ _ ⟨_, rfl, HF.out.1, HF.out.2.1, HF.out.2.2⟩
end Go.Proofs.YtjjcmdblohbneaaGreat

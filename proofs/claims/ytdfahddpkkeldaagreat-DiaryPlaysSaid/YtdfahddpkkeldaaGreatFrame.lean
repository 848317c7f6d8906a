/- Package frame: starts, text, Sectors. (Printed by wip/tools/gen_frame.py.) -/
import Derived.Test.YtdfahddpkkeldaaGreatWireB
import Derived.Test.YtdfahddpkkeldaaGreatRefShaC
set_option linter.unusedSimpArgs false
set_option linter.unusedVariables false
namespace Go.Proofs.YtdfahddpkkeldaaGreat
open Go.RowKit
/-- what stands ahead of a frame's sum -/
def startsF (kind gen seq n : Nat) : List UInt8 := [] ++ layC 25446 2 2 ++ layC kind 1 1 ++ layC 0 1 1 ++ layC gen 4 4 ++ layC seq 4 4 ++ layC n 4 4
theorem startsF_length (kind gen seq n : Nat) : (startsF kind gen seq n).length = 16 := by simp [startsF, layC_length]
/-- a frame's text -/
def textF (kind gen seq : Nat) (body : List UInt8) : List UInt8 := startsF kind gen seq body.length ++ (shaOf (startsF kind gen seq body.length ++ body)).take 8 ++ body
theorem textF_length (kind gen seq : Nat) (body : List UInt8) : (textF kind gen seq body).length = 24 + body.length := by simp [textF, startsF_length, shaOf_length]; omega
/-- how many sectors a body needs -/
def sectorsF (n : Nat) : Nat := (n + 86) / 63
theorem frameSectors (n : Int) (w : World) : Calls Tryz.prog 95 #[.int .i64 n] w fun e w' => e = .returned (.int .i64 (if 0 ≤ n ∧ n ≤ 60000 then sectorsF n.toNat else 0 : Nat)) ∧ w = w' := by
 rcases (show n < 0 ∨ (¬ n < 0 ∧ 60000 < n) ∨ (¬ n < 0 ∧ ¬ 60000 < n) by omega) with h | ⟨h, h'⟩ | ⟨h, h'⟩
 ·rw [if_neg (by omega)]
  go_enter Tryz.func95, Tryz.ntmps95
  go_wp2_with fail
  go_ret
  exact ⟨rfl, rfl⟩
 ·rw [if_neg (by omega)]
  go_enter Tryz.func95, Tryz.ntmps95
  go_wp2_with fail
  go_ret
  exact ⟨rfl, rfl⟩
 ·obtain ⟨k, rfl⟩ : ∃ k : Nat, n = k := ⟨n.toNat, by omega⟩
  rw [if_pos (by omega), Int.toNat_natCast]
  have hk : ((24 + (k : Int) + 63 - 1) / 63 : Int) = ((sectorsF k : Nat) : Int) := by unfold sectorsF; omega
  go_enter Tryz.func95, Tryz.ntmps95
  go_wp2_with fail
  go_ret
  exact ⟨rfl, rfl⟩
set_option maxRecDepth 100000 in
set_option maxHeartbeats 1000000 in
theorem frameStarts (kind gen seq nb cb : Nat) (pb : Option Addr) (w : World) (h1 : kind ≤ 255) (h2 : gen ≤ 4294967295) (h3 : seq ≤ 4294967295) (h4 : nb ≤ 60000) :
  Calls Tryz.prog 125 #[.agg #[.int .i64 kind, .int .i64 gen, .int .i64 seq, .slice pb nb cb]] w fun e w' => ∃ v, e = .returned v ∧ IsVec (fun k => w.heap.size ≤ k) w' 5 1 v 16 (bys (startsF kind gen seq nb)) ∧ Mod nil w w' := by
 refine (?_ : ∀ Post : Ending → World → Prop, Hid (∀ e w', (∃ v, e = .returned v ∧ IsVec (fun k => w.heap.size ≤ k) w' 5 1 v 16 (bys (startsF kind gen seq nb)) ∧ Mod nil w w') → Post e w') → Calls Tryz.prog 125 #[.agg #[.int .i64 kind, .int .i64 gen, .int .i64 seq, .slice pb nb cb]] w Post) _ (Lib.hid (fun _ _ h => h))
 intro Post HPOST
 go_enter Tryz.func125, Tryz.ntmps125
 go_wp2_with fail
 obtain ⟨G, hG⟩ : ∃ G, w.heap.size = G := ⟨_, rfl⟩
 rw [hG]
 generalize hw1 : World.alloc w _ = w1
 have hx1 : w1.heap[G]? = some (.cells #[.int .i64 kind, .int .i64 gen, .int .i64 seq, .slice pb nb cb] 122 (0, 0)) := by rw [← hw1, ← hG]; exact heap_alloc_new _ _
 have hm1 : Mod nil w w1 := by rw [← hw1]; exact (Mod.refl _ _).alloc _
 obtain ⟨B, hBB⟩ : ∃ B, w1.heap.size = B := ⟨_, rfl⟩
 have hGB : G < B := by have := heap_lt hx1; omega
 have HG := Lib.hid hG
 refine (wireNewEnc w1).mono ?_
 rw [hBB]
 rintro e w2 ⟨b, rfl, he, hm⟩
 have hB2 : B ≤ w2.heap.size := by have := hm.size; omega
 have hx := hm.keep hx1
 have hmm := hm1.thenNil hm
 have HE := Lib.hid he
 have HX := Lib.hid hx
 have HM := Lib.hid hmm
 have f0 := cell_of hx 0
 have f1 := cell_of hx 1
 have f2 := cell_of hx 2
 have f3 := cell_of hx 3
 simp only [List.getElem?_toArray, List.getElem?_cons_zero, List.getElem?_cons_succ] at f0 f1 f2 f3
 clear he hx hmm hm hx1 hm1 hw1 hG hBB
 go_wp2_with fail
 refine (encNum B b _ 25446 2 w2 HE.out hB2 (by omega) (by omega) (by omega) (by decide) (by simp [layC_length])).mono ?_
 rintro e w3 ⟨rfl, he, hm⟩
 have hB3 : B ≤ w3.heap.size := by have := hm.size; omega
 have hx : w3.heap[G]? = some (.cells #[.int .i64 kind, .int .i64 gen, .int .i64 seq, .slice pb nb cb] 122 (0, 0)) := (hm.block G (by have := heap_lt HX.out; omega) (by omega)).trans HX.out
 have hmm : Mod nil w w3 := HM.out.new hm (fun k h => by have := HG.out; omega)
 clear HE HX HM f0 f1 f2 f3
 have HE := Lib.hid he
 have HX := Lib.hid hx
 have HM := Lib.hid hmm
 have f0 := cell_of hx 0
 have f1 := cell_of hx 1
 have f2 := cell_of hx 2
 have f3 := cell_of hx 3
 simp only [List.getElem?_toArray, List.getElem?_cons_zero, List.getElem?_cons_succ] at f0 f1 f2 f3
 clear he hx hmm hm
 go_wp2_with fail
 refine (encNum B b _ kind 1 w3 HE.out hB3 (by omega) (by omega) (by omega) (Nat.lt_of_le_of_lt h1 (by decide)) (by simp [layC_length])).mono ?_
 rintro e w4 ⟨rfl, he, hm⟩
 have hB4 : B ≤ w4.heap.size := by have := hm.size; omega
 have hx : w4.heap[G]? = some (.cells #[.int .i64 kind, .int .i64 gen, .int .i64 seq, .slice pb nb cb] 122 (0, 0)) := (hm.block G (by have := heap_lt HX.out; omega) (by omega)).trans HX.out
 have hmm : Mod nil w w4 := HM.out.new hm (fun k h => by have := HG.out; omega)
 clear HE HX HM f0 f1 f2 f3
 have HE := Lib.hid he
 have HX := Lib.hid hx
 have HM := Lib.hid hmm
 have f0 := cell_of hx 0
 have f1 := cell_of hx 1
 have f2 := cell_of hx 2
 have f3 := cell_of hx 3
 simp only [List.getElem?_toArray, List.getElem?_cons_zero, List.getElem?_cons_succ] at f0 f1 f2 f3
 clear he hx hmm hm
 go_wp2_with fail
 refine (encNum B b _ 0 1 w4 HE.out hB4 (by omega) (by omega) (by omega) (by decide) (by simp [layC_length])).mono ?_
 rintro e w5 ⟨rfl, he, hm⟩
 have hB5 : B ≤ w5.heap.size := by have := hm.size; omega
 have hx : w5.heap[G]? = some (.cells #[.int .i64 kind, .int .i64 gen, .int .i64 seq, .slice pb nb cb] 122 (0, 0)) := (hm.block G (by have := heap_lt HX.out; omega) (by omega)).trans HX.out
 have hmm : Mod nil w w5 := HM.out.new hm (fun k h => by have := HG.out; omega)
 clear HE HX HM f0 f1 f2 f3
 have HE := Lib.hid he
 have HX := Lib.hid hx
 have HM := Lib.hid hmm
 have f0 := cell_of hx 0
 have f1 := cell_of hx 1
 have f2 := cell_of hx 2
 have f3 := cell_of hx 3
 simp only [List.getElem?_toArray, List.getElem?_cons_zero, List.getElem?_cons_succ] at f0 f1 f2 f3
 clear he hx hmm hm
 go_wp2_with fail
 refine (encNum B b _ gen 4 w5 HE.out hB5 (by omega) (by omega) (by omega) (Nat.lt_of_le_of_lt h2 (by decide)) (by simp [layC_length])).mono ?_
 rintro e w6 ⟨rfl, he, hm⟩
 have hB6 : B ≤ w6.heap.size := by have := hm.size; omega
 have hx : w6.heap[G]? = some (.cells #[.int .i64 kind, .int .i64 gen, .int .i64 seq, .slice pb nb cb] 122 (0, 0)) := (hm.block G (by have := heap_lt HX.out; omega) (by omega)).trans HX.out
 have hmm : Mod nil w w6 := HM.out.new hm (fun k h => by have := HG.out; omega)
 clear HE HX HM f0 f1 f2 f3
 have HE := Lib.hid he
 have HX := Lib.hid hx
 have HM := Lib.hid hmm
 have f0 := cell_of hx 0
 have f1 := cell_of hx 1
 have f2 := cell_of hx 2
 have f3 := cell_of hx 3
 simp only [List.getElem?_toArray, List.getElem?_cons_zero, List.getElem?_cons_succ] at f0 f1 f2 f3
 clear he hx hmm hm
 go_wp2_with fail
 refine (encNum B b _ seq 4 w6 HE.out hB6 (by omega) (by omega) (by omega) (Nat.lt_of_le_of_lt h3 (by decide)) (by simp [layC_length])).mono ?_
 rintro e w7 ⟨rfl, he, hm⟩
 have hB7 : B ≤ w7.heap.size := by have := hm.size; omega
 have hx : w7.heap[G]? = some (.cells #[.int .i64 kind, .int .i64 gen, .int .i64 seq, .slice pb nb cb] 122 (0, 0)) := (hm.block G (by have := heap_lt HX.out; omega) (by omega)).trans HX.out
 have hmm : Mod nil w w7 := HM.out.new hm (fun k h => by have := HG.out; omega)
 clear HE HX HM f0 f1 f2 f3
 have HE := Lib.hid he
 have HX := Lib.hid hx
 have HM := Lib.hid hmm
 have f0 := cell_of hx 0
 have f1 := cell_of hx 1
 have f2 := cell_of hx 2
 have f3 := cell_of hx 3
 simp only [List.getElem?_toArray, List.getElem?_cons_zero, List.getElem?_cons_succ] at f0 f1 f2 f3
 clear he hx hmm hm
 go_wp2_with fail
 refine (encNum B b _ nb 4 w7 HE.out hB7 (by omega) (by omega) (by omega) (Nat.lt_of_le_of_lt h4 (by decide)) (by simp [layC_length])).mono ?_
 rintro e w8 ⟨rfl, he, hm⟩
 have hB8 : B ≤ w8.heap.size := by have := hm.size; omega
 have hx : w8.heap[G]? = some (.cells #[.int .i64 kind, .int .i64 gen, .int .i64 seq, .slice pb nb cb] 122 (0, 0)) := (hm.block G (by have := heap_lt HX.out; omega) (by omega)).trans HX.out
 have hmm : Mod nil w w8 := HM.out.new hm (fun k h => by have := HG.out; omega)
 clear HE HX HM f0 f1 f2 f3
 have HE := Lib.hid he
 have HX := Lib.hid hx
 have HM := Lib.hid hmm
 have f0 := cell_of hx 0
 have f1 := cell_of hx 1
 have f2 := cell_of hx 2
 have f3 := cell_of hx 3
 simp only [List.getElem?_toArray, List.getElem?_cons_zero, List.getElem?_cons_succ] at f0 f1 f2 f3
 clear he hx hmm hm
 go_wp2_with fail
 refine (encDone B b _ w8 HE.out (by simp [layC_length])).mono ?_
 rintro e w9 ⟨v, rfl, hv, hm⟩
 have hvf : IsVec (fun k => w.heap.size ≤ k) w9 5 1 v 16 (bys (startsF kind gen seq nb)) := by
  have h := hv.mono (T := fun k => w.heap.size ≤ k) (fun k _ h => Nat.le_trans HM.out.size h)
  simpa [layC_length, startsF] using h
 have HF := Lib.hid (And.intro hvf (HM.out.thenNil hm))
 clear hvf hv hm
 go_wp2_with fail
 exact HPOST.out _ _ ⟨v, rfl, HF.out.1, HF.out.2⟩
end Go.Proofs.YtdfahddpkkeldaaGreat

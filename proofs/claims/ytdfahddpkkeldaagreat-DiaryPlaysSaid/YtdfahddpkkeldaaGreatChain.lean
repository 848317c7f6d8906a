/- Package chain: New, may, starts. -/
import Derived.Test.YtdfahddpkkeldaaGreatEnts
import Derived.Test.YtdfahddpkkeldaaGreatRefShaC
import Derived.Test.YtdfahddpkkeldaaGreatWireB
set_option linter.unusedSimpArgs false
set_option linter.unusedVariables false
namespace Go.Proofs.YtdfahddpkkeldaaGreat
open Go.RowKit
def zeros32 : List UInt8 := List.replicate 32 0
/-- what stands ahead of an entry's body -/
def entStart (k n : Nat) : List UInt8 := [] ++ layC k 1 1 ++ layC n 4 4
theorem entStart_length (k n : Nat) : (entStart k n).length = 5 := by simp [entStart, layC_length]
/-- what is wrong with an entry -/
def entErr (k : Int) (n : Nat) : Int := if k < 0 ∨ 255 < k then 1 else if 60000 < n then 3 else 0
/-- the head behind an entry -/
def nextH (h : List UInt8) (e : En) : List UInt8 := shaOf (h ++ entStart e.k.toNat e.b.length ++ e.b)
def headH (l : List En) : List UInt8 := l.foldl nextH zeros32
theorem headH_snoc (l : List En) (e : En) : headH (l ++ [e]) = nextH (headH l) e := by simp [headH]
theorem nextH_length (h : List UInt8) (e : En) : (nextH h e).length = 32 := shaOf_length _
theorem headH_length (l : List En) : (headH l).length = 32 := by
 rcases List.eq_nil_or_concat l with rfl | ⟨m, e, rfl⟩
 ·simp [headH, zeros32]
 ·rw [List.concat_eq_append, headH_snoc, nextH_length]
/-- a chain at block cb, its head h, n entries; all of its blocks are in S -/
structure IsChain (S : Nat → Prop) (w : World) (cb tb : Nat) (h : List UInt8) (n : Nat) : Prop where
 own : S cb
 len : h.length = 32
 ex : ∃ p c, w.heap[cb]? = some (.cells #[.pointer (some ⟨tb, 0, none⟩), .slice p 32 c, .int .i64 n] 116 (0, 0)) ∧ IsRow (fun k => S k ∧ k ≠ cb) w (.slice p 32 c) (bys h)
theorem IsChain.mod {S T : Nat → Prop} {w w' : World} {cb tb : Nat} {h : List UInt8} {n : Nat} (hc : IsChain S w cb tb h n) (m : Mod T w w') (hs : ∀ k, k < w.heap.size → S k → ¬ T k) : IsChain S w' cb tb h n := by
 obtain ⟨p, c, h1, h2⟩ := hc.ex
 exact ⟨hc.own, hc.len, p, c, (m.block cb (heap_lt h1) (hs cb (heap_lt h1) hc.own)).trans h1, h2.mod m (fun k hk h => hs k hk h.1)⟩
theorem IsChain.modNil {S : Nat → Prop} {w w' : World} {cb tb : Nat} {h : List UInt8} {n : Nat} (hc : IsChain S w cb tb h n) (m : Mod nil w w') : IsChain S w' cb tb h n := hc.mod m (fun _ _ _ f => f)
theorem IsChain.mono {S T : Nat → Prop} {w : World} {cb tb : Nat} {h : List UInt8} {n : Nat} (hc : IsChain S w cb tb h n) (hs : ∀ k, k < w.heap.size → S k → T k) : IsChain T w cb tb h n := by
 obtain ⟨p, c, h1, h2⟩ := hc.ex
 exact ⟨hs cb (heap_lt h1) hc.own, hc.len, p, c, h1, h2.mono (fun k hk h => ⟨hs k hk h.1, h.2⟩)⟩
theorem IsChain.lt {S : Nat → Prop} {w : World} {cb tb : Nat} {h : List UInt8} {n : Nat} (hc : IsChain S w cb tb h n) : cb < w.heap.size := by
 obtain ⟨p, c, h1, h2⟩ := hc.ex
 exact heap_lt h1
theorem bys_replicate0 (n : Nat) : bys (List.replicate n 0) = List.replicate n (.int .u8 0) := by simp [bys]
theorem chainNew (tb : Nat) (w : World) : Calls Tryz.prog 28 #[.pointer (some ⟨tb, 0, none⟩)] w fun e w' => ∃ cb, e = .returned (.pointer (some ⟨cb, 0, none⟩)) ∧ IsChain (fun k => w.heap.size ≤ k) w' cb tb zeros32 0 ∧ Mod nil w w' := by
 obtain ⟨i0, hi0, hz0, hz1, hz2⟩ := info_parts info_u8
 have hmk : (Instr.makeSlice 40 (.int .i64 32) (.int .i64 32)).run Tryz.prog w = .ok (.slice (some ⟨w.heap.size, 0, none⟩) 32 32) (w.alloc (.cells (List.replicate 32 (.int .u8 0)).toArray 5)) := run_make_one 40 5 i0 _ 1 Tryz.underlying40 hi0 hz0 hz1 hz2 rfl 32 (by omega) (by unfold maxLen; omega) w
 obtain ⟨L, hL⟩ : ∃ L, (List.replicate 32 (Value.int .u8 0)).toArray = L := ⟨_, rfl⟩
 rw [hL] at hmk
 have HL := Lib.hid hL
 clear hL hi0 hz0 hz1 hz2
 go_enter Tryz.func28, Tryz.ntmps28
 go_wp2_with fail
 go_ret
 obtain ⟨g, hg⟩ : ∃ g, w.heap.size = g := ⟨_, rfl⟩
 obtain ⟨w1, hw1⟩ : ∃ w1, w.alloc (.cells L 5) = w1 := ⟨_, rfl⟩
 have hs1 : w1.heap.size = g + 1 := by rw [← hw1, ← hg]; simp
 have hb1 : w1.heap[g]? = some (.cells (bys zeros32).toArray 5 (0, 0)) := by rw [← hw1, ← hg, zeros32, bys_replicate0, HL.out]; exact heap_alloc_new _ _
 have hm1 : Mod nil w w1 := by rw [← hw1]; exact (Mod.refl _ _).alloc _
 rw [hw1, hg]
 refine ⟨g + 1, by rw [← hs1]; rfl, ⟨by omega, by simp [zeros32], _, _, by rw [← hs1]; exact heap_alloc_new _ _, ?_⟩, hm1.thenNil ((Mod.refl _ _).alloc _)⟩
 exact (IsRow.ofBlock (S := fun k => k = g) hb1 rfl 32 32 (by simp [zeros32, bys])).modNil ((Mod.refl nil w1).alloc _) |>.mono (fun k _ h => by subst h; omega)
theorem chainMay (k : Int) (p : Option Addr) (n c : Nat) (w : World) (hn : n ≤ maxLen) :
  Calls Tryz.prog 61 #[.agg #[.int .i64 k, .slice p n c]] w fun e w' => e = .returned (.int .i64 (entErr k n)) ∧ Mod nil w w' := by
 unfold maxLen at hn
 rcases (show k < 0 ∨ (0 ≤ k ∧ 255 < k) ∨ (0 ≤ k ∧ k ≤ 255 ∧ 60000 < n) ∨ (0 ≤ k ∧ k ≤ 255 ∧ n ≤ 60000) by omega) with h1 | ⟨h1, h2⟩ | ⟨h1, h2, h3⟩ | ⟨h1, h2, h3⟩
 ·obtain ⟨r, hr⟩ : ∃ r, entErr k n = r := ⟨_, rfl⟩
  have HR : Hid (r = 1) := Lib.hid (by rw [← hr]; unfold entErr; rw [if_pos (by omega)])
  rw [hr]
  clear hr
  go_enter Tryz.func61, Tryz.ntmps61
  go_wp2_with fail
  go_ret
  exact ⟨by rw [HR.out]; rfl, (Mod.refl _ _).alloc _⟩
 ·obtain ⟨r, hr⟩ : ∃ r, entErr k n = r := ⟨_, rfl⟩
  have HR : Hid (r = 1) := Lib.hid (by rw [← hr]; unfold entErr; rw [if_pos (by omega)])
  rw [hr]
  clear hr
  go_enter Tryz.func61, Tryz.ntmps61
  go_wp2_with fail
  go_ret
  exact ⟨by rw [HR.out]; rfl, (Mod.refl _ _).alloc _⟩
 ·obtain ⟨r, hr⟩ : ∃ r, entErr k n = r := ⟨_, rfl⟩
  have HR : Hid (r = 3) := Lib.hid (by rw [← hr]; unfold entErr; rw [if_neg (by omega), if_pos (by omega)])
  rw [hr]
  clear hr
  go_enter Tryz.func61, Tryz.ntmps61
  go_wp2_with fail
  go_ret
  exact ⟨by rw [HR.out]; rfl, (Mod.refl _ _).alloc _⟩
 ·obtain ⟨r, hr⟩ : ∃ r, entErr k n = r := ⟨_, rfl⟩
  have HR : Hid (r = 0) := Lib.hid (by rw [← hr]; unfold entErr; rw [if_neg (by omega), if_neg (by omega)])
  rw [hr]
  clear hr
  go_enter Tryz.func61, Tryz.ntmps61
  go_wp2_with fail
  go_ret
  exact ⟨by rw [HR.out]; rfl, (Mod.refl _ _).alloc _⟩
set_option maxRecDepth 100000 in
set_option maxHeartbeats 1000000 in
theorem chainStarts (kind nb cb : Nat) (pb : Option Addr) (w : World) (h1 : kind ≤ 255) (h4 : nb ≤ 60000) :
  Calls Tryz.prog 64 #[.agg #[.int .i64 kind, .slice pb nb cb]] w fun e w' => ∃ v, e = .returned v ∧ IsVec (fun k => w.heap.size ≤ k) w' 5 1 v 5 (bys (entStart kind nb)) ∧ Mod nil w w' := by
 refine (?_ : ∀ Post : Ending → World → Prop, Hid (∀ e w', (∃ v, e = .returned v ∧ IsVec (fun k => w.heap.size ≤ k) w' 5 1 v 5 (bys (entStart kind nb)) ∧ Mod nil w w') → Post e w') → Calls Tryz.prog 64 #[.agg #[.int .i64 kind, .slice pb nb cb]] w Post) _ (Lib.hid (fun _ _ h => h))
 intro Post HPOST
 go_enter Tryz.func64, Tryz.ntmps64
 go_wp2_with fail
 obtain ⟨G, hG⟩ : ∃ G, w.heap.size = G := ⟨_, rfl⟩
 rw [hG]
 generalize hw1 : World.alloc w _ = w1
 have hx1 : w1.heap[G]? = some (.cells #[.int .i64 kind, .slice pb nb cb] 42 (0, 0)) := by rw [← hw1, ← hG]; exact heap_alloc_new _ _
 have hm1 : Mod nil w w1 := by rw [← hw1]; exact (Mod.refl _ _).alloc _
 obtain ⟨B, hBB⟩ : ∃ B, w1.heap.size = B := ⟨_, rfl⟩
 have hGB : G < B := by have := heap_lt hx1; omega
 have HG := Lib.hid hG
 refine (wireNewEnc w1).mono ?_
 rw [hBB]
 rintro e w2 ⟨b, rfl, he, hm⟩
 have hB2 : B ≤ w2.heap.size := by have := hm.size; omega
 have hx := hm.keep hx1
 have hmm := hm1.thenNil hm
 have HE := Lib.hid he
 have HX := Lib.hid hx
 have HM := Lib.hid hmm
 have f0 := cell_of hx 0
 have f1 := cell_of hx 1
 simp only [List.getElem?_toArray, List.getElem?_cons_zero, List.getElem?_cons_succ] at f0 f1
 clear he hx hmm hm hx1 hm1 hw1 hG hBB
 go_wp2_with fail
 refine (encNum B b _ kind 1 w2 HE.out hB2 (by omega) (by omega) (by omega) (Nat.lt_of_le_of_lt h1 (by decide)) (by simp)).mono ?_
 rintro e w3 ⟨rfl, he, hm⟩
 have hB3 : B ≤ w3.heap.size := by have := hm.size; omega
 have hx : w3.heap[G]? = some (.cells #[.int .i64 kind, .slice pb nb cb] 42 (0, 0)) := (hm.block G (by have := heap_lt HX.out; omega) (by omega)).trans HX.out
 have hmm : Mod nil w w3 := HM.out.new hm (fun k h => by have := HG.out; omega)
 clear HE HX HM f0 f1
 have HE := Lib.hid he
 have HX := Lib.hid hx
 have HM := Lib.hid hmm
 have f0 := cell_of hx 0
 have f1 := cell_of hx 1
 simp only [List.getElem?_toArray, List.getElem?_cons_zero, List.getElem?_cons_succ] at f0 f1
 clear he hx hmm hm
 go_wp2_with fail
 refine (encNum B b _ nb 4 w3 HE.out hB3 (by omega) (by omega) (by omega) (Nat.lt_of_le_of_lt h4 (by decide)) (by simp [layC_length])).mono ?_
 rintro e w4 ⟨rfl, he, hm⟩
 have hB4 : B ≤ w4.heap.size := by have := hm.size; omega
 have hmm : Mod nil w w4 := HM.out.new hm (fun k h => by have := HG.out; omega)
 clear HE HX HM f0 f1
 have HE := Lib.hid he
 have HM := Lib.hid hmm
 clear he hmm hm
 go_wp2_with fail
 refine (encDone B b _ w4 HE.out (by simp [layC_length])).mono ?_
 rintro e w5 ⟨v, rfl, hv, hm⟩
 have hl : ([] ++ layC kind 1 1 ++ layC nb 4 4).length = 5 := by simp [layC_length]
 rw [hl] at hv
 have HEND := Lib.hid (HPOST.out _ _ ⟨v, rfl, hv.mono (fun k _ h => Nat.le_trans HM.out.size h), HM.out.thenNil hm⟩)
 clear hv hm hl
 go_wp2_with fail
 exact HEND.out
end Go.Proofs.YtdfahddpkkeldaaGreat

/- Package frame: Get. -/
import Derived.Deep.RegionHeld3
import Derived.Test.YtdfahddpkkeldaaGreatFrameD
import Derived.Test.YtdfahddpkkeldaaGreatBytesB
set_option linter.unusedSimpArgs false
set_option linter.unusedVariables false
namespace Go.Proofs.YtdfahddpkkeldaaGreat
open Go.RowKit
theorem results_cell_row3 {fn : Func} {p u v : Tmp} {ty : TypeId} {fs : Array Field} (h : fn.results = #[.cell p ty, .tmp u, .tmp v]) (tmps : Array Value) (w : World) (g : Nat) (t : TypeId) (cs : Array Value) (fr : Nat × Nat)
  (hp : tmps.getD p undef = .pointer (some ⟨g, 0, none⟩)) (hg : w.heap[g]? = some (.cells cs t fr))
  (hu : Tryz.prog.underlying ty = some (.struct fs)) (hi : (Tryz.prog.info? ty).map (·.size) = some cs.size) :
  (results fn tmps).run Tryz.prog w = .ok (.tuple #[.agg cs, tmps.getD u undef, tmps.getD v undef]) w := by
 have hp' : tmps[p]?.getD undef = .pointer (some ⟨g, 0, none⟩) := by simpa using hp
 simp [results, h, hp', asAddr, run_loadVar_row w g t ty cs fr _ hg hu rfl hi]
theorem info_frame : (Tryz.prog.info? 122).map (·.size) = some 4 := by kernel_rfl
theorem IsDec.mono {S T : Nat → Prop} {w : World} {b : Nat} {l : List UInt8} {e : Int} (h : IsDec S w b l e) (hs : ∀ k, k < w.heap.size → S k → T k) : IsDec T w b l e := by
 obtain ⟨p, q, h1, h2, h3, h4⟩ := h.ex
 exact ⟨p, q, h1, h2, h3, h4.mono hs⟩
theorem decN_ok (l : List UInt8) (size : Nat) (h4 : size ≤ 4) (hl : size ≤ l.length) : decN l 0 size = ((beN (l.take size) : Int), l.drop size, 0) := by
 have hlt := beN_take_lt l size hl
 have h2 : 256 ^ size ≤ 256 ^ 4 := Nat.pow_le_pow_right (by omega) h4
 have h3 : (256 : Nat) ^ 4 = 4294967296 := by decide
 have hn : numF l size = ((beN (l.take size) : Int), 0) := by unfold numF; rw [if_neg (by omega), if_neg (by omega)]
 unfold decN
 rw [if_neg (by simp), hn, if_neg (by simp)]
theorem decNumAt (S : Nat → Prop) (b k k' size : Nat) (s : List UInt8) (w : World) (h : IsDec S w b (s.drop k) 0) (hS : ¬ S b) (h1 : 1 ≤ size) (h4 : size ≤ 4) (hk : k' = k + size) (hl : k' ≤ s.length) :
  Calls Tryz.prog 119 #[.pointer (some ⟨b, 0, none⟩), .int .i64 size] w fun e w' => ∃ n : Nat, Hid (n = beN ((s.drop k).take size)) ∧ e = .returned (.int .i64 n) ∧ IsDec S w' b (s.drop k') 0 ∧ Mod (· = b) w w' := by
 have hd := decN_ok (s.drop k) size h4 (by rw [List.length_drop]; omega)
 refine (decNum S b (s.drop k) 0 size w h hS h1 (by omega)).mono ?_
 rw [hd]
 rintro e w' ⟨rfl, h2, h3⟩
 simp only [List.drop_drop] at h2
 rw [← hk] at h2
 exact ⟨_, Lib.hid rfl, rfl, h2, h3⟩
theorem be4_lt (l : List UInt8) : beN (l.take 4) ≤ 4294967295 := by
 rcases Nat.lt_or_ge l.length 4 with h | h
 ·have h1 := beN_take_lt l l.length (Nat.le_refl _)
  rw [List.take_length] at h1
  rw [List.take_of_length_le (by omega)]
  have h2 : 256 ^ l.length ≤ 256 ^ 4 := Nat.pow_le_pow_right (by omega) (by omega)
  have h3 : (256 : Nat) ^ 4 = 4294967296 := by decide
  omega
 ·have h1 := beN_take_lt l 4 h
  have h3 : (256 : Nat) ^ 4 = 4294967296 := by decide
  omega
theorem be1_lt (l : List UInt8) : beN (l.take 1) ≤ 255 := by
 rcases Nat.lt_or_ge l.length 1 with h | h
 ·have : l = [] := List.eq_nil_of_length_eq_zero (by omega)
  subst this
  simp [beN]
 ·have h1 := beN_take_lt l 1 h
  omega
/-- the numbers that the first sector tells: Kind, Gen, Seq, the body's length -/
def headF (b : List UInt8) : Nat × Nat × Nat × Nat :=
 (beN (((tailsTo b 1).drop 2).take 1), beN (((tailsTo b 1).drop 4).take 4), beN (((tailsTo b 1).drop 8).take 4), beN (((tailsTo b 1).drop 12).take 4))
/-- the frame that bytes begin with -/
def getF (b : List UInt8) : Option (Nat × Nat × Nat × List UInt8) :=
 if liftOk b 1 = true ∧ (headF b).2.2.2 ≤ 60000 ∧ liftOk b (sectorsF (headF b).2.2.2) = true ∧
   putF (headF b).1 (headF b).2.1 (headF b).2.2.1 (((tailsTo b (sectorsF (headF b).2.2.2)).drop 24).take (headF b).2.2.2) = b.take (64 * sectorsF (headF b).2.2.2) then
  some ((headF b).1, (headF b).2.1, (headF b).2.2.1, ((tailsTo b (sectorsF (headF b).2.2.2)).drop 24).take (headF b).2.2.2)
 else none
def Got (tb : Nat) (w w' : World) (b : List UInt8) (e : Ending) : Prop :=
 IsTab w' tb ∧ Mod (· = tb) w w' ∧
 ((getF b = none ∧ e = .returned (.tuple #[.agg #[.int .i64 0, .int .i64 0, .int .i64 0, .slice none 0 0], .int .i64 0, .int .i64 2])) ∨
  (∃ kind gen seq body q c, getF b = some (kind, gen, seq, body) ∧ e = .returned (.tuple #[.agg #[.int .i64 (kind : Nat), .int .i64 (gen : Nat), .int .i64 (seq : Nat), .slice q body.length c], .int .i64 (sectorsF body.length : Nat), .int .i64 0]) ∧
   IsVec (fun k => w.heap.size ≤ k) w' 5 1 (.slice q body.length c) body.length (bys body)))
set_option maxRecDepth 100000 in
set_option maxHeartbeats 4000000 in
theorem frameGet (tb : Nat) (T : Nat → Prop) (p : Option Addr) (len cap : Nat) (b : List UInt8) (w : World) (ht : IsTab w tb) (hrow : IsRow T w (.slice p len cap) (bys b)) (hT : ∀ k, T k → k < w.heap.size ∧ k ≠ tb) (hcap : len ≤ cap) (hcm : cap ≤ maxLen) :
  Calls Tryz.prog 85 #[.pointer (some ⟨tb, 0, none⟩), .slice p len cap] w fun e w' => Got tb w w' b e := by
 refine (?_ : ∀ Post : Ending → World → Prop, Hid (∀ e w', (Got tb w w' b e) → Post e w') → Calls Tryz.prog 85 #[.pointer (some ⟨tb, 0, none⟩), .slice p len cap] w Post) _ (Lib.hid (fun _ _ h => h))
 intro Post HPOST
 have hbl : b.length = len := by
  obtain ⟨_, _, h, _⟩ := hrow
  simp only [Value.slice.injEq, bys_length] at h
  exact h.2.1.symm
 have HBL := Lib.hid hbl
 have HROW := Lib.hid hrow
 have HTT := Lib.hid hT
 have htl := ht.lt
 have HT := Lib.hid ht
 clear hrow hT ht hbl
 go_enter Tryz.func85, Tryz.ntmps85
 go_wp2_with fail
 obtain ⟨G, hG⟩ : ∃ G, w.heap.size = G := ⟨_, rfl⟩
 rw [hG] at htl ⊢
 generalize hw1 : World.alloc w _ = w1
 have hx1 : w1.heap[G]? = some (.cells #[.int .i64 0, .int .i64 0, .int .i64 0, .slice none 0 0] 122 (0, 0)) := by rw [← hw1, ← hG]; exact heap_alloc_new _ _
 have hm1 : Mod nil w w1 := by rw [← hw1]; exact (Mod.refl _ _).alloc _
 have HG := Lib.hid hG
 have HX1 := Lib.hid hx1
 have HM1 := Lib.hid hm1
 clear hw1 hx1 hm1 hG
 refine (frameLifts T p len cap 1 b w1 (HROW.out.modNil HM1.out) hcap (by omega) hcm).mono ?_
 rintro e w2 (⟨hok, v, rfl, hv2, hm2⟩ | ⟨hbad, rfl, hm2⟩)
 ·rw [Nat.mul_one] at hv2
  obtain ⟨s, hs⟩ : ∃ s, tailsTo b 1 = s := ⟨_, rfl⟩
  rw [hs] at hv2
  have hsl : s.length = 63 := by
   rw [← hs, tailsTo_length b 1 (by unfold liftOk at hok; simp at hok; omega)]
  obtain ⟨ps, cs, rfl, hcs, hcs2⟩ := vecCap hv2
  have HOK := Lib.hid hok
  have HSS := Lib.hid hs
  have HSL := Lib.hid hsl
  have hx2 := hm2.keep HX1.out
  have HX2 := Lib.hid hx2
  have HM2 := Lib.hid (HM1.out.thenNil hm2)
  have HV2 := Lib.hid hv2
  clear hv2 hm2 hx2 hok hs hsl
  go_wp2_with fail
  refine (wireNewDec _ _ s w2 HV2.out.row (by rw [HSL.out]; omega)).mono ?_
  rintro e w3 ⟨bd, rfl, hbd, hd, hm3⟩
  have hGd : G < bd := by have := heap_lt HX2.out; omega
  obtain ⟨B3, hB3⟩ : ∃ B3, w3.heap.size = B3 := ⟨_, rfl⟩
  have hd' := hd.mono (T := fun k => G < k ∧ k ≠ bd ∧ k < B3) (fun k hk h => ⟨by have := heap_lt HX2.out; omega, h.2, by omega⟩)
  have hbd3 : bd < B3 := by have := hd.lt; omega
  obtain ⟨SD, hSD⟩ : ∃ SD : Nat → Prop, (fun k => G < k ∧ k ≠ bd ∧ k < B3) = SD := ⟨_, rfl⟩
  rw [hSD] at hd'
  have hSDk : ∀ k, SD k → G < k ∧ k ≠ bd ∧ k < B3 := fun k h => by rw [← hSD] at h; exact h
  have hSb : ¬ SD bd := fun h => (hSDk bd h).2.1 rfl
  have HSDK := Lib.hid hSDk
  have HB3 := Lib.hid hB3
  have HD : Hid (IsDec SD w3 bd (s.drop 0) 0) := Lib.hid hd'
  have HX := Lib.hid (hm3.keep HX2.out)
  have HM := Lib.hid (HM2.out.thenNil hm3)
  clear hd hd' hm3 hSD hSDk HX1 HM1 hB3
  go_wp2_with fail
  refine (decNumAt SD bd 0 2 2 s w3 HD.out hSb (by omega) (by omega) rfl (by rw [HSL.out]; omega)).mono ?_
  rintro e w4 ⟨n0, Hn0, rfl, hd, hm⟩
  have HM4s : Hid (B3 ≤ w4.heap.size) := Lib.hid (by have := hm.size; have := HB3.out; omega)
  have hm' : Mod nil w w4 := HM.out.new hm (fun k h => by have := HG.out; omega)
  have hx' : w4.heap[G]? = _ := (hm.block G (heap_lt HX.out) (by omega)).trans HX.out
  clear HD HM HX
  have HD := Lib.hid hd
  have HM := Lib.hid hm'
  have HX := Lib.hid hx'
  clear hd hm' hx'
  clear hm
  go_wp2_with fail
  refine (decNumAt SD bd 2 3 1 s w4 HD.out hSb (by omega) (by omega) rfl (by rw [HSL.out]; omega)).mono ?_
  rintro e w5 ⟨kind, Hkind, rfl, hd, hm⟩
  have HM5s : Hid (B3 ≤ w5.heap.size) := Lib.hid (by have := hm.size; have := HM4s.out; omega)
  have hm' : Mod nil w w5 := HM.out.new hm (fun k h => by have := HG.out; omega)
  have hx' : w5.heap[G]? = _ := (hm.block G (heap_lt HX.out) (by omega)).trans HX.out
  clear HD HM HX
  have HD := Lib.hid hd
  have HM := Lib.hid hm'
  have HX := Lib.hid hx'
  clear hd hm' hx'
  clear hm HM4s
  go_upto_region 7 with (fail)
  obtain ⟨F, hF⟩ : ∃ F, w5.heap.size = F := ⟨_, rfl⟩
  have hFb : bd < F ∧ G < F ∧ B3 ≤ F := by have := HD.out.lt; have := heap_lt HX.out; have h5 := HM5s.out; omega
  rw [hF]
  generalize hw6 : World.alloc w5 _ = w6
  have hf6 : w6.heap[F]? = some (.cells #[.int .i64 kind, .int .i64 0, .int .i64 0, .slice none 0 0] 122 (0, 0)) := by rw [← hw6, ← hF]; exact heap_alloc_new _ _
  have hma : Mod nil w5 w6 := by rw [← hw6]; exact (Mod.refl _ _).alloc _
  have hd := HD.out.mod hma (not_nil _) (fun _ _ _ h => h)
  have hx' := hma.keep HX.out
  have hm' := HM.out.thenNil hma
  clear HD HX HM hw6 hma hF HM5s
  have HD := Lib.hid hd
  have HX := Lib.hid hx'
  have HM := Lib.hid hm'
  have HF := Lib.hid hf6
  clear hd hx' hm' hf6
  go_wp2_with fail
  refine (decNumAt SD bd 3 4 1 s w6 HD.out hSb (by omega) (by omega) rfl (by rw [HSL.out]; omega)).mono ?_
  rintro e w7 ⟨n1, Hn1, rfl, hd, hm⟩
  have hm' : Mod nil w w7 := HM.out.new hm (fun k h => by have := HG.out; omega)
  have hx' : w7.heap[G]? = _ := (hm.block G (heap_lt HX.out) (by omega)).trans HX.out
  have hf' := (hm.block F (heap_lt HF.out) (by omega)).trans HF.out
  clear HF
  have HF := Lib.hid hf'
  clear hf'
  clear HD HM HX
  have HD := Lib.hid hd
  have HM := Lib.hid hm'
  have HX := Lib.hid hx'
  clear hd hm' hx'
  clear hm
  go_wp2_with fail
  refine (decNumAt SD bd 4 8 4 s w7 HD.out hSb (by omega) (by omega) rfl (by rw [HSL.out]; omega)).mono ?_
  rintro e w8 ⟨gen, Hgen, rfl, hd, hm⟩
  have hm' : Mod nil w w8 := HM.out.new hm (fun k h => by have := HG.out; omega)
  have hx' : w8.heap[G]? = _ := (hm.block G (heap_lt HX.out) (by omega)).trans HX.out
  have hf' := (hm.block F (heap_lt HF.out) (by omega)).trans HF.out
  clear HF
  have HF := Lib.hid hf'
  clear hf'
  clear HD HM HX
  have HD := Lib.hid hd
  have HM := Lib.hid hm'
  have HX := Lib.hid hx'
  clear hd hm' hx'
  clear hm
  go_wp2_with fail
  refine (decNumAt SD bd 8 12 4 s w8 HD.out hSb (by omega) (by omega) rfl (by rw [HSL.out]; omega)).mono ?_
  rintro e w9 ⟨seq, Hseq, rfl, hd, hm⟩
  have hm' : Mod nil w w9 := HM.out.new hm (fun k h => by have := HG.out; omega)
  have hx' : w9.heap[G]? = _ := (hm.block G (heap_lt HX.out) (by omega)).trans HX.out
  have hf' := (hm.block F (heap_lt HF.out) (by omega)).trans HF.out
  clear HF
  have HF := Lib.hid hf'
  clear hf'
  clear HD HM HX
  have HD := Lib.hid hd
  have HM := Lib.hid hm'
  have HX := Lib.hid hx'
  clear hd hm' hx'
  clear hm
  have q1 := cell_of HF.out 1
  have q2 := cell_of HF.out 2
  have z1 := free_of HF.out 1
  have z2 := free_of HF.out 2
  simp only [List.getElem?_toArray, List.getElem?_cons_zero, List.getElem?_cons_succ] at q1 q2
  have h1 := heap_setCell_same HF.out (.int .i64 gen) (off := 1)
  have h2 := heap_setCell_same h1 (.int .i64 seq) (off := 2)
  simp only [List.setIfInBounds_toArray, List.set_cons_succ, List.set_cons_zero] at h2
  have hm2 : Mod (· = F) w9 ((w9.setCell ⟨F, 1, none⟩ (.int .i64 gen)).setCell ⟨F, 2, none⟩ (.int .i64 seq)) := ((Mod.refl (· = F) w9).setCell _ _ (fun _ => rfl)).setCell _ _ (fun _ => rfl)
  go_upto_region 9 with (fail)
  generalize World.setCell (World.setCell w9 _ _) _ _ = w10 at *
  have hd := HD.out.mod hm2 (by omega) (fun k _ h1 h2 => by have := HSDK.out k h1; omega)
  have hx' := (hm2.block G (heap_lt HX.out) (by omega)).trans HX.out
  have hm' := HM.out.new hm2 (fun k h => by have := HG.out; omega)
  clear HD HX HM HF q1 q2 z1 z2 h1 hm2
  have HD := Lib.hid hd
  have HX := Lib.hid hx'
  have HM := Lib.hid hm'
  have HF := Lib.hid h2
  clear hd hx' hm' h2
  go_wp2_with fail
  refine (decNumAt SD bd 12 16 4 s w10 HD.out hSb (by omega) (by omega) rfl (by rw [HSL.out]; omega)).mono ?_
  rintro e w11 ⟨nn, Hnn, rfl, hd, hm⟩
  have hm' : Mod nil w w11 := HM.out.new hm (fun k h => by have := HG.out; omega)
  have hx' : w11.heap[G]? = _ := (hm.block G (heap_lt HX.out) (by omega)).trans HX.out
  have hf' := (hm.block F (heap_lt HF.out) (by omega)).trans HF.out
  clear HF
  have HF := Lib.hid hf'
  clear hf'
  clear HD HM HX
  have HD := Lib.hid hd
  have HM := Lib.hid hm'
  have HX := Lib.hid hx'
  clear hd hm' hx'
  clear hm
  clear HD
  have hhead : headF b = (kind, gen, seq, nn) := by unfold headF; rw [HSS.out, ← Hkind.out, ← Hgen.out, ← Hseq.out, ← Hnn.out]
  have hb1 : kind ≤ 255 := by rw [Hkind.out]; exact be1_lt _
  have hb2 : gen ≤ 4294967295 := by rw [Hgen.out]; exact be4_lt _
  have hb3 : seq ≤ 4294967295 := by rw [Hseq.out]; exact be4_lt _
  have hb4 : nn ≤ 4294967295 := by rw [Hnn.out]; exact be4_lt _
  have HHEAD := Lib.hid hhead
  clear hhead Hkind Hgen Hseq Hnn Hn0 Hn1 HSS HSL HV2 HM2 HX2
  obtain ⟨S, hS⟩ : ∃ S : Nat, (if 0 ≤ (nn : Int) ∧ (nn : Int) ≤ 60000 then sectorsF (nn : Int).toNat else 0) = S := ⟨_, rfl⟩
  have hS1 : S ≤ 1000 ∧ (nn ≤ 60000 → S = sectorsF nn ∧ 24 + nn ≤ 63 * S ∧ 1 ≤ S) := by
   rw [← hS]
   by_cases h : nn ≤ 60000
   ·rw [if_pos (by omega), Int.toNat_natCast]; unfold sectorsF; omega
   ·rw [if_neg (by omega)]; omega
  go_wp2_with fail
  have hsec := frameSectors nn w11
  rw [hS] at hsec
  refine hsec.mono ?_
  rintro e w' ⟨rfl, rfl⟩
  clear hsec hS
  go_wp2_with fail
  refine (frameLifts T p len cap S b w11 (HROW.out.modNil HM.out) hcap hS1.1 hcm).mono ?_
  rintro e w12 (⟨hok, v, rfl, hv12, hm12⟩ | ⟨hbad, rfl, hm12⟩)
  case inr =>
   have HNONE : Hid (getF b = none) := Lib.hid (by
    unfold getF
    rw [HHEAD.out]
    refine if_neg (fun h => ?_)
    have h3 := h.2.2.1
    simp only at h3
    rw [← (hS1.2 h.2.1).1, hbad] at h3
    cases h3)
   have hx12 := hm12.keep HX.out
   have HX12 := Lib.hid hx12
   have HM12 := Lib.hid (HM.out.thenNil hm12)
   clear hx12 hm12 hbad HX HM HF hS1
   by_cases hnn : (60000 : Int) < (nn : Int)
   all_goals
    clear hb4
    go_wp2_with (refine wpList_store_row rfl _ _ _ rfl G #[.int .i64 0, .int .i64 0, .int .i64 0, .slice none 0 0] rfl rfl 122 _ HX12.out info_frame rfl (by simp [Value.oneCell']) ?_)
    have hbz := setRow_heap w12 G _ #[.int .i64 0, .int .i64 0, .int .i64 0, .slice none 0 0] _ _ HX12.out
    have hmz : Mod (· = tb) w (World.setRow w12 G #[.int .i64 0, .int .i64 0, .int .i64 0, .slice none 0 0]) := HM12.out.ofNil.trans ((Mod.refl (· = G) w12).rowSet G #[.int .i64 0, .int .i64 0, .int .i64 0, .slice none 0 0] (fun _ => rfl)) (fun k hk h => by have := HG.out; omega)
    have htz : IsTab (World.setRow w12 G #[.int .i64 0, .int .i64 0, .int .i64 0, .slice none 0 0]) tb := (HT.out.mod HM12.out (not_nil _)).mod ((Mod.refl (· = G) w12).rowSet G #[.int .i64 0, .int .i64 0, .int .i64 0, .slice none 0 0] (fun _ => rfl)) (by omega)
    generalize World.setRow w12 G _ = w77 at *
    refine bodyPost_ret (results_cell_row3 rfl _ _ G 122 #[.int .i64 0, .int .i64 0, .int .i64 0, .slice none 0 0] (0, 0) rfl hbz Tryz.underlying122 info_frame) rfl ?_
    exact HPOST.out _ _ ⟨htz, hmz, .inl ⟨HNONE.out, rfl⟩⟩
  case inl =>
   by_cases hnn : (60000 : Int) < (nn : Int)
   ·have HNONE : Hid (getF b = none) := Lib.hid (by
     unfold getF
     rw [HHEAD.out]
     refine if_neg (fun h => ?_)
     have h2 := h.2.1
     simp only at h2
     omega)
    obtain ⟨pv, cv, rfl⟩ := hv12.form
    have hx12 := hm12.keep HX.out
    have HX12 := Lib.hid hx12
    have HM12 := Lib.hid (HM.out.thenNil hm12)
    clear hx12 hm12 hv12 HX HM HF hS1 hok
    go_wp2_with (refine wpList_store_row rfl _ _ _ rfl G #[.int .i64 0, .int .i64 0, .int .i64 0, .slice none 0 0] rfl rfl 122 _ HX12.out info_frame rfl (by simp [Value.oneCell']) ?_)
    have hbz := setRow_heap w12 G _ #[.int .i64 0, .int .i64 0, .int .i64 0, .slice none 0 0] _ _ HX12.out
    have hmz : Mod (· = tb) w (World.setRow w12 G #[.int .i64 0, .int .i64 0, .int .i64 0, .slice none 0 0]) := HM12.out.ofNil.trans ((Mod.refl (· = G) w12).rowSet G #[.int .i64 0, .int .i64 0, .int .i64 0, .slice none 0 0] (fun _ => rfl)) (fun k hk h => by have := HG.out; omega)
    have htz : IsTab (World.setRow w12 G #[.int .i64 0, .int .i64 0, .int .i64 0, .slice none 0 0]) tb := (HT.out.mod HM12.out (not_nil _)).mod ((Mod.refl (· = G) w12).rowSet G #[.int .i64 0, .int .i64 0, .int .i64 0, .slice none 0 0] (fun _ => rfl)) (by omega)
    generalize World.setRow w12 G _ = w77 at *
    refine bodyPost_ret (results_cell_row3 rfl _ _ G 122 #[.int .i64 0, .int .i64 0, .int .i64 0, .slice none 0 0] (0, 0) rfl hbz Tryz.underlying122 info_frame) rfl ?_
    exact HPOST.out _ _ ⟨htz, hmz, .inl ⟨HNONE.out, rfl⟩⟩
   ·obtain ⟨hSS, hS24, hS1'⟩ := hS1.2 (by omega)
    obtain ⟨pv, cv, rfl, hcv, hcv2⟩ := vecCap hv12
    unfold maxLen at hcv2
    obtain ⟨gv, rfl, -, -⟩ := vecBlock hv12 (by omega)
    have htail : (tailsTo b S).length = 63 * S := by have := hv12.len; rw [bys_length] at this; omega
    obtain ⟨body, hbody⟩ : ∃ body, ((tailsTo b S).drop 24).take nn = body := ⟨_, rfl⟩
    have hbl : body.length = nn := by rw [← hbody, List.length_take, List.length_drop, htail]; omega
    have hrow : IsRow (fun k => w11.heap.size ≤ k) w12 (.slice (some ⟨gv, 24, none⟩) nn (cv - 24)) (bys body) := by
     have h1 := row_drop hv12.row 24 (by rw [bys_length, htail]; omega)
     have h2 := rowFront h1 nn (by rw [List.length_drop, bys_length, htail]; omega)
     rw [Nat.zero_add] at h2
     rw [← hbody, bysTake, bys_drop]
     exact h2
    have HROWB := Lib.hid hrow
    have HBODY := Lib.hid hbody
    have HBLN := Lib.hid hbl
    have HOK2 := Lib.hid hok
    have hx12 := hm12.keep HX.out
    have hf12 := hm12.keep HF.out
    have HX12 := Lib.hid hx12
    have HF12 := Lib.hid hf12
    have HM12 := Lib.hid (HM.out.thenNil hm12)
    have hc24 : ¬ cv = 24 := by omega
    have HSS := Lib.hid hSS
    have hFs := heap_lt HF.out
    have hF12 := hm12.size
    clear hx12 hf12 hm12 hv12 hrow hbody hbl hok htail HX HM HF hS1 hSS
    go_wp2_with fail
    refine (bytesClone _ _ body w12 HROWB.out (by rw [HBLN.out]; omega)).mono ?_
    rintro e w13 ⟨v13, rfl, hv13, hm13⟩
    rw [HBLN.out] at hv13
    obtain ⟨p13, c13, rfl⟩ := hv13.form
    have hf13 := hm13.keep HF12.out
    have q3 := cell_of hf13 3
    have z3 := free_of hf13 3
    simp only [List.getElem?_toArray, List.getElem?_cons_zero, List.getElem?_cons_succ] at q3
    have hf14 := heap_setCell_same hf13 (.slice p13 nn c13) (off := 3)
    simp only [List.setIfInBounds_toArray, List.set_cons_succ, List.set_cons_zero] at hf14
    have hm14 : Mod (· = F) w13 (w13.setCell ⟨F, 3, none⟩ (.slice p13 nn c13)) := (Mod.refl (· = F) w13).setCell _ _ (fun _ => rfl)
    go_upto_region 14 with (fail)
    generalize World.setCell w13 _ _ = w14 at *
    have hv14 : IsVec (fun k => F < k ∧ k < w14.heap.size) w14 5 1 (.slice p13 nn c13) nn (bys body) := (hv13.mod hm14 (fun k hk h1 h2 => by omega)).mono (fun k hk h => ⟨by omega, hk⟩)
    have HV14 := Lib.hid hv14
    have HX14 := Lib.hid ((hm14.block G (heap_lt (hm13.keep HX12.out)) (by omega)).trans (hm13.keep HX12.out))
    have HM14 := Lib.hid ((HM12.out.thenNil hm13).new hm14 (fun k h => by have := HG.out; omega))
    have HF14 := Lib.hid hf14
    have r0 := cell_of hf14 0
    have r1 := cell_of hf14 1
    have r2 := cell_of hf14 2
    have r3 := cell_of hf14 3
    simp only [List.getElem?_toArray, List.getElem?_cons_zero, List.getElem?_cons_succ] at r0 r1 r2 r3
    have ht14 := HT.out.mod HM14.out (not_nil _)
    clear hv14 hv13 hm13 hm14 hf13 hf14 q3 z3 HROWB HF12 HX12 HM12
    go_wp2_with fail
    refine (framePut tb kind gen seq nn c13 p13 (fun k => F < k ∧ k < w14.heap.size) body w14 ht14 HV14.out.row (fun k h => ⟨h.2, by omega⟩) hb1 hb2 hb3 (by omega)).mono ?_
    rintro e w15 ⟨gp, np, hnp, rfl, hgp, hput, ht15, hm15⟩
    clear ht14 r0 r1 r2 r3
    obtain ⟨hlen64, hmk⟩ : 64 * S ≤ len ∧ marksOk b S = true := by
     have h := HOK2.out
     unfold liftOk at h
     rw [Bool.and_eq_true, decide_eq_true_eq, HBL.out] at h
     exact h
    have hnpS : np = 64 * S := by rw [hnp, HSS.out]
    clear hnp
    obtain ⟨g0, o0, rfl, -, -⟩ := row_some HROW.out (by omega)
    have hx15 := (hm15.block G (heap_lt HX14.out) (by omega)).trans HX14.out
    have hf15 := (hm15.block F (heap_lt HF14.out) (by omega)).trans HF14.out
    have hm15' : Mod (· = tb) w w15 := HM14.out.ofNil.trans hm15 (fun _ _ h => h)
    have HX15 := Lib.hid hx15
    have HF15 := Lib.hid hf15
    have HM15 := Lib.hid hm15'
    have HT15 := Lib.hid ht15
    have HV15 := Lib.hid (HV14.out.mod hm15 (fun k _ h1 h2 => by omega))
    have hrb : IsRow T w15 (.slice (some ⟨g0, o0, none⟩) np cap) (bys (b.take np)) := by
     rw [bysTake]
     exact (rowFront HROW.out np (by rw [bys_length, HBL.out]; omega)).mod HM15.out (fun k _ h e => (HTT.out k h).2 e)
    have hrc : IsRow (· = gp) w15 (.slice (some ⟨gp, 0, none⟩) np np) (bys (putF kind gen seq body)) := IsRow.ofBlock (S := (· = gp)) hput rfl np np (by rw [bys_length, putF_length, HBLN.out, hnpS, HSS.out])
    have HRB := Lib.hid hrb
    have HRC := Lib.hid hrc
    have HNP := Lib.hid hnpS
    have hcap0 : ¬ cap = 0 := by omega
    have hnpl : np ≤ cap := by omega
    clear hx15 hf15 hm15' hm15 ht15 hrb hrc hnpS hput hmk HF14 HX14 HM14 HV14
    go_wp2_with fail
    refine (bytesEqual _ _ _ _ _ _ w15 HRC.out HRB.out).mono ?_
    rintro e w' ⟨rfl, rfl⟩
    by_cases heq : putF kind gen seq body = b.take np
    ·have HSOME : Hid (getF b = some (kind, gen, seq, body)) := Lib.hid (by
      unfold getF
      rw [HHEAD.out]
      simp only
      rw [← HSS.out, HBODY.out, ← HNP.out]
      exact if_pos ⟨HOK.out, by omega, HOK2.out, heq⟩)
     rw [decide_eq_true heq]
     clear heq
     have hsec := frameSectors nn
     rw [if_pos (by omega), Int.toNat_natCast] at hsec
     have HSEC := Lib.hid hsec
     obtain ⟨SN, hSN⟩ : ∃ SN, sectorsF nn = SN := ⟨_, rfl⟩
     rw [hSN] at HSEC
     have HSN := Lib.hid hSN
     have r0 := cell_of HF15.out 0
     have r1 := cell_of HF15.out 1
     have r2 := cell_of HF15.out 2
     have r3 := cell_of HF15.out 3
     have g0' := cell_of HX15.out 0
     have g1' := cell_of HX15.out 1
     have g2' := cell_of HX15.out 2
     have g3' := cell_of HX15.out 3
     simp only [List.getElem?_toArray, List.getElem?_cons_zero, List.getElem?_cons_succ] at r0 r1 r2 r3 g0' g1' g2' g3'
     have z0' := free_of HX15.out 0
     have z1' := free_of HX15.out 1
     have z2' := free_of HX15.out 2
     have z3' := free_of HX15.out 3
     clear hsec hSN
     have hGF : G ≠ F := by omega
     have hmS : ∀ a b' c' d', Mod (· = G) w15 ((((w15.setCell ⟨G, 0, none⟩ a).setCell ⟨G, 1, none⟩ b').setCell ⟨G, 2, none⟩ c').setCell ⟨G, 3, none⟩ d') := fun a b' c' d' => ((((Mod.refl (· = G) w15).setCell _ _ (fun _ => rfl)).setCell _ _ (fun _ => rfl)).setCell _ _ (fun _ => rfl)).setCell _ _ (fun _ => rfl)
     have hFw := heap_lt HF15.out
     have k0 : ∀ a b' c' d', ((((w15.setCell ⟨G, 0, none⟩ a).setCell ⟨G, 1, none⟩ b').setCell ⟨G, 2, none⟩ c').setCell ⟨G, 3, none⟩ d').cell? ⟨F, 0, none⟩ = _ := fun a b' c' d' => cell_kept r0 (hmS a b' c' d') hFw (fun h => hGF h.symm)
     have k1 : ∀ a b' c' d', ((((w15.setCell ⟨G, 0, none⟩ a).setCell ⟨G, 1, none⟩ b').setCell ⟨G, 2, none⟩ c').setCell ⟨G, 3, none⟩ d').cell? ⟨F, 1, none⟩ = _ := fun a b' c' d' => cell_kept r1 (hmS a b' c' d') hFw (fun h => hGF h.symm)
     have k2 : ∀ a b' c' d', ((((w15.setCell ⟨G, 0, none⟩ a).setCell ⟨G, 1, none⟩ b').setCell ⟨G, 2, none⟩ c').setCell ⟨G, 3, none⟩ d').cell? ⟨F, 2, none⟩ = _ := fun a b' c' d' => cell_kept r2 (hmS a b' c' d') hFw (fun h => hGF h.symm)
     have k3 : ∀ a b' c' d', ((((w15.setCell ⟨G, 0, none⟩ a).setCell ⟨G, 1, none⟩ b').setCell ⟨G, 2, none⟩ c').setCell ⟨G, 3, none⟩ d').cell? ⟨F, 3, none⟩ = _ := fun a b' c' d' => cell_kept r3 (hmS a b' c' d') hFw (fun h => hGF h.symm)
     have HMS := Lib.hid hmS
     clear hmS
     go_upto_region 17 with (fail)
     go_region_held3 (fun w' => w'.cell? ⟨F, 0, none⟩ = some (.int .i64 kind) ∧ w'.cell? ⟨F, 1, none⟩ = some (.int .i64 gen) ∧ w'.cell? ⟨F, 2, none⟩ = some (.int .i64 seq) ∧ w'.cell? ⟨F, 3, none⟩ = some (.slice p13 nn c13)) (first | exact ⟨r0, r1, r2, r3⟩ | exact ⟨k0 _ _ _ _, k1 _ _ _ _, k2 _ _ _ _, k3 _ _ _ _⟩) (first | (go_at_call 95; refine (HSEC.out _).mono ?_; rintro e w' ⟨rfl, rfl⟩))
     clear k0 k1 k2 k3
     have hbz := heap_setCell_same HX15.out (.int .i64 kind) (off := 0)
     simp only [List.setIfInBounds_toArray, List.set_cons_succ, List.set_cons_zero] at hbz
     have hbz := heap_setCell_same hbz (.int .i64 gen) (off := 1)
     simp only [List.setIfInBounds_toArray, List.set_cons_succ, List.set_cons_zero] at hbz
     have hbz := heap_setCell_same hbz (.int .i64 seq) (off := 2)
     simp only [List.setIfInBounds_toArray, List.set_cons_succ, List.set_cons_zero] at hbz
     have hbz := heap_setCell_same hbz (.slice p13 nn c13) (off := 3)
     simp only [List.setIfInBounds_toArray, List.set_cons_succ, List.set_cons_zero] at hbz
     have hmG := HMS.out (.int .i64 kind) (.int .i64 gen) (.int .i64 seq) (.slice p13 nn c13)
     go_wp2_with fail
     generalize World.setCell (World.setCell (World.setCell (World.setCell w15 _ _) _ _) _ _) _ _ = w16 at *
     have hbz' : w16.drew.heap[G]? = _ := hbz
     have hmG' := hmG.drew
     refine bodyPost_ret (results_cell_row3 rfl _ _ G 122 #[.int .i64 kind, .int .i64 gen, .int .i64 seq, .slice p13 nn c13] (0, 0) rfl hbz' Tryz.underlying122 info_frame) rfl ?_
     have hmf : Mod (· = tb) w w16.drew := HM15.out.trans hmG' (fun k hk h => by have := HG.out; omega)
     refine HPOST.out _ _ ⟨HT15.out.mod hmG' (by omega), hmf, .inr ⟨kind, gen, seq, body, p13, c13, HSOME.out, by rw [HBLN.out, HSN.out]; rfl, ?_⟩⟩
     rw [HBLN.out]
     exact (HV15.out.mod hmG' (fun k _ h1 h2 => by omega)).mono (fun k hk h => by have := HG.out; omega)
    ·have HNONE : Hid (getF b = none) := Lib.hid (by
      unfold getF
      rw [HHEAD.out]
      refine if_neg (fun h => heq ?_)
      have h4 := h.2.2.2
      simp only at h4
      rw [← HSS.out, HBODY.out, ← HNP.out] at h4
      exact h4)
     rw [decide_eq_false heq]
     clear heq
     go_wp2_with (refine wpList_store_row rfl _ _ _ rfl G #[.int .i64 0, .int .i64 0, .int .i64 0, .slice none 0 0] rfl rfl 122 _ HX15.out info_frame rfl (by simp [Value.oneCell']) ?_)
     have hbz := setRow_heap w15 G _ #[.int .i64 0, .int .i64 0, .int .i64 0, .slice none 0 0] _ _ HX15.out
     have hmz : Mod (· = tb) w (World.setRow w15 G #[.int .i64 0, .int .i64 0, .int .i64 0, .slice none 0 0]) := HM15.out.trans ((Mod.refl (· = G) w15).rowSet G #[.int .i64 0, .int .i64 0, .int .i64 0, .slice none 0 0] (fun _ => rfl)) (fun k hk h => by have := HG.out; omega)
     have htz : IsTab (World.setRow w15 G #[.int .i64 0, .int .i64 0, .int .i64 0, .slice none 0 0]) tb := HT15.out.mod ((Mod.refl (· = G) w15).rowSet G #[.int .i64 0, .int .i64 0, .int .i64 0, .slice none 0 0] (fun _ => rfl)) (by omega)
     generalize World.setRow w15 G _ = w77 at *
     refine bodyPost_ret (results_cell_row3 rfl _ _ G 122 #[.int .i64 0, .int .i64 0, .int .i64 0, .slice none 0 0] (0, 0) rfl hbz Tryz.underlying122 info_frame) rfl ?_
     exact HPOST.out _ _ ⟨htz, hmz, .inl ⟨HNONE.out, rfl⟩⟩
 ·have HNONE : Hid (getF b = none) := Lib.hid (by unfold getF; rw [if_neg (fun h => by rw [hbad] at h; exact absurd h.1 (by simp))])
  have hx2 := hm2.keep HX1.out
  have HX2 := Lib.hid hx2
  have HM2 := Lib.hid (HM1.out.thenNil hm2)
  clear hx2 hm2 hbad
  go_wp2_with (refine wpList_store_row rfl _ _ _ rfl G #[.int .i64 0, .int .i64 0, .int .i64 0, .slice none 0 0] rfl rfl 122 _ HX2.out info_frame rfl (by simp [Value.oneCell']) ?_)
  have hbz := setRow_heap w2 G _ #[.int .i64 0, .int .i64 0, .int .i64 0, .slice none 0 0] _ _ HX2.out
  have hmz : Mod (· = tb) w (World.setRow w2 G #[.int .i64 0, .int .i64 0, .int .i64 0, .slice none 0 0]) := HM2.out.ofNil.trans ((Mod.refl (· = G) w2).rowSet G #[.int .i64 0, .int .i64 0, .int .i64 0, .slice none 0 0] (fun _ => rfl)) (fun k hk h => by have := HG.out; omega)
  have htz : IsTab (World.setRow w2 G #[.int .i64 0, .int .i64 0, .int .i64 0, .slice none 0 0]) tb := (HT.out.mod HM2.out (not_nil _)).mod ((Mod.refl (· = G) w2).rowSet G #[.int .i64 0, .int .i64 0, .int .i64 0, .slice none 0 0] (fun _ => rfl)) (by omega)
  generalize World.setRow w2 G _ = w77 at *
  refine bodyPost_ret (results_cell_row3 rfl _ _ G 122 #[.int .i64 0, .int .i64 0, .int .i64 0, .slice none 0 0] (0, 0) rfl hbz Tryz.underlying122 info_frame) rfl ?_
  exact HPOST.out _ _ ⟨htz, hmz, .inl ⟨HNONE.out, rfl⟩⟩
end Go.Proofs.YtdfahddpkkeldaaGreat

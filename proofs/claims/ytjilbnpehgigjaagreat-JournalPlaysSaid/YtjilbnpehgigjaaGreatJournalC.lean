/- Package journal: takes. -/
import Derived.Test.YtjilbnpehgigjaaGreatJPic
namespace Go.Proofs.YtjilbnpehgigjaaGreat
open Go.RowKit
/-- the journal behind a look at a half's bytes -/
def JS.takes (s : JS) (half : Nat) (b : List UInt8) : JS :=
  match getF b with
  | none => s
  | some (k, g, q, body) => if k = 1 ∧ q = 0 ∧ ¬ (s.has = true ∧ g ≤ s.gen) then { s with half := half, gen := g, has := true, pict := body, at_ := sectorsF body.length } else s
set_option maxRecDepth 100000 in
set_option maxHeartbeats 16000000 in
theorem jTakes (S T : Nat → Prop) (jb tb db half : Nat) (s : JS) (p : Option Addr) (len cap : Nat) (b : List UInt8) (w : World) (hj : IsJ S w jb tb db s) (ht : IsTab w tb) (hrow : IsRow T w (.slice p len cap) (bys b)) (hT : ∀ k, T k → k < w.heap.size ∧ k ≠ tb) (hS : ¬ S tb) (hcap : len ≤ cap) (hcm : cap ≤ maxLen) :
    Calls Tryz.prog 32 #[.pointer (some ⟨jb, 0, none⟩), .int .i64 half, .slice p len cap] w fun e w' => e = .returned (.tuple #[]) ∧ IsJ (fun k => S k ∨ w.heap.size ≤ k) w' jb tb db (s.takes half b) ∧ IsTab w' tb ∧ Mod (fun k => k = tb ∨ k = jb) w w' := by
  refine (?_ : ∀ Post : Ending → World → Prop, Hid (∀ e w', (e = .returned (.tuple #[]) ∧ IsJ (fun k => S k ∨ w.heap.size ≤ k) w' jb tb db (s.takes half b) ∧ IsTab w' tb ∧ Mod (fun k => k = tb ∨ k = jb) w w') → Post e w') → Calls Tryz.prog 32 #[.pointer (some ⟨jb, 0, none⟩), .int .i64 half, .slice p len cap] w Post) _ (Lib.hid (fun _ _ h => h))
  intro Post HPOST
  obtain ⟨pp, cp, pr, cr, h1, h2, h3⟩ := hj.ex
  have hjt : jb ≠ tb := fun e => hS (e ▸ hj.own)
  have hjl := heap_lt h1
  have c0 := cell_of h1 0
  simp only [List.getElem?_toArray, List.getElem?_cons_zero] at c0
  have HJ := Lib.hid hj
  have HB := Lib.hid h1
  have HP := Lib.hid h2
  have HR := Lib.hid h3
  clear h1 h2 h3 hj
  go_enter Tryz.func32, Tryz.ntmps32
  go_wp2_with fail
  refine (frameGet tb T p len cap b w ht hrow hT hcap hcm).mono ?_
  rintro e w1 ⟨ht1, hm1, ⟨hnone, rfl⟩ | ⟨kind, gen, seq, body, q, c, hsome, rfl, hv⟩⟩
  · have hs : s.takes half b = s := by unfold JS.takes; rw [hnone]
    have HS := Lib.hid hs
    have HT1 := Lib.hid ht1
    have HM1 := Lib.hid hm1
    clear c0 hs ht1 hm1 hnone hrow hT ht
    go_upto_region 1 with (fail)
    generalize hw2 : World.alloc w1 _ = w2
    have hm2 : Mod nil w1 w2 := by rw [← hw2]; exact (Mod.refl _ _).alloc _
    have HM2 : Hid (Mod (· = tb) w w2) := Lib.hid (HM1.out.thenNil hm2)
    have HT2 : Hid (IsTab w2 tb) := Lib.hid (HT1.out.mod hm2 (not_nil _))
    clear hw2 hm2
    have HEND : Hid (∀ n, Post (.returned (.tuple #[])) (w2.drewN n)) := Lib.hid (fun n => HPOST.out _ _ ⟨rfl, by rw [HS.out]; exact (HJ.out.mod (HM2.out.drewN n) (fun k _ h e => hS (e ▸ h))).mono (fun _ _ h => .inl h), HT2.out.mod ((Mod.refl nil w2).drewN n) (not_nil _), (HM2.out.drewN n).mono (fun _ _ h => .inl h)⟩)
    go_quiet (fail)
    go_wp2_with fail
    go_end0
    exact HEND.out _
  · have HSOME := Lib.hid hsome
    have hm2' : Mod nil w1 w1 := Mod.refl _ _
    obtain ⟨F, hF⟩ : ∃ F, w1.heap.size = F := ⟨_, rfl⟩
    have hb1 := (hm1.block jb hjl hjt).trans HB.out
    have hFj : ¬ F = jb := by have := heap_lt hb1; omega
    have hjF : jb < F := by have := heap_lt hb1; omega
    go_upto_region 1 with (fail)
    (try rw [hF])
    generalize hw2 : World.alloc w1 _ = w2
    have hm2 : Mod nil w1 w2 := by rw [← hw2]; exact (Mod.refl _ _).alloc _
    have hf2 : w2.heap[F]? = some (.cells #[.int .i64 kind, .int .i64 gen, .int .i64 seq, .slice q body.length c] 37 (0, 0)) := by rw [← hw2, ← hF]; exact heap_alloc_new _ _
    have hb2 := hm2.keep hb1
    have r0 := cell_of hf2 0
    have r1 := cell_of hf2 1
    have r2 := cell_of hf2 2
    have j4 := cell_of hb2 4
    have j5 := cell_of hb2 5
    simp only [List.getElem?_toArray, List.getElem?_cons_zero, List.getElem?_cons_succ] at r0 r1 r2 j4 j5
    have HB2 := Lib.hid hb2
    have HF2 := Lib.hid hf2
    have HM2 : Hid (Mod (· = tb) w w2) := Lib.hid (hm1.thenNil hm2)
    have HT2 : Hid (IsTab w2 tb) := Lib.hid (ht1.mod hm2 (not_nil _))
    have HV2 : Hid (IsVec (fun k => w.heap.size ≤ k) w2 5 1 (.slice q body.length c) body.length (bys body)) := Lib.hid (hv.modNil hm2)
    have hsc : ((sectorsF body.length : Nat) : Int) = ((sectorsF body.length : Nat) : Int) := rfl
    clear hw2 hm2 hf2 hb2 hb1 hF hv ht1 hm1 hsome c0 hm2' hsc hrow hT ht
    by_cases hk : kind = 1
    · subst hk
      by_cases hq : seq = 0
      · subst hq
        have q0 : (((0 : Nat) : Int) != 0) = false := rfl
        cases hh : s.has with
        | false =>
          rw [hh] at j5
          have hng : ¬ (s.has = true ∧ gen ≤ s.gen) := fun h => by rw [hh] at h; cases h.1
          have HH := Lib.hid hh
          clear hh q0
          have hs : s.takes half b = { s with half := half, gen := gen, has := true, pict := body, at_ := sectorsF body.length } := by unfold JS.takes; rw [HSOME.out]; exact if_pos ⟨rfl, rfl, hng⟩
          have HS := Lib.hid hs
          obtain ⟨SN, hSN⟩ : ∃ SN, sectorsF body.length = SN := ⟨_, rfl⟩
          rw [hSN]
          have HSN := Lib.hid hSN
          clear hs hSN
          go_quiet (fail)
          generalize hw3 : World.drewN w2 _ = w3
          have hm3 : Mod nil w2 w3 := by rw [← hw3]; exact (Mod.refl _ _).drewN _
          have hb3 := hm3.keep HB2.out
          have hf3 := hm3.keep HF2.out
          have j3 := cell_of hb3 3
          have j4' := cell_of hb3 4
          have j5' := cell_of hb3 5
          have j6 := cell_of hb3 6
          have j8 := cell_of hb3 8
          have r1' := cell_of hf3 1
          have r3' := cell_of hf3 3
          simp only [List.getElem?_toArray, List.getElem?_cons_zero, List.getElem?_cons_succ] at j3 j4' j5' j6 j8 r1' r3'
          have y3 := free_of hb3 3
          have y4 := free_of hb3 4
          have y5 := free_of hb3 5
          have y6 := free_of hb3 6
          have y8 := free_of hb3 8
          have hfl := heap_lt hf3
          have HM3 := Lib.hid hm3
          have HB3 := Lib.hid hb3
          clear hw3 hm3 hb3 hf3 r0 r1 r2 j4 j5
          go_upto_region 2 with (fail)
          go_region_held3 (fun w' => w'.cell? ⟨F, 1, none⟩ = some (.int .i64 gen) ∧ w'.cell? ⟨F, 3, none⟩ = some (.slice q body.length c)) (exact ⟨cell_kept r1' (show Mod (· = jb) w3 _ from by repeat (first | exact Mod.refl _ _ | refine Mod.drew ?_ | refine Mod.setCell ?_ _ _ (fun _ => rfl))) hfl hFj, cell_kept r3' (show Mod (· = jb) w3 _ from by repeat (first | exact Mod.refl _ _ | refine Mod.drew ?_ | refine Mod.setCell ?_ _ _ (fun _ => rfl))) hfl hFj⟩) (fail)
          have g1 := heap_setCell_same HB3.out (.int .i64 half) (off := 3)
          simp only [List.setIfInBounds_toArray, List.set_cons_succ, List.set_cons_zero] at g1
          have g2 := heap_setCell_same g1 (.int .i64 gen) (off := 4)
          simp only [List.setIfInBounds_toArray, List.set_cons_succ, List.set_cons_zero] at g2
          have g3 := heap_setCell_same g2 (.bool true) (off := 5)
          simp only [List.setIfInBounds_toArray, List.set_cons_succ, List.set_cons_zero] at g3
          have g4 := heap_setCell_same g3 (.slice q body.length c) (off := 6)
          simp only [List.setIfInBounds_toArray, List.set_cons_succ, List.set_cons_zero] at g4
          have g5 := heap_setCell_same g4 (.int .i64 SN) (off := 8)
          simp only [List.setIfInBounds_toArray, List.set_cons_succ, List.set_cons_zero] at g5
          have hmj : Mod (· = jb) w3 (((((w3.setCell ⟨jb, 3, none⟩ (.int .i64 half)).setCell ⟨jb, 4, none⟩ (.int .i64 gen)).setCell ⟨jb, 5, none⟩ (.bool true)).setCell ⟨jb, 6, none⟩ (.slice q body.length c)).setCell ⟨jb, 8, none⟩ (.int .i64 SN)) := (((((Mod.refl (· = jb) w3).setCell _ _ (fun _ => rfl)).setCell _ _ (fun _ => rfl)).setCell _ _ (fun _ => rfl)).setCell _ _ (fun _ => rfl)).setCell _ _ (fun _ => rfl)
          clear g1 g2 g3 g4
          go_wp2_with fail
          go_end0
          generalize World.setCell (World.setCell (World.setCell (World.setCell (World.setCell w3 _ _) _ _) _ _) _ _) _ _ = w4 at *
          have hm4 : Mod (fun k => k = tb ∨ k = jb) w w4 := ((HM2.out.thenNil HM3.out).mono (fun _ _ h => .inl h)).trans hmj (fun _ _ h => .inr h)
          have hv4 := (HV2.out.modNil HM3.out).mod hmj (fun k hk h1 h2 => by omega)
          refine HPOST.out _ _ ⟨rfl, ?_, ((HT2.out.mod HM3.out (not_nil _)).mod hmj (fun e => hjt e.symm)).mod (Mod.refl nil w4).drew (not_nil _), hm4.drew⟩
          rw [HS.out, HSN.out]
          refine ⟨.inl HJ.out.own, q, c, pr, cr, ?_, ?_, ?_⟩
          · exact g5
          · exact (hv4.row.mono (fun k hk h => ⟨.inr h, by omega, fun ho => by have := (HR.out.own ho).2; omega⟩)).modNil (Mod.refl nil w4).drew
          · exact (HR.out.mod hm4 (fun k _ h e => by rcases e with e | e; exact hS (e ▸ h.1); exact h.2 e)).mono (fun k _ h => ⟨.inl h.1, h.2⟩) |>.modNil (Mod.refl nil w4).drew
        | true =>
          rw [hh] at j5
          have HH := Lib.hid hh
          clear hh q0
          by_cases hg : gen ≤ s.gen
          · obtain ⟨GG, hGG⟩ : ∃ GG, s.gen = GG := ⟨_, rfl⟩
            rw [hGG] at j4 hg
            have g1 : decide ((gen : Int) ≤ (GG : Int)) = true := by simp; omega
            have HGG := Lib.hid hGG
            clear hGG
            have hs : s.takes half b = s := by unfold JS.takes; rw [HSOME.out]; exact if_neg (fun h => h.2.2 ⟨HH.out, by have := HGG.out; omega⟩)
            have HS := Lib.hid hs
            clear hs
            have HEND : Hid (∀ n, Post (.returned (.tuple #[])) (w2.drewN n)) := Lib.hid (fun n => HPOST.out _ _ ⟨rfl, by rw [HS.out]; exact (HJ.out.mod (HM2.out.drewN n) (fun k _ h e => hS (e ▸ h))).mono (fun _ _ h => .inl h), HT2.out.mod ((Mod.refl nil w2).drewN n) (not_nil _), (HM2.out.drewN n).mono (fun _ _ h => .inl h)⟩)
            go_quiet (fail)
            go_wp2_with fail
            go_end0
            exact HEND.out _
          · have hng : ¬ (s.has = true ∧ gen ≤ s.gen) := fun h => hg h.2
            obtain ⟨GG, hGG⟩ : ∃ GG, s.gen = GG := ⟨_, rfl⟩
            rw [hGG] at j4 hg
            have g1' : decide ((gen : Int) ≤ (GG : Int)) = false := by simp; omega
            have HGG := Lib.hid hGG
            clear hGG
            have hs : s.takes half b = { s with half := half, gen := gen, has := true, pict := body, at_ := sectorsF body.length } := by unfold JS.takes; rw [HSOME.out]; exact if_pos ⟨rfl, rfl, hng⟩
            have HS := Lib.hid hs
            obtain ⟨SN, hSN⟩ : ∃ SN, sectorsF body.length = SN := ⟨_, rfl⟩
            rw [hSN]
            have HSN := Lib.hid hSN
            clear hs hSN
            go_quiet (fail)
            generalize hw3 : World.drewN w2 _ = w3
            have hm3 : Mod nil w2 w3 := by rw [← hw3]; exact (Mod.refl _ _).drewN _
            have hb3 := hm3.keep HB2.out
            have hf3 := hm3.keep HF2.out
            have j3 := cell_of hb3 3
            have j4' := cell_of hb3 4
            have j5' := cell_of hb3 5
            have j6 := cell_of hb3 6
            have j8 := cell_of hb3 8
            have r1' := cell_of hf3 1
            have r3' := cell_of hf3 3
            simp only [List.getElem?_toArray, List.getElem?_cons_zero, List.getElem?_cons_succ] at j3 j4' j5' j6 j8 r1' r3'
            have y3 := free_of hb3 3
            have y4 := free_of hb3 4
            have y5 := free_of hb3 5
            have y6 := free_of hb3 6
            have y8 := free_of hb3 8
            have hfl := heap_lt hf3
            have HM3 := Lib.hid hm3
            have HB3 := Lib.hid hb3
            clear hw3 hm3 hb3 hf3 r0 r1 r2 j4 j5
            go_upto_region 2 with (fail)
            go_region_held3 (fun w' => w'.cell? ⟨F, 1, none⟩ = some (.int .i64 gen) ∧ w'.cell? ⟨F, 3, none⟩ = some (.slice q body.length c)) (exact ⟨cell_kept r1' (show Mod (· = jb) w3 _ from by repeat (first | exact Mod.refl _ _ | refine Mod.drew ?_ | refine Mod.setCell ?_ _ _ (fun _ => rfl))) hfl hFj, cell_kept r3' (show Mod (· = jb) w3 _ from by repeat (first | exact Mod.refl _ _ | refine Mod.drew ?_ | refine Mod.setCell ?_ _ _ (fun _ => rfl))) hfl hFj⟩) (fail)
            have g1 := heap_setCell_same HB3.out (.int .i64 half) (off := 3)
            simp only [List.setIfInBounds_toArray, List.set_cons_succ, List.set_cons_zero] at g1
            have g2 := heap_setCell_same g1 (.int .i64 gen) (off := 4)
            simp only [List.setIfInBounds_toArray, List.set_cons_succ, List.set_cons_zero] at g2
            have g3 := heap_setCell_same g2 (.bool true) (off := 5)
            simp only [List.setIfInBounds_toArray, List.set_cons_succ, List.set_cons_zero] at g3
            have g4 := heap_setCell_same g3 (.slice q body.length c) (off := 6)
            simp only [List.setIfInBounds_toArray, List.set_cons_succ, List.set_cons_zero] at g4
            have g5 := heap_setCell_same g4 (.int .i64 SN) (off := 8)
            simp only [List.setIfInBounds_toArray, List.set_cons_succ, List.set_cons_zero] at g5
            have hmj : Mod (· = jb) w3 (((((w3.setCell ⟨jb, 3, none⟩ (.int .i64 half)).setCell ⟨jb, 4, none⟩ (.int .i64 gen)).setCell ⟨jb, 5, none⟩ (.bool true)).setCell ⟨jb, 6, none⟩ (.slice q body.length c)).setCell ⟨jb, 8, none⟩ (.int .i64 SN)) := (((((Mod.refl (· = jb) w3).setCell _ _ (fun _ => rfl)).setCell _ _ (fun _ => rfl)).setCell _ _ (fun _ => rfl)).setCell _ _ (fun _ => rfl)).setCell _ _ (fun _ => rfl)
            clear g1 g2 g3 g4
            go_wp2_with fail
            go_end0
            generalize World.setCell (World.setCell (World.setCell (World.setCell (World.setCell w3 _ _) _ _) _ _) _ _) _ _ = w4 at *
            have hm4 : Mod (fun k => k = tb ∨ k = jb) w w4 := ((HM2.out.thenNil HM3.out).mono (fun _ _ h => .inl h)).trans hmj (fun _ _ h => .inr h)
            have hv4 := (HV2.out.modNil HM3.out).mod hmj (fun k hk h1 h2 => by omega)
            refine HPOST.out _ _ ⟨rfl, ?_, ((HT2.out.mod HM3.out (not_nil _)).mod hmj (fun e => hjt e.symm)).mod (Mod.refl nil w4).drew (not_nil _), hm4.drew⟩
            rw [HS.out, HSN.out]
            refine ⟨.inl HJ.out.own, q, c, pr, cr, ?_, ?_, ?_⟩
            · exact g5
            · exact (hv4.row.mono (fun k hk h => ⟨.inr h, by omega, fun ho => by have := (HR.out.own ho).2; omega⟩)).modNil (Mod.refl nil w4).drew
            · exact (HR.out.mod hm4 (fun k _ h e => by rcases e with e | e; exact hS (e ▸ h.1); exact h.2 e)).mono (fun k _ h => ⟨.inl h.1, h.2⟩) |>.modNil (Mod.refl nil w4).drew
      · have q1 : ((seq : Int) != 0) = true := by simp; omega
        have hs : s.takes half b = s := by unfold JS.takes; rw [HSOME.out]; exact if_neg (fun h => hq h.2.1)
        have HS := Lib.hid hs
        clear hs
        have HEND : Hid (∀ n, Post (.returned (.tuple #[])) (w2.drewN n)) := Lib.hid (fun n => HPOST.out _ _ ⟨rfl, by rw [HS.out]; exact (HJ.out.mod (HM2.out.drewN n) (fun k _ h e => hS (e ▸ h))).mono (fun _ _ h => .inl h), HT2.out.mod ((Mod.refl nil w2).drewN n) (not_nil _), (HM2.out.drewN n).mono (fun _ _ h => .inl h)⟩)
        go_quiet (fail)
        go_wp2_with fail
        go_end0
        exact HEND.out _
    · have k1 : ((kind : Int) != 1) = true := by simp; omega
      have hs : s.takes half b = s := by unfold JS.takes; rw [HSOME.out]; exact if_neg (fun h => hk h.1)
      have HS := Lib.hid hs
      clear hs
      have HEND : Hid (∀ n, Post (.returned (.tuple #[])) (w2.drewN n)) := Lib.hid (fun n => HPOST.out _ _ ⟨rfl, by rw [HS.out]; exact (HJ.out.mod (HM2.out.drewN n) (fun k _ h e => hS (e ▸ h))).mono (fun _ _ h => .inl h), HT2.out.mod ((Mod.refl nil w2).drewN n) (not_nil _), (HM2.out.drewN n).mono (fun _ _ h => .inl h)⟩)
      go_quiet (fail)
      go_wp2_with fail
      go_end0
      exact HEND.out _
end Go.Proofs.YtjilbnpehgigjaaGreat

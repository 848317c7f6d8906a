/- Package frame: text. -/
import Derived.Test.YtjilbnpehgigjaaGreatFrame
import Derived.Test.YtjilbnpehgigjaaGreatTexts
namespace Go.Proofs.YtjilbnpehgigjaaGreat
open Go.RowKit
set_option maxRecDepth 100000 in
set_option maxHeartbeats 1000000 in
theorem frameText (tb kind gen seq nb cb : Nat) (pb : Option Addr) (T : Nat → Prop) (body : List UInt8) (w : World) (ht : IsTab w tb) (hrow : IsRow T w (.slice pb nb cb) (bys body)) (hT : ∀ k, T k → k < w.heap.size ∧ k ≠ tb)
    (h1 : kind ≤ 255) (h2 : gen ≤ 4294967295) (h3 : seq ≤ 4294967295) (h4 : nb ≤ 60000) :
    Calls Tryz.prog 57 #[.pointer (some ⟨tb, 0, none⟩), .agg #[.int .i64 kind, .int .i64 gen, .int .i64 seq, .slice pb nb cb]] w fun e w' => ∃ v, e = .returned v ∧ IsVec (fun k => w.heap.size ≤ k) w' 5 1 v (24 + nb) (bys (textF kind gen seq body)) ∧ IsTab w' tb ∧ Mod (· = tb) w w' := by
  refine (?_ : ∀ Post : Ending → World → Prop, Hid (∀ e w', (∃ v, e = .returned v ∧ IsVec (fun k => w.heap.size ≤ k) w' 5 1 v (24 + nb) (bys (textF kind gen seq body)) ∧ IsTab w' tb ∧ Mod (· = tb) w w') → Post e w') → Calls Tryz.prog 57 #[.pointer (some ⟨tb, 0, none⟩), .agg #[.int .i64 kind, .int .i64 gen, .int .i64 seq, .slice pb nb cb]] w Post) _ (Lib.hid (fun _ _ h => h))
  intro Post HPOST
  have hbl : body.length = nb := by
    obtain ⟨_, _, h, _⟩ := hrow
    simp only [Value.slice.injEq, bys_length] at h
    exact h.2.1.symm
  have HBL := Lib.hid hbl
  have HROW := Lib.hid hrow
  have HTT := Lib.hid hT
  have htl := ht.lt
  have HT := Lib.hid ht
  obtain ⟨ST, hST⟩ : ∃ ST, startsF kind gen seq nb = ST := ⟨_, rfl⟩
  have HST := Lib.hid hST
  have HSL : Hid (ST.length = 16) := Lib.hid (by rw [← hST]; exact startsF_length _ _ _ _)
  clear hrow hT ht hbl
  go_enter Tryz.func57, Tryz.ntmps57
  go_wp2_with fail
  obtain ⟨G, hG⟩ : ∃ G, w.heap.size = G := ⟨_, rfl⟩
  rw [hG] at htl ⊢
  generalize hw1 : World.alloc w _ = w1
  have hx1 : w1.heap[G]? = some (.cells #[.int .i64 kind, .int .i64 gen, .int .i64 seq, .slice pb nb cb] 37 (0, 0)) := by rw [← hw1, ← hG]; exact heap_alloc_new _ _
  have hm1 : Mod nil w w1 := by rw [← hw1]; exact (Mod.refl _ _).alloc _
  have hs1 : w1.heap.size = G + 1 := by rw [← hw1, ← hG]; simp
  have HG := Lib.hid hG
  refine (frameStarts kind gen seq nb cb pb w1 h1 h2 h3 h4).mono ?_
  rw [hs1, hST]
  rintro e w2 ⟨v5, rfl, hv5, hm2⟩
  have HS2 : Hid (G + 1 ≤ w2.heap.size) := Lib.hid (by have := hm2.size; omega)
  obtain ⟨p5, c5, rfl, hc5, -⟩ := vecCap hv5
  obtain ⟨B2, hB2⟩ : ∃ B2, w2.heap.size = B2 := ⟨_, rfl⟩
  have HB2 := Lib.hid hB2
  have HV5 : Hid (IsVec (fun k => G + 1 ≤ k ∧ k < B2) w2 5 1 (.slice p5 16 c5) 16 (bys ST)) := Lib.hid (hv5.mono (fun k hk h => ⟨h, by omega⟩))
  clear hB2
  have HX2 := Lib.hid (hm2.keep hx1)
  have HM2 := Lib.hid (hm1.thenNil hm2)
  clear hv5 hm2 hm1 hx1 hw1 hs1 hST hG
  go_wp2_with fail
  refine (shaNew2 tb w2 (HT.out.mod HM2.out (not_nil _))).mono ?_
  rintro e w3 ⟨b, rfl, hh3, hb3, ht3, hm3⟩
  have hbG : B2 ≤ b ∧ G < b ∧ tb < b ∧ tb < G + 1 := by have := HS2.out; have := HB2.out; omega
  have HV53 := Lib.hid (HV5.out.mod hm3 (fun k _ h1 h2 => by omega))
  have HX3 := Lib.hid ((hm3.block G (heap_lt HX2.out) (by omega)).trans HX2.out)
  have HM3 : Hid (Mod (· = tb) w w3) := Lib.hid (HM2.out.ofNil.trans hm3 (fun _ _ h => h))
  have HH3 := Lib.hid hh3
  have HT3 := Lib.hid ht3
  have HR3 : Hid (IsRow T w3 (.slice pb nb cb) (bys body)) := Lib.hid (HROW.out.mod HM3.out (fun k _ h e => (HTT.out k h).2 e))
  clear hh3 hb3 ht3 hm3
  go_wp2_with fail
  refine (shaWrite2 b tb nil (fun k => G + 1 ≤ k ∧ k < B2) (.slice p5 16 c5) [] ST w3 HH3.out (not_nil _) (not_nil _) (by omega) HT3.out HV53.out.row (by omega) (by have := HSL.out; simp; omega)).mono ?_
  rintro e w4 ⟨rfl, hh4, ht4, hm4⟩
  rw [List.nil_append] at hh4
  have hb3l := HH3.out.lt
  obtain ⟨B3, hB3⟩ : ∃ B3, w3.heap.size = B3 := ⟨_, rfl⟩
  rw [hB3] at hh4 hb3l
  have HV54 := Lib.hid (HV53.out.mod hm4 (fun k _ h1 h2 => by rcases h2 with h2 | h2 | h2; omega; omega; exact h2))
  have hx4 := (hm4.block G (heap_lt HX3.out) (by rintro (h | h | h); omega; omega; exact h)).trans HX3.out
  have HX4 := Lib.hid hx4
  have HM4 : Hid (Mod (· = tb) w w4) := Lib.hid (HM3.out.trans hm4 (fun k hk h => by rcases h with h | h | h; exact h; have := HG.out; omega; exact h.elim))
  have HH4 := Lib.hid hh4
  have HT4 := Lib.hid ht4
  have HR4 : Hid (IsRow T w4 (.slice pb nb cb) (bys body)) := Lib.hid (HROW.out.mod HM4.out (fun k _ h e => (HTT.out k h).2 e))
  have f3 := cell_of hx4 3
  simp only [List.getElem?_toArray, List.getElem?_cons_zero, List.getElem?_cons_succ] at f3
  have hB34 : B3 ≤ w4.heap.size := by have := hm4.size; omega
  clear hh4 ht4 hm4 hx4 hB3
  go_wp2_with fail
  refine (shaWrite2 b tb (fun k => B3 ≤ k) T (.slice pb nb cb) ST body w4 HH4.out (by omega) (by omega) (by omega) HT4.out HR4.out (fun h => by have := (HTT.out b h).1; have := HG.out; omega) (by have := HSL.out; have := HBL.out; omega)).mono ?_
  rintro e w5 ⟨rfl, hh5, ht5, hm5⟩
  have HV55 := Lib.hid (HV54.out.mod hm5 (fun k hk h1 h2 => by rcases h2 with h2 | h2 | h2 <;> omega))
  obtain ⟨B4, hB4⟩ : ∃ B4, w4.heap.size = B4 := ⟨_, rfl⟩
  rw [hB4] at hh5
  rw [hB4] at hB34
  have hx5 := (hm5.block G (heap_lt HX4.out) (by rintro (h | h | h) <;> omega)).trans HX4.out
  have HX5 := Lib.hid hx5
  have HM5 : Hid (Mod (· = tb) w w5) := Lib.hid (HM4.out.trans hm5 (fun k hk h => by have := HG.out; rcases h with h | h | h <;> omega))
  have HH5 := Lib.hid hh5
  have HT5 := Lib.hid ht5
  clear hh5 ht5 hm5 hx5 f3 hB4
  go_wp2_with fail
  refine (shaSum2 b tb (fun k => B4 ≤ k) (ST ++ body) w5 HH5.out (by omega) HT5.out (by have := HSL.out; have := HBL.out; simp; omega)).mono ?_
  rintro e w6 ⟨v6, rfl, hv6, ht6, hm6⟩
  obtain ⟨p6, c6, rfl, hc6, hcm6⟩ := vecCap hv6
  have HV56 := Lib.hid (HV55.out.mod hm6 (fun k hk h1 h2 => by omega))
  have HX6 := Lib.hid ((hm6.block G (heap_lt HX5.out) (by omega)).trans HX5.out)
  have HM6 : Hid (Mod (· = tb) w w6) := Lib.hid (HM5.out.trans hm6 (fun k hk h => h))
  have HT6 := Lib.hid ht6
  have hrow6 : IsRow (fun k => w5.heap.size ≤ k) w6 (.slice p6 8 c6) (bys ((shaOf (ST ++ body)).take 8)) := by
    rw [bysTake]
    exact rowFront hv6.row 8 (by rw [bys_length, shaOf_length]; omega)
  obtain ⟨v7, w7, hrun7, hv7, hm7⟩ := bytes_append (l := ST) (m := (shaOf (ST ++ body)).take 8) 22 (by rw [HSL.out]; exact HV56.out) hrow6 (by have := HSL.out; simp; omega)
  have hl7 : (ST ++ (shaOf (ST ++ body)).take 8).length = 24 := by rw [List.length_append, HSL.out, List.length_take, shaOf_length]; rfl
  rw [hl7] at hv7
  obtain ⟨p7, c7, rfl⟩ := hv7.form
  have hx7 := (hm7.block G (heap_lt HX6.out) (by omega)).trans HX6.out
  have HM7 : Hid (Mod (· = tb) w w7) := Lib.hid (HM6.out.trans hm7 (fun k hk h => by have := HG.out; omega))
  have HT7 : Hid (IsTab w7 tb) := Lib.hid (HT6.out.mod hm7 (by omega))
  have f3 := cell_of hx7 3
  simp only [List.getElem?_toArray, List.getElem?_cons_zero, List.getElem?_cons_succ] at f3
  have HV7 := Lib.hid hv7
  have HL7 := Lib.hid hl7
  have HRUN7 := Lib.hid hrun7
  obtain ⟨v8, w8, hrun8, hv8, hm8⟩ := bytes_append (l := ST ++ (shaOf (ST ++ body)).take 8) (m := body) 22 (by rw [hl7]; exact hv7) (HROW.out.mod HM7.out (fun k _ h e => (HTT.out k h).2 e)) (by rw [hl7]; have := HBL.out; omega)
  obtain ⟨p8, c8, rfl⟩ := hv8.form
  have hl8 : (ST ++ (shaOf (ST ++ body)).take 8 ++ body).length = 24 + nb := by rw [List.length_append, hl7, HBL.out]
  rw [hl8] at hv8 hrun8
  have HRUN8 := Lib.hid hrun8
  have hfin : IsVec (fun k => w.heap.size ≤ k) w8 5 1 (.slice p8 (24 + nb) c8) (24 + nb) (bys (textF kind gen seq body)) := by
    have h := hv8.mono (T := fun k => w.heap.size ≤ k) (fun k hk h => by have := HG.out; have := HM7.out.size; have := HM6.out.size; rcases h with (h | h) | h <;> omega)
    unfold textF
    rw [HBL.out, HST.out]
    exact h
  have HF := Lib.hid (And.intro hfin (And.intro (HT7.out.mod hm8 (by have := HT6.out.lt; omega)) (HM7.out.trans hm8 (fun k hk h => by have := HG.out; have := HM6.out.size; omega))))
  clear hrow6 hrun7 hv7 hm7 hrun8 hv8 hm8 hfin hv6 ht6 hm6 hx7 hl7
  go_wp2_with (first | (at_builtin; refine wpList_append_run rfl _ _ _ _ rfl rfl rfl HRUN7.out ?_) | (at_builtin; refine wpList_append_run rfl _ _ _ _ rfl rfl rfl HRUN8.out ?_))
  exact HPOST.out _ _ ⟨_, rfl, HF.out.1, HF.out.2.1, HF.out.2.2⟩
end Go.Proofs.YtjilbnpehgigjaaGreat

/- Package journal: Picture, Records. -/
import Derived.Test.YtlkphkkjpjlnhaaJournal
import Derived.Deep.RegionHeld3
namespace Go.Proofs.Ytlkphkkjpjlnhaa
open Go.RowKit
set_option maxHeartbeats 1000000 in
theorem jPicture (S : Nat → Prop) (jb tb db : Nat) (s : JS) (w : World) (hj : IsJ S w jb tb db s) (hl : s.pict.length ≤ 60000) :
    Calls Try.prog 10 #[.pointer (some ⟨jb, 0, none⟩)] w fun e w' => ∃ p c, e = .returned (.tuple #[.slice p s.pict.length c, .bool s.has]) ∧ IsVec (fun k => w.heap.size ≤ k) w' 5 1 (.slice p s.pict.length c) s.pict.length (bys s.pict) ∧ Mod nil w w' := by
  refine (?_ : ∀ Post : Ending → World → Prop, Hid (∀ e w', (∃ p c, e = .returned (.tuple #[.slice p s.pict.length c, .bool s.has]) ∧ IsVec (fun k => w.heap.size ≤ k) w' 5 1 (.slice p s.pict.length c) s.pict.length (bys s.pict) ∧ Mod nil w w') → Post e w') → Calls Try.prog 10 #[.pointer (some ⟨jb, 0, none⟩)] w Post) _ (Lib.hid (fun _ _ h => h))
  intro Post HPOST
  obtain ⟨pp, cp, pr, cr, h1, h2, h3⟩ := hj.ex
  have c5 := cell_of h1 5
  have c6 := cell_of h1 6
  have hjl := heap_lt h1
  simp only [List.getElem?_toArray, List.getElem?_cons_zero, List.getElem?_cons_succ] at c5 c6
  have HCL : Hid (∀ W, Mod nil w W → Calls Try.prog 23 #[.slice pp s.pict.length cp] W fun e w' => ∃ p c, e = .returned (.slice p s.pict.length c) ∧ Hid (IsVec (fun k => w.heap.size ≤ k) w' 5 1 (.slice p s.pict.length c) s.pict.length (bys s.pict)) ∧ Mod nil W w') := Lib.hid (fun W m => by
    refine (bytesClone _ _ _ W (h2.modNil m) (by omega)).mono ?_
    rintro e w' ⟨v, rfl, hv, hm⟩
    obtain ⟨p, c, rfl⟩ := hv.form
    exact ⟨p, c, rfl, Lib.hid (hv.mono (fun k _ h => Nat.le_trans m.size h)), hm⟩)
  obtain ⟨n, hn⟩ : ∃ n, s.pict.length = n := ⟨_, rfl⟩
  obtain ⟨ha, hha⟩ : ∃ ha, s.has = ha := ⟨_, rfl⟩
  rw [hn] at HCL HPOST c6
  rw [hha] at HPOST c5
  clear h1 h2 h3 hj hn hl hha
  go_enter Try.func10, Try.ntmps10
  go_wp2_with fail
  go_region_held3 (fun w' => w'.cell? ⟨jb, 5, none⟩ = some (.bool ha) ∧ w'.cell? ⟨jb, 6, none⟩ = some (.slice pp n cp)) (first | exact ⟨c5, c6⟩ | exact ⟨d5, d6⟩) (first
    | (go_at_call 23; refine (HCL.out _ ?_).mono ?_; (repeat (first | exact Mod.refl _ _ | refine Mod.drew ?_)); rintro e wq ⟨pq, cq, rfl, hvq, hmq⟩; have hmq' := (by (repeat (refine Mod.drew ?_)); exact Mod.refl nil w : Mod nil w _).thenNil hmq; have d5 := cell_kept c5 hmq' hjl (not_nil _); have d6 := cell_kept c6 hmq' hjl (not_nil _)))
  have HE := Lib.hid (HPOST.out _ _ ⟨pq, cq, rfl, hvq.out, hmq'⟩)
  clear hmq' hmq
  go_wp2_with fail
  exact HE.out
set_option maxRecDepth 100000 in
set_option maxHeartbeats 1000000 in
theorem jRecords (S : Nat → Prop) (jb tb db : Nat) (s : JS) (w : World) (hj : IsJ S w jb tb db s) (hl : ∀ r ∈ s.recs, r.length ≤ 60000) (hn : s.recs.length ≤ 100000) :
    Calls Try.prog 13 #[.pointer (some ⟨jb, 0, none⟩)] w fun e w' => ∃ v, e = .returned v ∧ IsTexts (fun k => w.heap.size ≤ k) w' v s.recs.length s.recs ∧ Mod nil w w' := by
  refine (?_ : ∀ Post : Ending → World → Prop, Hid (∀ e w', (∃ v, e = .returned v ∧ IsTexts (fun k => w.heap.size ≤ k) w' v s.recs.length s.recs ∧ Mod nil w w') → Post e w') → Calls Try.prog 13 #[.pointer (some ⟨jb, 0, none⟩)] w Post) _ (Lib.hid (fun _ _ h => h))
  intro Post HPOST
  obtain ⟨pp, cp, pr, cr, h1, h2, h3⟩ := hj.ex
  have c7 := cell_of h1 7
  simp only [List.getElem?_toArray, List.getElem?_cons_zero, List.getElem?_cons_succ] at c7
  obtain ⟨l, hrl⟩ : ∃ l, s.recs = l := ⟨_, rfl⟩
  obtain ⟨n, hnn⟩ : ∃ n, l.length = n := ⟨_, rfl⟩
  rw [hrl] at HPOST c7 h3 hl hn
  rw [hnn] at HPOST c7 h3 hn
  have HR := Lib.hid h3
  have HL := Lib.hid hl
  have HN := Lib.hid hnn
  obtain ⟨B, hB⟩ : ∃ B, w.heap.size = B := ⟨_, rfl⟩
  rw [hB] at HPOST
  have HB := Lib.hid hB
  clear h1 h2 h3 hj hl hrl hnn hB
  go_enter Try.func13, Try.ntmps13
  go_wp2_with fail
  go_loopw [3, 11] (fun v3 v11 wr => ∃ (i : Nat) (q : Option Addr) (c : Nat), i ≤ n ∧ v11 = .int .i64 i ∧ v3 = .slice q i c ∧ Hid (IsTexts (fun k => B ≤ k) wr (.slice q i c) i (l.take i)) ∧ Hid (Mod nil w wr)) (fun _ v _ => n - (intOf v).toNat)
  case atStart => exact ⟨0, none, 0, by omega, rfl, rfl, Lib.hid (IsTexts.nil _ _), Lib.hid (Mod.refl _ _)⟩
  case round =>
    obtain ⟨i, q, c, hi, rfl, rfl, HV, HM⟩ := hrel
    by_cases hlt : i < n
    · obtain ⟨g, x, rfl, hg, hx, hrow⟩ := (HR.out.modNil HM.out).at i hlt
      obtain ⟨t, ht⟩ : ∃ t, l.getD i [] = t := ⟨_, rfl⟩
      rw [ht] at hrow
      have htl : t.length ≤ 60000 := by
        rw [← ht, List.getD_eq_getElem?_getD, List.getElem?_eq_getElem (by rw [HN.out]; exact hlt)]
        exact HL.out _ (List.getElem_mem _)
      have HROW := Lib.hid hrow
      have HT : Hid (l.take (i + 1) = l.take i ++ [t]) := Lib.hid (by
        rw [← ht, List.take_succ_eq_append_getElem (by rw [HN.out]; exact hlt), List.getD_eq_getElem?_getD, List.getElem?_eq_getElem (by rw [HN.out]; exact hlt)]; rfl)
      clear hrow ht
      go_wp2_with fail
      refine (bytesClone _ _ _ wr HROW.out (by omega)).mono ?_
      rintro e w1 ⟨v1, rfl, hv1, hm1⟩
      obtain ⟨p1, c1, rfl⟩ := hv1.form
      have HV1 := Lib.hid hv1
      have HM1 := Lib.hid hm1
      have hs1 := hm1.size
      have hs2 := HM.out.size
      obtain ⟨g2, hg2⟩ : ∃ g2, w1.heap.size = g2 := ⟨_, rfl⟩
      have hown : ∀ k, wr.heap.size ≤ k → B ≤ k ∧ ¬ (Value.slice q i c).ownBlock = some k := fun k hk => ⟨by have := HB.out; omega, fun ho => by have := (HV.out.own ho).2; omega⟩
      obtain ⟨v8, w8, hrun8, hv8, hm8, ho8⟩ := texts_append (g := g2) 32 (HV.out.modNil HM1.out) HV1.out.row hown hg2 (by omega)
      obtain ⟨p8, c8, rfl⟩ := hv8.form
      have HRUN := Lib.hid hrun8
      have HV8 : Hid (IsTexts (fun k => B ≤ k) w8 (.slice p8 (i + 1) c8) (i + 1) (l.take (i + 1))) := Lib.hid (by
        rw [HT.out]
        exact hv8.mono (fun k _ h => h.elim id (fun h => by have := HB.out; omega)))
      have HM8 : Hid (Mod nil w w8) := Lib.hid ((HM.out.thenNil HM1.out).new hm8 (fun k ho => by have := (HV.out.own ho).1; have := HB.out; omega))
      clear hv1 hm1 hrun8 hv8 hm8 ho8 hown hs1 hs2
      go_wp2_with (first | (at_builtin; refine wpList_append_run rfl _ _ _ _ rfl rfl rfl HRUN.out ?_))
      exact ⟨⟨i + 1, p8, c8, by omega, by go_num, rfl, HV8, HM8⟩, by simp [intOf]; omega⟩
    · obtain rfl : i = n := by omega
      have HEND : Hid (Post (.returned (.slice q i c)) wr) := Lib.hid (HPOST.out _ _ ⟨_, rfl, by have h := HV.out; rw [List.take_of_length_le (by rw [HN.out]; exact Nat.le_refl _)] at h; exact h, HM.out⟩)
      clear HV HM
      go_wp2_with fail
      exact HEND.out
end Go.Proofs.Ytlkphkkjpjlnhaa

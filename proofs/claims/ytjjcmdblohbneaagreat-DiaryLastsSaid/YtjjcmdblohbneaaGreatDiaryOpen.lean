/- Package diary: Open. (Printed by wip/tools/gen_diaryopen.py.) -/
import Derived.Test.YtjjcmdblohbneaaGreatDiary
import Derived.Test.YtjjcmdblohbneaaGreatJLaw
namespace Go.Proofs.YtjjcmdblohbneaaGreat
open Go.RowKit
/-- a record as an entry -/
def enOf (r : List UInt8) : En := ⟨((r.headD 0).toNat : Nat), r.tail⟩
theorem enOf_rec (e : En) (h0 : 0 ≤ e.k) (h1 : e.k ≤ 255) : enOf (recOf e) = e := by
  obtain ⟨k, b⟩ := e
  obtain ⟨n, rfl⟩ := Int.eq_ofNat_of_zero_le h0
  simp only [enOf, recOf, List.headD_cons, List.tail_cons, Int.toNat_natCast]
  congr 1
  simp at h1 ⊢
  omega
theorem IsDT.modTab {F : Nat → Prop} {w w' : World} {tb db bl bm : Nat} {d : DS} (h : IsDT F w tb db bl bm d) (ht : IsTab w' tb) (m : Mod (· = tb) w w') : IsDT F w' tb db bl bm d := by
  obtain ⟨h0, C, h1, h2⟩ := h
  exact ⟨ht, C, h1.mod m (fun k _ hk e => (h2 k hk).2.1 e), fun k hk => ⟨(h2 k hk).1, (h2 k hk).2.1, Nat.lt_of_lt_of_le (h2 k hk).2.2 m.size⟩⟩
set_option maxRecDepth 100000 in
set_option maxHeartbeats 2000000 in
theorem diaryOpen (F : Nat → Prop) (tb db bl bm : Nat) (d : DS) (w : World) (h : IsDT F w tb db bl bm d) (hrl : ∀ r ∈ d.opens.recs, r.length ≤ 60000) (hpl : d.opens.pict.length ≤ 60000) (hrn : d.opens.recs.length ≤ 100000) :
    Calls Tryz.prog 10 #[.pointer (some ⟨tb, 0, none⟩), .pointer (some ⟨db, 0, none⟩)] w fun e w' => (∃ yb, w.heap.size ≤ yb ∧ (d.opens.has = false ∧ ∀ r ∈ d.opens.recs, r ≠ []) ∧ e = .returned (.tuple #[.pointer (some ⟨yb, 0, none⟩), .int .i64 0]) ∧ IsY (fun j => F j ∨ w.heap.size ≤ j) w' yb tb db bl bm ⟨d.opens, d, d.opens.recs.map enOf⟩ ∧ Mod (· = tb) w w') ∨ (¬ (d.opens.has = false ∧ ∀ r ∈ d.opens.recs, r ≠ []) ∧ e = .returned (.tuple #[.pointer none, .int .i64 2]) ∧ IsDT F w' tb db bl bm d ∧ Mod (· = tb) w w') := by
  refine (?_ : ∀ Post : Ending → World → Prop, Hid (∀ e w', ((∃ yb, w.heap.size ≤ yb ∧ (d.opens.has = false ∧ ∀ r ∈ d.opens.recs, r ≠ []) ∧ e = .returned (.tuple #[.pointer (some ⟨yb, 0, none⟩), .int .i64 0]) ∧ IsY (fun j => F j ∨ w.heap.size ≤ j) w' yb tb db bl bm ⟨d.opens, d, d.opens.recs.map enOf⟩ ∧ Mod (· = tb) w w') ∨ (¬ (d.opens.has = false ∧ ∀ r ∈ d.opens.recs, r ≠ []) ∧ e = .returned (.tuple #[.pointer none, .int .i64 2]) ∧ IsDT F w' tb db bl bm d ∧ Mod (· = tb) w w')) → Post e w') → Calls Tryz.prog 10 #[.pointer (some ⟨tb, 0, none⟩), .pointer (some ⟨db, 0, none⟩)] w Post) _ (Lib.hid (fun _ _ h => h))
  intro Post HPOST
  have HDT := Lib.hid h
  have HRL := Lib.hid hrl
  have HPL := Lib.hid hpl
  have HRN := Lib.hid hrn
  have htl := h.1.lt
  obtain ⟨X, hX⟩ : ∃ X, w.heap.size = X := ⟨_, rfl⟩
  have HX := Lib.hid hX
  have htX : tb < X := by omega
  clear h hrl hpl hrn hX htl
  go_enter Tryz.func10, Tryz.ntmps10
  go_wp2_with fail
  refine (chainNew tb w).mono ?_
  rintro e w1 ⟨cb, rfl, hch1, hm1⟩
  have HCH1 := Lib.hid hch1
  have HM1 := Lib.hid hm1
  have hs1 := hm1.size
  obtain ⟨gb, hgb⟩ : ∃ gb, w1.heap.size = gb := ⟨_, rfl⟩
  have hcl := hch1.lt
  have HGB := Lib.hid hgb
  have hgX : X ≤ gb ∧ cb < gb ∧ X ≤ cb := ⟨by have := HX.out; omega, by omega, by have := hch1.own; have := HX.out; omega⟩
  clear hch1 hm1 hs1 hgb hcl
  go_wp2_with fail
  (try rw [HGB.out])
  generalize hw2 : World.alloc w1 _ = w2
  have hg2 : w2.heap[gb]? = some (.cells #[.pointer (some ⟨tb, 0, none⟩), .pointer (some ⟨cb, 0, none⟩), .slice none 0 0] 97 (0, 0)) := by rw [← hw2, ← HGB.out]; exact heap_alloc_new _ _
  have hm2 : Mod nil w1 w2 := by rw [← hw2]; exact (Mod.refl _ _).alloc _
  have hs2 : w2.heap.size = gb + 1 := by rw [← hw2, ← HGB.out]; simp
  obtain ⟨L0, hL0⟩ : ∃ L0 : Nat → Prop, L0 = fun k => X ≤ k ∧ k < gb + 1 := ⟨_, rfl⟩
  have HL0 : Hid (∀ k, L0 k ↔ X ≤ k ∧ k < gb + 1) := Lib.hid (fun k => by rw [hL0])
  have HLOG2 : Hid (IsLog L0 w2 gb tb []) := Lib.hid ⟨by rw [hL0]; exact ⟨hgX.1, by omega⟩, fun k => X ≤ k ∧ k < gb, fun _ => False, cb, none, 0, hg2, ((HCH1.out.mono (T := fun k => X ≤ k ∧ k < gb) (fun k hk h => ⟨by have := HX.out; omega, by have := HGB.out; omega⟩)).modNil hm2), IsEnts.nil _ _, fun k hk => ⟨by rw [hL0]; exact ⟨hk.1, by omega⟩, by omega, id⟩, fun k hk => hk.elim⟩
  have HM2 := Lib.hid (HM1.out.thenNil hm2)
  have HDT2 : Hid (IsDT (fun k => F k ∧ k < X) w2 tb db bl bm d) := Lib.hid (by
    obtain ⟨h0, C, h1, h2⟩ := HDT.out
    exact ⟨h0.mod HM2.out (not_nil _), C, h1.modNil HM2.out, fun k hk => ⟨⟨(h2 k hk).1, by have := (h2 k hk).2.2; have := HX.out; omega⟩, (h2 k hk).2.1, Nat.lt_of_lt_of_le (h2 k hk).2.2 HM2.out.size⟩⟩)
  clear hw2 hg2 hm2 hL0
  refine (jOpen _ tb db bl bm d w2 HDT2.out).mono ?_
  rintro e w3 ⟨jb, rfl, hjb, hj3, hm3⟩
  have HJ3 := Lib.hid hj3.exact
  have hs3 := hm3.size
  have hjl : jb < w3.heap.size := by obtain ⟨S, C, h1, -⟩ := hj3.ex; exact h1.lt
  obtain ⟨yb, hyb⟩ : ∃ yb, w3.heap.size = yb := ⟨_, rfl⟩
  have hyg : gb < yb := by omega
  have HYB := Lib.hid hyb
  have HM3 : Hid (Mod (· = tb) w w3) := Lib.hid (HM2.out.ofNil.trans hm3 (fun _ _ h => h))
  have HLOG3 : Hid (IsLog L0 w3 gb tb []) := Lib.hid (HLOG2.out.mod hm3 (fun k _ hk e => by have := (HL0.out k).1 hk; omega))
  have HB2 := Lib.hid hs2
  clear hj3 hm3 hs3 hyb hs2
  go_wp2_with fail
  (try rw [HYB.out])
  generalize hw4 : World.alloc w3 _ = w4
  have hy4 : w4.heap[yb]? = some (.cells #[.pointer (some ⟨gb, 0, none⟩), .pointer (some ⟨jb, 0, none⟩)] 43 (0, 0)) := by rw [← hw4, ← HYB.out]; exact heap_alloc_new _ _
  have hm4 : Mod nil w3 w4 := by rw [← hw4]; exact (Mod.refl _ _).alloc _
  have y1 := cell_of hy4 1
  simp only [List.getElem?_toArray, List.getElem?_cons_zero, List.getElem?_cons_succ] at y1
  have HY4 := Lib.hid hy4
  have HJ4 := Lib.hid (HJ3.out.modNil hm4)
  have HLOG4 := Lib.hid (HLOG3.out.modNil hm4)
  have HM4 := Lib.hid (HM3.out.thenNil hm4)
  obtain ⟨O, hO⟩ : ∃ O, d.opens = O := ⟨_, rfl⟩
  have HO := Lib.hid hO
  rw [hO] at HJ4 HRL HPL HRN HPOST
  have HPIC : Hid (Calls Tryz.prog 35 #[.pointer (some ⟨jb, 0, none⟩)] w4 fun e w' => ∃ p c, e = .returned (.tuple #[.slice p O.pict.length c, .bool O.has]) ∧ Mod nil w4 w') := Lib.hid ((jdPicture HJ4.out HPL.out).mono (fun e w' ⟨p, c, h1, _, h3⟩ => ⟨p, c, h1, h3⟩))
  have HBAD : Hid (¬ (O.has = false ∧ ∀ r ∈ O.recs, r ≠ []) → ∀ w', IsTab w' tb → Mod (· = tb) w w' → Post (.returned (.tuple #[.pointer none, .int .i64 2])) w') := Lib.hid (fun hb w' ht hm => HPOST.out _ _ (.inr ⟨hb, rfl, HDT.out.modTab ht hm, hm⟩))
  clear hw4 hy4 hm4 hO
  go_wp2_with fail
  refine HPIC.out.mono ?_
  rintro e w5 ⟨p5, c5, rfl, hm5⟩
  have HM5 := Lib.hid (HM4.out.thenNil hm5)
  have HJ5 := Lib.hid (HJ4.out.modNil hm5)
  have HLOG5 := Lib.hid (HLOG4.out.modNil hm5)
  have HY5 := Lib.hid (hm5.keep HY4.out)
  have y1' := cell_kept y1 hm5 (heap_lt HY4.out) (not_nil _)
  obtain ⟨hs, hhs⟩ : ∃ hs, O.has = hs := ⟨_, rfl⟩
  have HHS := Lib.hid hhs
  rw [hhs]
  clear hm5 y1 hhs HY4 HJ4 HLOG4
  cases hs with
  | true =>
    have HE := Lib.hid (HBAD.out (fun h => by have h1 := h.1; rw [HHS.out] at h1; cases h1) w5 HJ5.out.tab HM5.out)
    clear y1'
    go_wp2_with fail
    exact HE.out
  | false =>
    have HREC := Lib.hid (jdRecordsC HJ5.out HRL.out HRN.out)
    obtain ⟨n, hn⟩ : ∃ n, O.recs.length = n := ⟨_, rfl⟩
    have HN := Lib.hid hn
    have hnb : n ≤ 100000 := by rw [← hn]; exact HRN.out
    rw [hn] at HREC
    clear hn
    go_wp2_with fail
    refine HREC.out.mono ?_
    rintro e w6 ⟨p6, c6, rfl, ht6, hm6⟩
    obtain ⟨B6, hB6⟩ : ∃ B6, w6.heap.size = B6 := ⟨_, rfl⟩
    have HB6 := Lib.hid hB6
    have hs56 := hm6.size
    have hyl5 : yb < w5.heap.size := heap_lt HY5.out
    have HTX6 : Hid (IsTextsC (fun k => w5.heap.size ≤ k ∧ k < B6) w6 (.slice p6 n c6) n O.recs) := Lib.hid (ht6.mono (fun k hk h => ⟨h, by omega⟩))
    have HM6 := Lib.hid (HM5.out.thenNil hm6)
    have HJ6 := Lib.hid (HJ5.out.modNil hm6)
    have HLOG6 := Lib.hid (HLOG5.out.modNil hm6)
    have HY6 := Lib.hid (hm6.keep HY5.out)
    have hyB : yb < B6 := by omega
    clear ht6 hm6 hB6 y1' hs56 HREC HPIC
    go_wp2_with fail
    go_loopw [36] (fun v36 wr => ∃ i : Nat, i ≤ n ∧ v36 = .int .i64 i ∧ Hid (∀ r ∈ O.recs.take i, r ≠ []) ∧ Hid (IsLog (fun k => L0 k ∨ B6 ≤ k) wr gb tb ((O.recs.take i).map enOf)) ∧ Hid (IsTab wr tb) ∧ Hid (Mod (fun k => L0 k ∨ k = tb) w6 wr)) (fun v _ => n - (intOf v).toNat)
    case atStart => exact ⟨0, by omega, rfl, Lib.hid (by simp), Lib.hid (HLOG6.out.mono (fun _ _ h => .inl h)), Lib.hid HJ6.out.tab, Lib.hid (Mod.refl _ _)⟩
    case round =>
      obtain ⟨i, hi, rfl, HNE, HLR, HTR, HMR⟩ := hrel
      have hmw : Mod (· = tb) w wr := HM6.out.trans HMR.out (fun k hk h => by rcases h with h | h; have := (HL0.out k).1 h; have := HX.out; omega; exact h)
      have HMW := Lib.hid hmw
      have hLk : ∀ k, (w5.heap.size ≤ k ∧ k < B6) → ¬ (L0 k ∨ k = tb) := fun k hk h => by rcases h with h | h; have := (HL0.out k).1 h; omega; omega
      have HTXR : Hid (IsTextsC (fun k => w5.heap.size ≤ k ∧ k < B6) wr (.slice p6 n c6) n O.recs) := Lib.hid (HTX6.out.mod HMR.out (fun k _ hk => hLk k hk))
      have HYR : Hid (wr.heap[yb]? = _) := Lib.hid ((HMR.out.block yb (by have := HB6.out; omega) (by rintro (h | h); have := (HL0.out yb).1 h; omega; omega)).trans HY6.out)
      clear hmw
      by_cases hlt : i < n
      · obtain ⟨gt, x, rfl, hgt, hx, hrow, hcap⟩ := HTXR.out.at i hlt
        have HTK : Hid (O.recs.take (i + 1) = O.recs.take i ++ [O.recs.getD i []]) := Lib.hid (by rw [List.take_succ_eq_append_getElem (by rw [HN.out]; exact hlt), List.getD_eq_getElem?_getD, List.getElem?_eq_getElem (by rw [HN.out]; exact hlt)]; rfl)
        have hmem : O.recs.getD i [] ∈ O.recs := by rw [List.getD_eq_getElem?_getD, List.getElem?_eq_getElem (by rw [HN.out]; exact hlt)]; exact List.getElem_mem _
        have hrlen := HRL.out _ hmem
        obtain ⟨r, hr⟩ : ∃ r, O.recs.getD i [] = r := ⟨_, rfl⟩
        rw [hr] at hrow HTK hmem hrlen
        obtain ⟨px, cx, rfl, -⟩ := id hrow
        rw [bys_length] at hx hrow hcap
        obtain ⟨hcx, hcm⟩ := hcap _ _ _ rfl
        have HMEM := Lib.hid hmem
        cases r with
        | nil =>
          have HE := Lib.hid (HBAD.out (fun h => h.2 _ HMEM.out rfl) wr HTR.out HMW.out)
          simp only [List.length_nil] at hx
          clear hrow hcap hmem hrlen hr hcx
          go_upto_region 8 with (fail)
          refine wp_region_held_drew (S := (fun _ => True)) (by kernel_rfl) (trivial) (fun hHeld => ?_)
          refine wpAnyH_take (i := 0) (v := ?_) rfl (by kernel_rfl) (by kernel_rfl) (by kernel_rfl) (fun _ _ _ h => h) (Or.inl ⟨by kernel_rfl, ?_⟩) (by assumption) ?_
          rotate_left
          · intro w hSw; (try dsimp only at hSw); (first | (go_simp; done) | (go_simp; with_reducible rfl))
          (try simp only [Act.put, List.getElem_toArray, List.getElem_cons_succ, List.getElem_cons_zero, List.setIfInBounds_toArray, List.set_cons_succ, List.set_cons_zero])
          refine wpAnyH_ready (rs := [1]) (by kernel_rfl) (by simp) ?_
          refine AllReadyH.cons (i := 1) rfl (fun K hK => ?_) AllReadyH.nil
          (try dsimp (config := { proj := false }) only [List.getElem_toArray, List.getElem_cons_succ, List.getElem_cons_zero])
          go_simp
          refine hK.out _ _ (trivial) (fun hHeld => ?_)
          clear hK K
          (try simp only [Act.put, List.setIfInBounds_toArray, List.set_cons_zero, List.set_cons_succ])
          (try simp only [List.set_cons_succ, List.set_cons_zero])
          refine wpAnyH_take (i := 2) (v := ?_) rfl (by kernel_rfl) (by kernel_rfl) (by kernel_rfl) (fun _ _ _ h => h) (Or.inl ⟨by kernel_rfl, ?_⟩) (by assumption) ?_
          rotate_left
          · intro w hSw; (try dsimp only at hSw); (first | (go_simp; done) | (go_simp; with_reducible rfl))
          (try simp only [Act.put, List.getElem_toArray, List.getElem_cons_succ, List.getElem_cons_zero, List.setIfInBounds_toArray, List.set_cons_succ, List.set_cons_zero])
          refine wpAnyH_take (i := 3) (v := ?_) rfl (by kernel_rfl) (by kernel_rfl) (by kernel_rfl) (fun _ _ _ h => h) (Or.inl ⟨by kernel_rfl, ?_⟩) (by assumption) ?_
          rotate_left
          · intro w hSw; (try dsimp only at hSw); (first | (go_simp; done) | (go_simp; with_reducible rfl))
          (try simp only [Act.put, List.getElem_toArray, List.getElem_cons_succ, List.getElem_cons_zero, List.setIfInBounds_toArray, List.set_cons_succ, List.set_cons_zero])
          refine wpAnyH_take (i := 4) (v := undef) rfl (by kernel_rfl) (by kernel_rfl) (by kernel_rfl) (fun _ _ _ h => h) (Or.inr ⟨by kernel_rfl, rfl⟩) (by assumption) ?_
          (try simp only [Act.put, List.getElem_toArray, List.getElem_cons_succ, List.getElem_cons_zero, List.setIfInBounds_toArray, List.set_cons_succ, List.set_cons_zero])
          refine wpAnyH_take (i := 5) (v := undef) rfl (by kernel_rfl) (by kernel_rfl) (by kernel_rfl) (fun _ _ _ h => h) (Or.inr ⟨by kernel_rfl, rfl⟩) (by assumption) ?_
          (try simp only [Act.put, List.getElem_toArray, List.getElem_cons_succ, List.getElem_cons_zero, List.setIfInBounds_toArray, List.set_cons_succ, List.set_cons_zero])
          refine wpAnyH_take (i := 6) (v := undef) rfl (by kernel_rfl) (by kernel_rfl) (by kernel_rfl) (fun _ _ _ h => h) (Or.inr ⟨by kernel_rfl, rfl⟩) (by assumption) ?_
          (try simp only [Act.put, List.getElem_toArray, List.getElem_cons_succ, List.getElem_cons_zero, List.setIfInBounds_toArray, List.set_cons_succ, List.set_cons_zero])
          refine wpAnyH_take (i := 7) (v := undef) rfl (by kernel_rfl) (by kernel_rfl) (by kernel_rfl) (fun _ _ _ h => h) (Or.inr ⟨by kernel_rfl, rfl⟩) (by assumption) ?_
          (try simp only [Act.put, List.getElem_toArray, List.getElem_cons_succ, List.getElem_cons_zero, List.setIfInBounds_toArray, List.set_cons_succ, List.set_cons_zero])
          refine wpAnyH_take (i := 8) (v := undef) rfl (by kernel_rfl) (by kernel_rfl) (by kernel_rfl) (fun _ _ _ h => h) (Or.inr ⟨by kernel_rfl, rfl⟩) (by assumption) ?_
          (try simp only [Act.put, List.getElem_toArray, List.getElem_cons_succ, List.getElem_cons_zero, List.setIfInBounds_toArray, List.set_cons_succ, List.set_cons_zero])
          refine wpAnyH_take (i := 9) (v := undef) rfl (by kernel_rfl) (by kernel_rfl) (by kernel_rfl) (fun _ _ _ h => h) (Or.inr ⟨by kernel_rfl, rfl⟩) (by assumption) ?_
          (try simp only [Act.put, List.getElem_toArray, List.getElem_cons_succ, List.getElem_cons_zero, List.setIfInBounds_toArray, List.set_cons_succ, List.set_cons_zero])
          refine wpAnyH_take (i := 10) (v := undef) rfl (by kernel_rfl) (by kernel_rfl) (by kernel_rfl) (fun _ _ _ h => h) (Or.inr ⟨by kernel_rfl, rfl⟩) (by assumption) ?_
          (try simp only [Act.put, List.getElem_toArray, List.getElem_cons_succ, List.getElem_cons_zero, List.setIfInBounds_toArray, List.set_cons_succ, List.set_cons_zero])
          refine wpAnyH_take (i := 11) (v := undef) rfl (by kernel_rfl) (by kernel_rfl) (by kernel_rfl) (fun _ _ _ h => h) (Or.inr ⟨by kernel_rfl, rfl⟩) (by assumption) ?_
          (try simp only [Act.put, List.getElem_toArray, List.getElem_cons_succ, List.getElem_cons_zero, List.setIfInBounds_toArray, List.set_cons_succ, List.set_cons_zero])
          refine wpAnyH_take (i := 12) (v := undef) rfl (by kernel_rfl) (by kernel_rfl) (by kernel_rfl) (fun _ _ _ h => h) (Or.inr ⟨by kernel_rfl, rfl⟩) (by assumption) ?_
          (try simp only [Act.put, List.getElem_toArray, List.getElem_cons_succ, List.getElem_cons_zero, List.setIfInBounds_toArray, List.set_cons_succ, List.set_cons_zero])
          refine wpAnyH_take (i := 13) (v := undef) rfl (by kernel_rfl) (by kernel_rfl) (by kernel_rfl) (fun _ _ _ h => h) (Or.inr ⟨by kernel_rfl, rfl⟩) (by assumption) ?_
          (try simp only [Act.put, List.getElem_toArray, List.getElem_cons_succ, List.getElem_cons_zero, List.setIfInBounds_toArray, List.set_cons_succ, List.set_cons_zero])
          refine wpAnyH_take (i := 14) (v := undef) rfl (by kernel_rfl) (by kernel_rfl) (by kernel_rfl) (fun _ _ _ h => h) (Or.inr ⟨by kernel_rfl, rfl⟩) (by assumption) ?_
          (try simp only [Act.put, List.getElem_toArray, List.getElem_cons_succ, List.getElem_cons_zero, List.setIfInBounds_toArray, List.set_cons_succ, List.set_cons_zero])
          refine wpAnyH_take (i := 15) (v := undef) rfl (by kernel_rfl) (by kernel_rfl) (by kernel_rfl) (fun _ _ _ h => h) (Or.inr ⟨by kernel_rfl, rfl⟩) (by assumption) ?_
          (try simp only [Act.put, List.getElem_toArray, List.getElem_cons_succ, List.getElem_cons_zero, List.setIfInBounds_toArray, List.set_cons_succ, List.set_cons_zero])
          refine wpAnyH_take (i := 16) (v := undef) rfl (by kernel_rfl) (by kernel_rfl) (by kernel_rfl) (fun _ _ _ h => h) (Or.inr ⟨by kernel_rfl, rfl⟩) (by assumption) ?_
          (try simp only [Act.put, List.getElem_toArray, List.getElem_cons_succ, List.getElem_cons_zero, List.setIfInBounds_toArray, List.set_cons_succ, List.set_cons_zero])
          refine wpAnyH_take (i := 17) (v := ?_) rfl (by kernel_rfl) (by kernel_rfl) (by kernel_rfl) (fun _ _ _ h => h) (Or.inl ⟨by kernel_rfl, ?_⟩) (by assumption) ?_
          rotate_left
          · intro w hSw; (try dsimp only at hSw); (first | (go_simp; done) | (go_simp; with_reducible rfl))
          (try simp only [Act.put, List.getElem_toArray, List.getElem_cons_succ, List.getElem_cons_zero, List.setIfInBounds_toArray, List.set_cons_succ, List.set_cons_zero])
          refine wpAnyH_done (by kernel_rfl) ?_ _
          have HE2 : Hid (∀ k, Post (.returned (.tuple #[.pointer none, .int .i64 2])) (wr.drewN k)) := Lib.hid (fun k => HBAD.out (fun h => h.2 _ HMEM.out rfl) _ (HTR.out.mod ((Mod.refl nil wr).drewN k) (not_nil _)) (HMW.out.drewN k))
          go_wp2_with fail
          exact HE2.out 1
        | cons a t =>
          have HROW := Lib.hid hrow
          obtain ⟨m, hm⟩ : ∃ m, t.length = m := ⟨_, rfl⟩
          have HMT := Lib.hid hm
          rw [List.length_cons, hm] at hx HROW hcx hrlen
          obtain ⟨M, hM⟩ : ∃ M, m + 1 = M := ⟨_, rfl⟩
          rw [hM] at hx HROW hcx hrlen
          have HMM := Lib.hid hM
          obtain ⟨gr, or_, rfl, hgr, hgrl⟩ := row_some HROW.out (by omega)
          have hb0 : wr.cell? ⟨gr, or_, none⟩ = some (.int .u8 a.toNat) := by
            obtain ⟨_, _, e, hc⟩ := HROW.out
            simp only [Value.slice.injEq] at e
            obtain ⟨rfl, -, -⟩ := e
            obtain ⟨b', o', e1, -, -, h4⟩ := hc 0 (by simp [bys])
            simp only [Option.some.injEq, Addr.mk.injEq, and_true] at e1
            obtain ⟨rfl, rfl⟩ := e1
            simpa [bys] using h4
          have hM1 : 0 < M := by omega
          have hnz : ((M : Int) == 0) = false := by simp; omega
          obtain ⟨p2, hsl0, hrowsl⟩ := slice_from _ (some ⟨gr, or_, none⟩) M cx 1 (a :: t) wr HROW.out (by omega) hcx
          rw [show M - 1 = m by omega] at hsl0 hrowsl
          have hsl : ∀ W, (Instr.slice 34 (.slice (some ⟨gr, or_, none⟩) M cx) (some (.int .i64 1)) none none).run Tryz.prog W = .ok (.slice p2 m (cx - 1)) W := fun W => hsl0 W
          clear hsl0 hM
          have hidx : ((0 : Nat) : Int) = 0 := rfl
          have ha255 : a.toNat ≤ 255 := by have := a.toNat_lt; omega
          have hconv : IntKind.i64.wrap ((a.toNat : Nat) : Int) = ((a.toNat : Nat) : Int) := by rw [IntKind.wrap_i64]; omega
          have HRT : Hid (∀ W, Mod nil wr W → IsRow (fun k => w5.heap.size ≤ k ∧ k < B6) W (.slice p2 m (cx - 1)) (bys t)) := Lib.hid (fun W mm => by
            have := hrowsl W (HROW.out.modNil mm)
            simpa using this)
          have HKP : Hid (∀ W, Mod nil wr W → Calls Tryz.prog 37 #[.pointer (some ⟨gb, 0, none⟩), .agg #[.int .i64 (a.toNat : Nat), .slice p2 m (cx - 1)]] W fun e w' => e = .returned (.int .i64 0) ∧ IsTab w' tb ∧ IsLog (fun k => L0 k ∨ B6 ≤ k) w' gb tb ((O.recs.take (i + 1)).map enOf) ∧ Mod (fun j => (L0 j ∨ B6 ≤ j) ∨ j = tb) W w') := Lib.hid (fun W mm => by
            refine (logKeep _ _ gb tb a.toNat m (cx - 1) _ t p2 W (HLR.out.modNil mm) (HTR.out.mod mm (not_nil _)) (HRT.out W mm) (fun h => by rcases h with h | h; have := (HL0.out tb).1 h; omega; have := hyB; omega) (fun j hj => ⟨fun h => by rcases h with h | h; have := (HL0.out j).1 h; omega; omega, by omega⟩) ha255 (by have := HMM.out; omega) (by rw [List.length_map, List.length_take]; have := HN.out; have := HRN.out; omega)).mono ?_
            rintro e w' ⟨rfl, ht, hl, hmm⟩
            refine ⟨rfl, ht, ?_, hmm⟩
            rw [HTK.out, List.map_append]
            exact hl.mono (fun j _ h => h.elim id (fun h => .inr (by have := mm.size; have := HMR.out.size; have := HB6.out; omega))))
          have HKK : Hid (∀ W, Mod (fun j => ((L0 j ∨ B6 ≤ j) ∨ j = tb)) wr W → (fun w' => w'.cell? ⟨yb, 0, none⟩ = some (.pointer (some ⟨gb, 0, none⟩)) ∧ w'.cell? ⟨gr, or_, none⟩ = some (.int .u8 a.toNat)) W) := Lib.hid (fun W mm => by
            have y0 := cell_of HYR.out 0
            simp only [List.getElem?_toArray, List.getElem?_cons_zero, List.getElem?_cons_succ] at y0
            exact ⟨cell_kept y0 mm (heap_lt HYR.out) (by rintro ((h | h) | h); have := (HL0.out yb).1 h; omega; omega; omega), cell_kept hb0 mm hgrl (by rintro ((h | h) | h); have := (HL0.out gr).1 h; omega; omega; omega)⟩)
          have HK := HKK
          clear hrow hmem hr hm hrowsl hb0 hcap hidx
          go_upto_region 8 with (fail)
          refine wp_region_held_drew (S := (fun w' => w'.cell? ⟨yb, 0, none⟩ = some (.pointer (some ⟨gb, 0, none⟩)) ∧ w'.cell? ⟨gr, or_, none⟩ = some (.int .u8 a.toNat))) (by kernel_rfl) (HK.out _ (by (repeat (first | assumption | exact Mod.refl _ _ | refine Mod.drew ?_ | refine Mod.alloc ?_ _)))) (fun hHeld => ?_)
          refine wpAnyH_take (i := 0) (v := ?_) rfl (by kernel_rfl) (by kernel_rfl) (by kernel_rfl) (fun _ _ _ h => h) (Or.inl ⟨by kernel_rfl, ?_⟩) (by assumption) ?_
          rotate_left
          · intro w hSw; (try dsimp only at hSw); (first | (go_simp; done) | (go_simp; with_reducible rfl))
          (try simp only [Act.put, List.getElem_toArray, List.getElem_cons_succ, List.getElem_cons_zero, List.setIfInBounds_toArray, List.set_cons_succ, List.set_cons_zero])
          refine wpAnyH_ready (rs := [1]) (by kernel_rfl) (by simp) ?_
          refine AllReadyH.cons (i := 1) rfl (fun K hK => ?_) AllReadyH.nil
          (try dsimp (config := { proj := false }) only [List.getElem_toArray, List.getElem_cons_succ, List.getElem_cons_zero])
          go_simp
          refine hK.out _ _ (HK.out _ (by (repeat (first | assumption | exact Mod.refl _ _ | refine Mod.drew ?_ | refine Mod.alloc ?_ _)))) (fun hHeld => ?_)
          clear hK K
          (try simp only [Act.put, List.setIfInBounds_toArray, List.set_cons_zero, List.set_cons_succ])
          (try simp only [List.set_cons_succ, List.set_cons_zero])
          refine wpAnyH_take (i := 2) (v := ?_) rfl (by kernel_rfl) (by kernel_rfl) (by kernel_rfl) (fun _ _ _ h => h) (Or.inl ⟨by kernel_rfl, ?_⟩) (by assumption) ?_
          rotate_left
          · intro w hSw; (try dsimp only at hSw); (first | (go_simp; done) | (go_simp; with_reducible rfl))
          (try simp only [Act.put, List.getElem_toArray, List.getElem_cons_succ, List.getElem_cons_zero, List.setIfInBounds_toArray, List.set_cons_succ, List.set_cons_zero])
          refine wpAnyH_take (i := 3) (v := ?_) rfl (by kernel_rfl) (by kernel_rfl) (by kernel_rfl) (fun _ _ _ h => h) (Or.inl ⟨by kernel_rfl, ?_⟩) (by assumption) ?_
          rotate_left
          · intro w hSw; (try dsimp only at hSw); (first | (go_simp; done) | (go_simp; with_reducible rfl))
          (try simp only [Act.put, List.getElem_toArray, List.getElem_cons_succ, List.getElem_cons_zero, List.setIfInBounds_toArray, List.set_cons_succ, List.set_cons_zero])
          refine wpAnyH_take (i := 4) (v := ?_) rfl (by kernel_rfl) (by kernel_rfl) (by kernel_rfl) (fun _ _ _ h => h) (Or.inl ⟨by kernel_rfl, ?_⟩) (by assumption) ?_
          rotate_left
          · intro w hSw; (try dsimp only at hSw); (first | (go_simp; done) | (go_simp; with_reducible rfl))
          (try simp only [Act.put, List.getElem_toArray, List.getElem_cons_succ, List.getElem_cons_zero, List.setIfInBounds_toArray, List.set_cons_succ, List.set_cons_zero])
          refine wpAnyH_take (i := 5) (v := ?_) rfl (by kernel_rfl) (by kernel_rfl) (by kernel_rfl) (fun _ _ _ h => h) (Or.inl ⟨by kernel_rfl, ?_⟩) (by assumption) ?_
          rotate_left
          · intro w hSw; (try dsimp only at hSw); (first | (go_simp; done) | (go_simp; with_reducible rfl))
          (try simp only [Act.put, List.getElem_toArray, List.getElem_cons_succ, List.getElem_cons_zero, List.setIfInBounds_toArray, List.set_cons_succ, List.set_cons_zero])
          refine wpAnyH_take (i := 6) (v := ?_) rfl (by kernel_rfl) (by kernel_rfl) (by kernel_rfl) (fun _ _ _ h => h) (Or.inl ⟨by kernel_rfl, ?_⟩) (by assumption) ?_
          rotate_left
          · intro w hSw; (try dsimp only at hSw); (first | (go_simp; done) | (go_simp; with_reducible rfl))
          (try simp only [Act.put, List.getElem_toArray, List.getElem_cons_succ, List.getElem_cons_zero, List.setIfInBounds_toArray, List.set_cons_succ, List.set_cons_zero])
          refine wpAnyH_take (i := 7) (v := ?_) rfl (by kernel_rfl) (by kernel_rfl) (by kernel_rfl) (fun _ _ _ h => h) (Or.inl ⟨by kernel_rfl, ?_⟩) (by assumption) ?_
          rotate_left
          · intro w hSw; (try dsimp only at hSw); (first | (go_simp; done) | (go_simp; with_reducible rfl))
          (try simp only [Act.put, List.getElem_toArray, List.getElem_cons_succ, List.getElem_cons_zero, List.setIfInBounds_toArray, List.set_cons_succ, List.set_cons_zero])
          refine wpAnyH_take (i := 8) (v := ?_) rfl (by kernel_rfl) (by kernel_rfl) (by kernel_rfl) (fun _ _ _ h => h) (Or.inl ⟨by kernel_rfl, ?_⟩) (by assumption) ?_
          rotate_left
          · intro w hSw; (try dsimp only at hSw); (first | (go_simp; done) | (go_simp; with_reducible rfl))
          (try simp only [Act.put, List.getElem_toArray, List.getElem_cons_succ, List.getElem_cons_zero, List.setIfInBounds_toArray, List.set_cons_succ, List.set_cons_zero])
          refine wpAnyH_take (i := 9) (v := ?_) rfl (by kernel_rfl) (by kernel_rfl) (by kernel_rfl) (fun _ _ _ h => h) (Or.inl ⟨by kernel_rfl, ?_⟩) (by assumption) ?_
          rotate_left
          · intro w hSw; (try dsimp only at hSw); (first | (go_simp; done) | (go_simp; with_reducible rfl))
          (try simp only [Act.put, List.getElem_toArray, List.getElem_cons_succ, List.getElem_cons_zero, List.setIfInBounds_toArray, List.set_cons_succ, List.set_cons_zero])
          refine wpAnyH_take (i := 10) (v := ?_) rfl (by kernel_rfl) (by kernel_rfl) (by kernel_rfl) (fun _ _ _ h => h) (Or.inl ⟨by kernel_rfl, ?_⟩) (by assumption) ?_
          rotate_left
          · intro w hSw; (try dsimp only at hSw); (first | (go_simp; done) | (go_simp; with_reducible rfl))
          (try simp only [Act.put, List.getElem_toArray, List.getElem_cons_succ, List.getElem_cons_zero, List.setIfInBounds_toArray, List.set_cons_succ, List.set_cons_zero])
          refine wpAnyH_take (i := 11) (v := ?_) rfl (by kernel_rfl) (by kernel_rfl) (by kernel_rfl) (fun _ _ _ h => h) (Or.inl ⟨by kernel_rfl, ?_⟩) (by assumption) ?_
          rotate_left
          · intro w hSw; (try dsimp only at hSw); (first | (go_simp; done) | (go_simp; with_reducible rfl))
          (try simp only [Act.put, List.getElem_toArray, List.getElem_cons_succ, List.getElem_cons_zero, List.setIfInBounds_toArray, List.set_cons_succ, List.set_cons_zero])
          refine wpAnyH_take (i := 12) (v := ?_) rfl (by kernel_rfl) (by kernel_rfl) (by kernel_rfl) (fun _ _ _ h => h) (Or.inl ⟨by kernel_rfl, ?_⟩) (by assumption) ?_
          rotate_left
          · intro w hSw; (try dsimp only at hSw); (first | (go_simp; done) | (go_simp; with_reducible rfl))
          (try simp only [Act.put, List.getElem_toArray, List.getElem_cons_succ, List.getElem_cons_zero, List.setIfInBounds_toArray, List.set_cons_succ, List.set_cons_zero])
          refine wpAnyH_take (i := 13) (v := ?_) rfl (by kernel_rfl) (by kernel_rfl) (by kernel_rfl) (fun _ _ _ h => h) (Or.inl ⟨by kernel_rfl, ?_⟩) (by assumption) ?_
          rotate_left
          · intro w hSw; (try dsimp only at hSw); (first | (go_simp; done) | (go_simp; with_reducible rfl))
          (try simp only [Act.put, List.getElem_toArray, List.getElem_cons_succ, List.getElem_cons_zero, List.setIfInBounds_toArray, List.set_cons_succ, List.set_cons_zero])
          refine wpAnyH_take (i := 14) (v := ?_) rfl (by kernel_rfl) (by kernel_rfl) (by kernel_rfl) (fun _ _ _ h => h) (Or.inl ⟨by kernel_rfl, ?_⟩) (by assumption) ?_
          rotate_left
          · intro w hSw; (try dsimp only at hSw); (first | (go_simp; done) | (go_simp; with_reducible rfl))
          (try simp only [Act.put, List.getElem_toArray, List.getElem_cons_succ, List.getElem_cons_zero, List.setIfInBounds_toArray, List.set_cons_succ, List.set_cons_zero])
          refine wpAnyH_ready (rs := [15]) (by kernel_rfl) (by simp) ?_
          refine AllReadyH.cons (i := 15) rfl (fun K hK => ?_) AllReadyH.nil
          (try dsimp (config := { proj := false }) only [List.getElem_toArray, List.getElem_cons_succ, List.getElem_cons_zero])
          go_simp
          refine (HKP.out _ ?_).mono ?_
          · (repeat (first | assumption | exact Mod.refl _ _ | refine Mod.drew ?_ | refine Mod.alloc ?_ _))
          rintro e w7 ⟨rfl, ht7, hl7, hm7⟩
          have hm7' : Mod (fun j => ((L0 j ∨ B6 ≤ j) ∨ j = tb)) wr w7 := (show Mod (fun j => ((L0 j ∨ B6 ≤ j) ∨ j = tb)) wr _ from by (repeat (first | assumption | exact Mod.refl _ _ | refine Mod.drew ?_ | refine Mod.alloc ?_ _))).trans hm7 (fun _ _ h => h)
          refine hK.out _ _ (HK.out _ (by (repeat (first | assumption | exact Mod.refl _ _ | refine Mod.drew ?_ | refine Mod.alloc ?_ _)))) (fun hHeld => ?_)
          clear hK K
          (try simp only [Act.put, List.setIfInBounds_toArray, List.set_cons_zero, List.set_cons_succ])
          (try simp only [List.set_cons_succ, List.set_cons_zero])
          refine wpAnyH_take (i := 16) (v := ?_) rfl (by kernel_rfl) (by kernel_rfl) (by kernel_rfl) (fun _ _ _ h => h) (Or.inl ⟨by kernel_rfl, ?_⟩) (by assumption) ?_
          rotate_left
          · intro w hSw; (try dsimp only at hSw); (first | (go_simp; done) | (go_simp; with_reducible rfl))
          (try simp only [Act.put, List.getElem_toArray, List.getElem_cons_succ, List.getElem_cons_zero, List.setIfInBounds_toArray, List.set_cons_succ, List.set_cons_zero])
          refine wpAnyH_take (i := 17) (v := ?_) rfl (by kernel_rfl) (by kernel_rfl) (by kernel_rfl) (fun _ _ _ h => h) (Or.inl ⟨by kernel_rfl, ?_⟩) (by assumption) ?_
          rotate_left
          · intro w hSw; (try dsimp only at hSw); (first | (go_simp; done) | (go_simp; with_reducible rfl))
          (try simp only [Act.put, List.getElem_toArray, List.getElem_cons_succ, List.getElem_cons_zero, List.setIfInBounds_toArray, List.set_cons_succ, List.set_cons_zero])
          refine wpAnyH_done (by kernel_rfl) ?_ _
          have HE1 : Hid (∀ r ∈ O.recs.take (i + 1), r ≠ []) := Lib.hid (fun r hr => by
            rw [HTK.out] at hr
            rcases List.mem_append.1 hr with h | h
            · exact HNE.out r h
            · rw [List.mem_singleton.1 h]; exact List.cons_ne_nil _ _)
          have HL7 := Lib.hid hl7
          have HT7 := Lib.hid ht7
          have HM7 : Hid (Mod (fun k => L0 k ∨ k = tb) w6 w7) := Lib.hid (HMR.out.trans hm7' (fun k hk h => by rcases h with (h | h) | h; exact .inl h; have := HB6.out; omega; exact .inr h))
          clear hl7 ht7 hm7 hm7' hHeld HKK HK
          go_wp2_with fail
          exact ⟨⟨i + 1, by omega, by go_num, HE1, HL7, HT7, HM7⟩, by simp [intOf]; omega⟩
      · obtain rfl : i = n := by omega
        have htake : O.recs.take i = O.recs := List.take_of_length_le (by rw [HN.out]; exact Nat.le_refl _)
        have HJR : Hid (IsJD (fun k => (((F k ∧ k < X) ∨ gb + 1 ≤ k) ∧ k ≠ tb ∧ k < yb)) wr jb tb db bl bm O d) := Lib.hid (by
          have h : IsJD (fun k => (((F k ∧ k < X) ∨ gb + 1 ≤ k) ∧ k ≠ tb ∧ k < yb)) w6 jb tb db bl bm O d := HJ6.out.mono (fun k _ h => ⟨h.1.imp id (fun h' => by have := HB2.out; omega), h.2.1, by have := HYB.out; omega⟩)
          obtain ⟨S, C, h1, h2, h3, h4⟩ := h.ex
          have hno : ∀ k, ((((F k ∧ k < X) ∨ gb + 1 ≤ k) ∧ k ≠ tb ∧ k < yb)) → ¬ (L0 k ∨ k = tb) := fun k hk h => by
            rcases h with h | h
            · have := (HL0.out k).1 h; omega
            · exact hk.2.1 h
          exact ⟨HTR.out, S, C, h1.mod HMR.out (fun k _ hs => hno k (h4 k (.inl hs)).1), h2.mod HMR.out (fun k _ hs => hno k (h4 k (.inr hs)).1), h3, fun k hk => ⟨(h4 k hk).1, (h4 k hk).2.1, Nat.lt_of_lt_of_le (h4 k hk).2.2 HMR.out.size⟩⟩)
        have HLG : Hid (IsLog (fun k => L0 k ∨ B6 ≤ k) wr gb tb (O.recs.map enOf)) := Lib.hid (by have h := HLR.out; rw [htake] at h; exact h)
        have HALL : Hid (∀ r ∈ O.recs, r ≠ []) := Lib.hid (by have h := HNE.out; rw [htake] at h; exact h)
        have HE := Lib.hid (HPOST.out _ wr (.inl ⟨yb, by have := HX.out; omega, ⟨HHS.out, HALL.out⟩, rfl, ⟨gb, jb, _, _, HYR.out, .inr (by have := HX.out; omega), by omega, HJR.out, HLG.out, fun k hk => ⟨hk.1.imp (fun h => h.1) (fun h => by have := HX.out; omega), hk.2.1, by omega, fun h => by rcases h with h | h; have := (HL0.out k).1 h; omega; omega⟩, fun k hk => ⟨.inr (by have := HX.out; rcases hk with h | h; have := (HL0.out k).1 h; omega; omega), by rcases hk with h | h; have := (HL0.out k).1 h; omega; omega, by rcases hk with h | h; have := (HL0.out k).1 h; omega; omega⟩⟩, HMW.out⟩))
        clear htake HNE HLR HTR HMR
        go_wp2_with fail
        exact HE.out
end Go.Proofs.YtjjcmdblohbneaaGreat

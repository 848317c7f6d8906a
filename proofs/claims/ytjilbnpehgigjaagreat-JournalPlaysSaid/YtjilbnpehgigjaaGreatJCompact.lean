/- Package journal: Compact. (Printed by wip/tools/gen_jcompact.py.) -/
import Derived.Test.YtjilbnpehgigjaaGreatShort
import Derived.Test.YtjilbnpehgigjaaGreatJAppend
namespace Go.Proofs.YtjilbnpehgigjaaGreat
open Go.RowKit
theorem min_of_if {a b c : Int} (h : (if b < a then b else a) = c) : min a b = c ∧ min b a = c := by
  rw [Int.min_def, Int.min_def]
  by_cases hb : b < a
  · rw [if_pos hb] at h; rw [if_neg (by omega), if_pos (by omega)]; exact ⟨h, h⟩
  · rw [if_neg hb] at h
    by_cases he : a = b
    · subst he; simp [h]
    · rw [if_pos (by omega), if_neg (by omega)]; exact ⟨h, h⟩
set_option maxRecDepth 100000 in
set_option maxHeartbeats 16000000 in
theorem jCompact (F T : Nat → Prop) (jb tb db bl bm : Nat) (s : JS) (d : DS) (pb : Option Addr) (nb cb : Nat) (b : List UInt8) (w : World) (h : IsJD F w jb tb db bl bm s d) (hl : s.Lim (d.lasts.length / 2)) (hrow : IsRow T w (.slice pb nb cb) (bys b))
    (hT : ∀ k, T k → k < w.heap.size ∧ ¬ F k ∧ k ≠ tb) (hcap : nb ≤ cb) :
    Calls Tryz.prog 20 #[.pointer (some ⟨jb, 0, none⟩), .slice pb nb cb] w fun e w' => e = .returned (.int .i64 (s.compacts d b).2.2) ∧ IsJD (fun k => F k ∨ w.heap.size ≤ k) w' jb tb db bl bm (s.compacts d b).1 (s.compacts d b).2.1 ∧ Mod (fun k => F k ∨ k = tb) w w' := by
  refine (?_ : ∀ Post : Ending → World → Prop, Hid (∀ e w', (e = .returned (.int .i64 (s.compacts d b).2.2) ∧ IsJD (fun k => F k ∨ w.heap.size ≤ k) w' jb tb db bl bm (s.compacts d b).1 (s.compacts d b).2.1 ∧ Mod (fun k => F k ∨ k = tb) w w') → Post e w') → Calls Tryz.prog 20 #[.pointer (some ⟨jb, 0, none⟩), .slice pb nb cb] w Post) _ (Lib.hid (fun _ _ h => h))
  intro Post HPOST
  obtain ⟨S, C, hj, hd, h3, h4⟩ := h.ex
  have hbl : b.length = nb := by
    obtain ⟨_, _, h, _⟩ := hrow
    simp only [Value.slice.injEq, bys_length] at h
    exact h.2.1.symm
  have htl := h.tab.lt
  have HJ := Lib.hid hj
  have HD := Lib.hid hd
  have HT := Lib.hid h.tab
  have H3 := Lib.hid h3
  have H4 := Lib.hid h4
  have HROW := Lib.hid hrow
  have HTT := Lib.hid hT
  have HBL := Lib.hid hbl
  have hjF := h4 jb (.inl hj.own)
  have hdF := h4 db (.inr (.inl rfl))
  have hlF := h4 bl (.inr (.inr (.inl rfl)))
  have hmF := h4 bm (.inr (.inr (.inr (.inl rfl))))
  have HF : Hid (F jb ∧ F db ∧ F bl ∧ F bm) := Lib.hid ⟨hjF.1, hdF.1, hlF.1, hmF.1⟩
  have hjt := hjF.2.1
  have hj3 : ¬ (jb = db ∨ jb = bl ∨ jb = bm) := fun e => h3 jb hj.own (by rcases e with e | e | e; exact .inl e; exact .inr (.inl e); exact .inr (.inr (.inl e)))
  obtain ⟨pp, cp, pr, cr, hb, hp, hr⟩ := hj.ex
  have c0 := cell_of hb 0
  have c1 := cell_of hb 1
  have c2 := cell_of hb 2
  have c4 := cell_of hb 4
  have c7 := cell_of hb 7
  have z2 := free_of hb 2
  simp only [List.getElem?_toArray, List.getElem?_cons_zero, List.getElem?_cons_succ] at c0 c1 c2 c4 c7
  have hjl := heap_lt hb
  have HDN : Hid (Calls Tryz.prog 27 #[.pointer (some ⟨db, 0, none⟩)] w fun e w' => e = .returned (.bool d.down) ∧ w = w') := Lib.hid (diskDown db bl bm C d w hd)
  have HLIM := Lib.hid hl
  have HDOWN : Hid ((s.down || d.down) = true → Post (.returned (.int .i64 13)) (w.setCell ⟨jb, 2, none⟩ (.bool true))) := Lib.hid (fun hx => by
    have hs : s.compacts d b = ({ s with down := true }, d, 13) := by unfold JS.compacts; exact if_pos hx
    have hm : Mod (· = jb) w (w.setCell ⟨jb, 2, none⟩ (.bool true)) := (Mod.refl _ _).setCell _ _ (fun _ => rfl)
    have hdw := hj.downed (Mod.refl nil w) (fun _ _ _ h => h)
    refine HPOST.out _ _ ⟨by rw [hs], ?_, hm.mono (fun k _ e => .inl (e ▸ hjF.1))⟩
    rw [hs]
    exact IsJD.pack (S0 := S) (C0 := C) (w0 := w) w.heap.size hdw (hd.mod hm (fun k _ h e => h3 k (e ▸ hj.own) h)) (h.tab.mod hm (fun e => hjt e.symm)) (Nat.le_refl _) h3 h4 htl hm.size (fun k _ h => .inl h) (fun k _ h => .inl h))
  have HSAME : Hid (∀ r W, s.compacts d b = (s, d, r) → Mod (· = tb) w W → IsTab W tb → Post (.returned (.int .i64 r)) W) := Lib.hid (fun r W hs hm ht => by
    refine HPOST.out _ _ ⟨by rw [hs], ?_, hm.mono (fun k _ e => .inr e)⟩
    rw [hs]
    exact IsJD.pack (S0 := S) (C0 := C) (w0 := w) w.heap.size (hj.mod hm (fun k _ h e => (h4 k (.inl h)).2.1 e)) (hd.mod hm (fun k _ h e => (h4 k (.inr h)).2.1 e)) ht (Nat.le_refl _) h3 h4 htl hm.size (fun k _ h => .inl h) (fun k _ h => .inl h))
  clear hj hd hrow hT hbl h3 h4 hjF hdF hlF hmF hl hp hr
  cases hsd : s.down with
  | true =>
    rw [hsd] at c2
    have HE := Lib.hid (HDOWN.out (by rw [hsd]; rfl))
    clear hb hsd h
    go_enter Tryz.func20, Tryz.ntmps20
    go_wp2_with fail
    exact HE.out
  | false =>
    cases hdd : d.down with
    | true =>
      rw [hsd] at c2
      rw [hdd] at HDN
      have HE := Lib.hid (HDOWN.out (by rw [hdd]; simp))
      clear hb hsd hdd h
      go_enter Tryz.func20, Tryz.ntmps20
      go_wp2_with fail
      refine HDN.out.mono ?_
      rintro e w' ⟨rfl, rfl⟩
      go_wp2_with fail
      exact HE.out
    | false =>
      rw [hsd] at c2
      rw [hdd] at HDN
      have hup : ¬ (s.down || d.down) = true := by rw [hsd, hdd]; decide
      have HB := Lib.hid hb
      obtain ⟨L, hL⟩ : ∃ L, s.recs.length = L := ⟨_, rfl⟩
      obtain ⟨A, hA⟩ : ∃ A, s.at_ = A := ⟨_, rfl⟩
      obtain ⟨G, hG⟩ : ∃ G, s.gen = G := ⟨_, rfl⟩
      obtain ⟨hh, hg, hla, hat⟩ := HLIM.out
      have hNN : d.lasts.length / 2 ≤ 4096 := by have := HD.out.room; omega
      obtain ⟨N, hN⟩ : ∃ N, d.lasts.length / 2 = N := ⟨_, rfl⟩
      rw [hG] at hg c4
      rw [hL] at hla c7
      rw [hA] at hla hat
      rw [hN] at hat hNN
      have hL1 : IntKind.i64.wrap ((G : Int) + 1) = (G : Int) + 1 := by rw [IntKind.wrap_i64]; omega
      obtain ⟨G1, hG1⟩ : ∃ G1, (if G < 4294967295 then G + 1 else 4294967295) = G1 := ⟨_, rfl⟩
      have hG1c : (G < 4294967295 ∧ G1 = G + 1) ∨ (G = 4294967295 ∧ G1 = 4294967295) := by
        by_cases hg5 : G < 4294967295
        · rw [if_pos hg5] at hG1; exact .inl ⟨hg5, hG1.symm⟩
        · rw [if_neg hg5] at hG1; exact .inr ⟨by omega, hG1.symm⟩
      have hmin1 : (if (4294967295 : Int) ≤ (G : Int) then (4294967295 : Int) else (G : Int) + 1) = (G1 : Int) := by
        rcases hG1c with ⟨h1, h2⟩ | ⟨h1, h2⟩
        · rw [if_neg (by omega)]; omega
        · rw [if_pos (by omega)]; omega
      have hmin2 : (if (4294967295 : Int) < (G : Int) + 1 then (4294967295 : Int) else (G : Int) + 1) = (G1 : Int) := by
        rcases hG1c with ⟨h1, h2⟩ | ⟨h1, h2⟩
        · rw [if_neg (by omega)]; omega
        · rw [if_pos (by omega)]; omega
      have hG1b : G1 ≤ 4294967295 := by omega
      have hmin3 := (min_of_if hmin2).1
      have hmin4 := (min_of_if hmin2).2
      have HG1C := Lib.hid hG1c
      clear hG1c
      have HG1M := Lib.hid hG1
      clear hG1
      have HUP := Lib.hid hup
      have HLL := Lib.hid hL
      have HA := Lib.hid hA
      have HG := Lib.hid hG
      have HN := Lib.hid hN
      clear hb hup hL hA hG hN h
      have HPUT1 : Hid (60000 < nb → ∀ W, Mod nil w W → Calls Tryz.prog 34 #[.pointer (some ⟨tb, 0, none⟩), .agg #[.int .i64 1, .int .i64 G1, .int .i64 0, .slice pb nb cb]] W fun e w' => e = .returned (.tuple #[.slice none 0 0, .int .i64 3]) ∧ Mod nil w w' ∧ IsTab w' tb) := Lib.hid (fun h4 W hm => by
        refine (framePut_long tb 1 G1 0 nb cb pb W h4).mono ?_
        rintro e w' ⟨rfl, h2⟩
        exact ⟨rfl, hm.trans h2 (fun _ _ h => h), HT.out.mod (hm.trans h2 (fun _ _ h => h)) (not_nil _)⟩)
      by_cases hbig : 60000 < nb
      · have HPB := Lib.hid (HPUT1.out hbig)
        go_enter Tryz.func20, Tryz.ntmps20
        go_wp2_with fail
        refine HDN.out.mono ?_
        rintro e w' ⟨rfl, rfl⟩
        go_upto_region 4 with (fail)
        have HK4 := Lib.hid (fun W (m : Mod (· = tb) w W) => (⟨cell_kept c0 m hjl hjt, cell_kept c4 m hjl hjt⟩ : (fun w' => w'.cell? ⟨jb, 0, none⟩ = some (.pointer (some ⟨tb, 0, none⟩)) ∧ w'.cell? ⟨jb, 4, none⟩ = some (.int .i64 G)) W))
        refine wp_region_held_drew (S := (fun w' => w'.cell? ⟨jb, 0, none⟩ = some (.pointer (some ⟨tb, 0, none⟩)) ∧ w'.cell? ⟨jb, 4, none⟩ = some (.int .i64 G))) (by kernel_rfl) (HK4.out _ (by (repeat (first | assumption | exact Mod.refl _ _ | refine Mod.drew ?_ | refine Mod.alloc ?_ _)))) (fun hHeld => ?_)
        refine tH 0 ?_
        (try simp only [Act.put, pT])
        refine tH 1 ?_
        (try simp only [Act.put, pT])
        refine tH 2 ?_
        (try simp only [Act.put, pT])
        refine tH 3 ?_
        (try simp only [Act.put, pT])
        refine tH 4 ?_
        (try simp only [Act.put, pT])
        refine tH 5 ?_
        (try simp only [Act.put, pT])
        refine tH 6 ?_
        (try simp only [Act.put, pT])
        refine tH 7 ?_
        (try simp only [Act.put, pT])
        refine tH 8 ?_
        (try simp only [Act.put, pT])
        refine tH 9 ?_
        (try simp only [Act.put, pT])
        refine tH 10 ?_
        (try simp only [Act.put, pT])
        refine tH 11 ?_
        (try simp only [Act.put, pT])
        refine wpAnyH_ready (rs := [12]) (by kernel_rfl) (by simp) ?_
        refine AllReadyH.cons (i := 12) rfl (fun K hK => ?_) AllReadyH.nil
        (try dsimp (config := { proj := false }) only [g0, g1, g2])
        go_simp
        refine (HPB.out _ ?_).mono ?_
        · (repeat (first | assumption | exact Mod.refl _ _ | refine Mod.drew ?_ | refine Mod.alloc ?_ _))
        rintro e w2 ⟨rfl, hm2, ht2⟩
        have hm2t : Mod (· = tb) w w2 := hm2.ofNil
        have e0 := cell_kept c0 hm2 hjl (not_nil _); have e4 := cell_kept c4 hm2 hjl (not_nil _); have e7 := cell_kept c7 hm2 hjl (not_nil _)
        refine hK.out _ _ (HK4.out _ (by (repeat (first | assumption | exact Mod.refl _ _ | refine Mod.drew ?_ | refine Mod.alloc ?_ _)))) (fun hHeld => ?_)
        clear hK K
        (try simp only [Act.put, pT])
        refine tH 13 ?_
        (try simp only [Act.put, pT])
        refine tH 14 ?_
        (try simp only [Act.put, pT])
        refine tH 15 ?_
        (try simp only [Act.put, pT])
        refine tH 16 ?_
        (try simp only [Act.put, pT])
        refine tH 17 ?_
        (try simp only [Act.put, pT])
        refine wpAnyH_done (by kernel_rfl) ?_ _
        have HE : Hid (Post (.returned (.int .i64 3)) w2) := Lib.hid (HSAME.out 3 w2 (by unfold JS.compacts; rw [if_neg HUP.out, if_pos (by rw [HBL.out]; exact hbig)]) hm2.ofNil ht2)
        clear hm2 hm2t ht2 e0 e4 e7 hHeld HK4
        go_wp2_with fail
        exact HE.out
      · obtain ⟨M, hM⟩ : ∃ M, sectorsF nb = M := ⟨_, rfl⟩
        have hMb : 1 ≤ M ∧ M ≤ 1000 := by rw [← hM]; unfold sectorsF; omega
        obtain ⟨hM1, hM2⟩ := hMb
        obtain ⟨Q, hQ⟩ : ∃ Q, 64 * M = Q := ⟨_, rfl⟩
        have hq : (Q : Int) / 64 = (M : Int) := by omega
        have hqw : IntKind.i64.wrap (M : Int) = (M : Int) := by rw [IntKind.wrap_i64]; omega
        obtain ⟨P, hP⟩ : ∃ P, putF 1 G1 0 b = P := ⟨_, rfl⟩
        have HPB : Hid (∀ W, Mod nil w W → Calls Tryz.prog 34 #[.pointer (some ⟨tb, 0, none⟩), .agg #[.int .i64 1, .int .i64 G1, .int .i64 0, .slice pb nb cb]] W fun e w' => ∃ g, e = .returned (.tuple #[.slice (some ⟨g, 0, none⟩) Q Q, .int .i64 0]) ∧ w.heap.size ≤ g ∧ w'.heap[g]? = some (.cells (bys P).toArray 5 (0, 0)) ∧ IsTab w' tb ∧ Mod (· = tb) w w') := Lib.hid (fun W hm => by
          refine (framePut tb 1 G1 0 nb cb pb T b W (HT.out.mod hm (not_nil _)) (HROW.out.modNil hm) (fun k hk => ⟨Nat.lt_of_lt_of_le (HTT.out k hk).1 hm.size, (HTT.out k hk).2.2⟩) (by omega) hG1b (by omega) (by omega)).mono ?_
          rintro e w' ⟨g, n, hn, rfl, h1, h2, h3, h4⟩
          have hnQ : n = Q := by rw [hn, hM, hQ]
          subst hnQ
          rw [hP] at h2
          exact ⟨g, rfl, Nat.le_trans hm.size h1, h2, h3, hm.ofNil.trans h4 (fun _ _ h => h)⟩)
        have hPl : P.length = Q := by rw [← hP, putF_length, HBL.out, hM, hQ]
        have HPL := Lib.hid hPl
        have HM := Lib.hid hM
        have HQ := Lib.hid hQ
        have HP := Lib.hid hP
        clear hM hQ hP hPl HPUT1
        go_enter Tryz.func20, Tryz.ntmps20
        go_wp2_with fail
        refine HDN.out.mono ?_
        rintro e w' ⟨rfl, rfl⟩
        go_upto_region 4 with (fail)
        have HK4 := Lib.hid (fun W (m : Mod (· = tb) w W) => (⟨cell_kept c0 m hjl hjt, cell_kept c4 m hjl hjt⟩ : (fun w' => w'.cell? ⟨jb, 0, none⟩ = some (.pointer (some ⟨tb, 0, none⟩)) ∧ w'.cell? ⟨jb, 4, none⟩ = some (.int .i64 G)) W))
        refine wp_region_held_drew (S := (fun w' => w'.cell? ⟨jb, 0, none⟩ = some (.pointer (some ⟨tb, 0, none⟩)) ∧ w'.cell? ⟨jb, 4, none⟩ = some (.int .i64 G))) (by kernel_rfl) (HK4.out _ (by (repeat (first | assumption | exact Mod.refl _ _ | refine Mod.drew ?_ | refine Mod.alloc ?_ _)))) (fun hHeld => ?_)
        refine tH 0 ?_
        (try simp only [Act.put, pT])
        refine tH 1 ?_
        (try simp only [Act.put, pT])
        refine tH 2 ?_
        (try simp only [Act.put, pT])
        refine tH 3 ?_
        (try simp only [Act.put, pT])
        refine tH 4 ?_
        (try simp only [Act.put, pT])
        refine tH 5 ?_
        (try simp only [Act.put, pT])
        refine tH 6 ?_
        (try simp only [Act.put, pT])
        refine tH 7 ?_
        (try simp only [Act.put, pT])
        refine tH 8 ?_
        (try simp only [Act.put, pT])
        refine tH 9 ?_
        (try simp only [Act.put, pT])
        refine tH 10 ?_
        (try simp only [Act.put, pT])
        refine tH 11 ?_
        (try simp only [Act.put, pT])
        refine wpAnyH_ready (rs := [12]) (by kernel_rfl) (by simp) ?_
        refine AllReadyH.cons (i := 12) rfl (fun K hK => ?_) AllReadyH.nil
        (try dsimp (config := { proj := false }) only [g0, g1, g2])
        go_simp
        refine (HPB.out _ ?_).mono ?_
        · (repeat (first | assumption | exact Mod.refl _ _ | refine Mod.drew ?_ | refine Mod.alloc ?_ _))
        rintro e w2 ⟨g, rfl, hg2, hb2, ht2, hm2⟩
        have e0 := cell_kept c0 hm2 hjl hjt; have e4 := cell_kept c4 hm2 hjl hjt; have e7 := cell_kept c7 hm2 hjl hjt
        refine hK.out _ _ (HK4.out _ (by (repeat (first | assumption | exact Mod.refl _ _ | refine Mod.drew ?_ | refine Mod.alloc ?_ _)))) (fun hHeld => ?_)
        clear hK K
        (try simp only [Act.put, pT])
        refine tH 13 ?_
        (try simp only [Act.put, pT])
        refine tH 14 ?_
        (try simp only [Act.put, pT])
        refine tH 15 ?_
        (try simp only [Act.put, pT])
        refine tH 16 ?_
        (try simp only [Act.put, pT])
        refine tH 17 ?_
        (try simp only [Act.put, pT])
        refine wpAnyH_done (by kernel_rfl) ?_ _
        have hj2 := HJ.out.mod hm2 (fun k _ h e => (H4.out k (.inl h)).2.1 e)
        have hd2 := HD.out.mod hm2 (fun k _ h e => (H4.out k (.inr h)).2.1 e)
        have HRM : Hid (Calls Tryz.prog 46 #[.pointer (some ⟨jb, 0, none⟩)] w2 fun e w' => e = .returned (.int .i64 N) ∧ w2 = w') := Lib.hid (by
          rw [← HN.out]
          obtain ⟨_, _, _, _, hb5, -, -⟩ := hj2.ex
          have f1 := cell_of hb5 1
          simp only [List.getElem?_toArray, List.getElem?_cons_zero, List.getElem?_cons_succ] at f1
          exact jSize jb db bl bm C d w2 f1 hd2)
        have HJ2 := Lib.hid hj2
        have HD2 := Lib.hid hd2
        have HT2 := Lib.hid ht2
        have HM2 := Lib.hid hm2
        have HB2 := Lib.hid hb2
        have hs2 := hm2.size
        clear hHeld HK4 hj2 hd2 ht2 hm2 hb2 c0 c1 c2 c4 c7 e0 e4 e7
        go_wp2_with fail
        refine HRM.out.mono ?_
        rintro e w3 ⟨rfl, rfl⟩
        obtain ⟨pp3, cp3, pr3, cr3, hb3, -, -⟩ := HJ2.out.ex
        have e3 := cell_of hb3 3
        have e4 := cell_of hb3 4
        simp only [List.getElem?_toArray, List.getElem?_cons_zero, List.getElem?_cons_succ] at e3 e4
        rw [HG.out] at e4
        by_cases hroom : N < M
        · have ht1 : decide ((N : Int) < (M : Int)) = true := by simp; omega
          have ht2 : (N : Int) < (M : Int) := by omega
          have HE : Hid (Post (.returned (.int .i64 12)) w2) := Lib.hid (HSAME.out 12 w2 (by unfold JS.compacts; rw [if_neg HUP.out, if_neg (by rw [HBL.out]; exact hbig), if_pos (by rw [HN.out, HBL.out, HM.out]; exact .inl hroom)]) HM2.out HT2.out)
          clear e3 hb3
          go_wp2_with fail
          exact HE.out
        · have ht1 : decide ((N : Int) < (M : Int)) = false := by simp; omega
          have ht2 : ¬ ((N : Int) < (M : Int)) := by omega
          by_cases hgm : G = 4294967295
          · have HE : Hid (Post (.returned (.int .i64 12)) w2) := Lib.hid (HSAME.out 12 w2 (by unfold JS.compacts; rw [if_neg HUP.out, if_neg (by rw [HBL.out]; exact hbig), if_pos (by rw [HG.out]; exact .inr hgm)]) HM2.out HT2.out)
            have hge : ((G : Int) == 4294967295) = true := by simp; omega
            have hge2 : decide ((G : Int) = 4294967295) = true := by simp; omega
            have hge3 : (G : Int) = 4294967295 := by omega
            clear e3 hb3
            go_wp2_with fail
            exact HE.out
          · have hge : ((G : Int) == 4294967295) = false := by simp; omega
            have hge2 : ¬ ((G : Int) = 4294967295) := by omega
            obtain ⟨H, hH⟩ : ∃ H, s.half = H := ⟨_, rfl⟩
            rw [hH] at e3 hh
            obtain ⟨H1, hH1⟩ : ∃ H1, 1 - H = H1 := ⟨_, rfl⟩
            have hsub : IntKind.i64.wrap ((1 : Int) - (H : Int)) = (H1 : Int) := by rw [IntKind.wrap_i64]; omega
            have hh1 : H1 ≤ 1 := by omega
            obtain ⟨base, hbase⟩ : ∃ base, H1 * N = base := ⟨_, rfl⟩
            obtain ⟨d1, hd1⟩ : ∃ d1, (d.lays base P M).1 = d1 := ⟨_, rfl⟩
            have hrow2 : IsRow (· = g) w2 (.slice (some ⟨g, 0, none⟩) Q Q) (bys P) := (IsRow.ofBlock (S := (· = g)) HB2.out rfl Q Q (by rw [bys_length, HPL.out]))
            have hg3 : g < w2.heap.size := Nat.lt_of_lt_of_le (heap_lt HB2.out) (Nat.le_refl _)
            have HLY : Hid (∀ W, Mod nil w2 W → Calls Tryz.prog 35 #[.pointer (some ⟨jb, 0, none⟩), .int .i64 H1, .int .i64 0, .slice (some ⟨g, 0, none⟩) Q Q] W fun e w' => ∃ C', e = .returned (.int .i64 (if (d.lays base P M).2 then 0 else 13)) ∧ IsDisk w' db bl bm C' d1 ∧ (∀ k, C' k → C k ∨ w.heap.size ≤ k) ∧ IsJ S w' jb tb db { s with down := s.down || !(d.lays base P M).2 } ∧ IsTab w' tb ∧ Mod (fun k => F k ∨ k = tb) w w' ∧ w'.cell? ⟨jb, 3, none⟩ = some (.int .i64 H) ∧ w'.cell? ⟨jb, 4, none⟩ = some (.int .i64 G)) := Lib.hid (fun W hm => by
              refine (jLays S C (· = g) jb tb db bl bm H1 0 base M s d _ Q Q P W (HJ2.out.modNil hm) (HD2.out.modNil hm) (hrow2.modNil hm) (fun k hk => by have := hm.size; have h4 := H4.out; have a1 := (h4 jb (.inl HJ2.out.own)).2.2; have a2 := (h4 db (.inr (.inl rfl))).2.2; have a3 := (h4 bl (.inr (.inr (.inl rfl)))).2.2; have a4 := (h4 bm (.inr (.inr (.inr (.inl rfl))))).2.2; have : k = g := hk; omega) H3.out HQ.out.symm hM1 hM2 hh1 (by omega) (by rw [HN.out]; exact hbase) (Nat.le_refl _) (by unfold maxLen; have := HQ.out; omega)).mono ?_
              rintro e w' ⟨C', rfl, h1, h2, h3, h4⟩
              rw [hd1] at h1
              have hm3 := HM2.out.thenNil hm
              refine ⟨C', rfl, h1, fun k hk => (h2 k hk).imp id (fun h => by have := hm3.size; omega), h3, (HT2.out.mod hm (not_nil _)).mod h4 (fun e => ?_), ?_, ?_, ?_⟩
              · rcases e with (e | e | e) | e
                · exact (H4.out db (.inr (.inl rfl))).2.1 e.symm
                · exact (H4.out bl (.inr (.inr (.inl rfl)))).2.1 e.symm
                · exact (H4.out bm (.inr (.inr (.inr (.inl rfl))))).2.1 e.symm
                · exact hjt e.symm
              · refine (hm3.mono (fun _ _ h => .inr h)).trans h4 (fun k _ e => .inl ?_)
                rcases e with (e | e | e) | e
                · exact e ▸ HF.out.2.1
                · exact e ▸ HF.out.2.2.1
                · exact e ▸ HF.out.2.2.2
                · exact e ▸ HF.out.1
              · obtain ⟨_, _, _, _, hb5, -, -⟩ := h3.ex
                have f3 := cell_of hb5 3
                simp only [List.getElem?_toArray, List.getElem?_cons_zero, List.getElem?_cons_succ, hH] at f3
                exact f3
              · obtain ⟨_, _, _, _, hb5, -, -⟩ := h3.ex
                have f8 := cell_of hb5 4
                simp only [List.getElem?_toArray, List.getElem?_cons_zero, List.getElem?_cons_succ, HG.out] at f8
                exact f8)
            have HD1 := Lib.hid hd1
            have HBS := Lib.hid hbase
            have HH := Lib.hid hH
            have HH1 := Lib.hid hH1
            clear hH1
            have hjl3 := heap_lt hb3
            clear hb3 hd1 hbase hrow2 hH hg3
            cases hok : (d.lays base P M).2 with
            | false =>
              simp only [hok, Bool.false_eq_true, if_false, if_true, Bool.not_false, Bool.not_true, Bool.or_true, Bool.or_false] at HLY
              have HOK := Lib.hid hok
              clear hok
              have hap : s.compacts d b = ({ s with down := true }, d1, 13) := by
                unfold JS.compacts
                rw [if_neg HUP.out, if_neg (by rw [HBL.out]; exact hbig), if_neg (by rw [HN.out, HG.out, HBL.out, HM.out]; exact fun h => h.elim hroom hgm), HG.out, HG1M.out, HP.out, HN.out, HH.out, HH1.out, HBL.out, HM.out, HBS.out, if_neg (by rw [HOK.out]; decide), HD1.out]
              have HAP := Lib.hid hap
              clear hap
              go_wp2_with fail
              refine (HLY.out _ (Mod.refl _ _)).mono ?_
              rintro e w5 ⟨C', rfl, hd5, hC5, hj5, ht5, hm5, f3, f8⟩
              have HE : Hid (Post (.returned (.int .i64 13)) w5) := Lib.hid (HPOST.out _ _ ⟨by rw [HAP.out], by
                rw [HAP.out]
                exact IsJD.pack (S0 := S) (C0 := C) (w0 := w) w5.heap.size hj5 hd5 ht5 hm5.size H3.out H4.out htl hm5.size (fun k _ h => .inl h) (fun k hk h => (hC5 k h).imp id (fun h => ⟨h, hk⟩)), hm5⟩)
              clear hd5 hC5 hj5 ht5 hm5 f3 f8 e3 e4
              go_wp2_with fail
              exact HE.out
            | true =>
              simp only [hok, Bool.false_eq_true, if_false, if_true, Bool.not_false, Bool.not_true, Bool.or_true, Bool.or_false] at HLY
              have HOK := Lib.hid hok
              clear hok
              have hap : s.compacts d b = ({ s with half := 1 - s.half, gen := s.gen + 1, has := true, pict := b, recs := [], at_ := M }, d1, 0) := by
                unfold JS.compacts
                rw [if_neg HUP.out, if_neg (by rw [HBL.out]; exact hbig), if_neg (by rw [HN.out, HG.out, HBL.out, HM.out]; exact fun h => h.elim hroom hgm), HG.out, HG1M.out, HP.out, HN.out, HH.out, HH1.out, HBL.out, HM.out, HBS.out, if_pos HOK.out, HD1.out]
              have HAP := Lib.hid hap
              clear hap
              go_wp2_with fail
              refine (HLY.out _ (Mod.refl _ _)).mono ?_
              rintro e w5 ⟨C', rfl, hd5, hC5, hj5, ht5, hm5, f3, f8⟩
              have hj5' : IsJ S w5 jb tb db s := by
                have e : { s with down := s.down } = s := rfl
                rw [e] at hj5
                exact hj5
              obtain ⟨pp5, cp5, pr5, cr5, hb5, hp5, hr5⟩ := hj5'.ex
              have hjl5 := heap_lt hb5
              have HB5 := Lib.hid hb5
              have HD5 := Lib.hid hd5
              have HC5 := Lib.hid hC5
              have HJ5 := Lib.hid hj5'
              have HT5 := Lib.hid ht5
              have HM5 := Lib.hid hm5
              have hs5 := hm5.size
              have HCL : Hid (∀ W, Mod nil w5 W → Calls Tryz.prog 36 #[.slice pb nb cb] W fun e w' => ∃ p6 c6, e = .returned (.slice p6 nb c6) ∧ IsVec (fun k => w5.heap.size ≤ k) w' 5 1 (.slice p6 nb c6) nb (bys b) ∧ Mod nil w5 w') := Lib.hid (fun W hm => by
                refine (bytesClone T _ b W ((HROW.out.mod HM5.out (fun k _ h e => by rcases e with e | e; exact (HTT.out k h).2.1 e; exact (HTT.out k h).2.2 e)).modNil hm) (by rw [HBL.out]; omega)).mono ?_
                rintro e w' ⟨v, rfl, hv, hm'⟩
                rw [HBL.out] at hv
                obtain ⟨p6, c6, rfl⟩ := hv.form
                exact ⟨p6, c6, rfl, hv.mono (fun k _ h => Nat.le_trans hm.size h), hm.trans hm' (fun _ _ h => h)⟩)
              have hgw : IntKind.i64.wrap ((G : Int) + 1) = ((G : Int) + 1) := by rw [IntKind.wrap_i64]; omega
              clear hb5 hp5 hr5 hd5 hC5 hj5 hj5' ht5 hm5 e3 e4
              go_wp2_with fail
              go_upto_region 13 with (fail)
              refine region_till (fun w' => w'.cell? ⟨jb, 3, none⟩ = some (.int .i64 H) ∧ w'.cell? ⟨jb, 4, none⟩ = some (.int .i64 G)) 21 (by kernel_rfl) ?_
              refine tF 0 (fun _ => ⟨f3, f8⟩) ?_
              (try simp only [Act.put, pT])
              refine tF 1 (fun _ => ⟨f3, f8⟩) ?_
              (try simp only [Act.put, pT])
              refine tF 2 (fun _ => ⟨f3, f8⟩) ?_
              (try simp only [Act.put, pT])
              refine tF 3 (fun _ => ⟨f3, f8⟩) ?_
              (try simp only [Act.put, pT])
              refine tF 4 (fun _ => ⟨f3, f8⟩) ?_
              (try simp only [Act.put, pT])
              refine tF 5 (fun _ => ⟨f3, f8⟩) ?_
              (try simp only [Act.put, pT])
              refine tF 6 (fun _ => ⟨f3, f8⟩) ?_
              (try simp only [Act.put, pT])
              refine tF 7 (fun _ => ⟨f3, f8⟩) ?_
              (try simp only [Act.put, pT])
              refine tF 8 (fun _ => ⟨f3, f8⟩) ?_
              (try simp only [Act.put, pT])
              refine tT 9 (⟨f3, f8⟩) ?_
              (try simp only [Act.put, pT])
              refine tF 10 (fun _ => ⟨f3, f8⟩) ?_
              (try simp only [Act.put, pT])
              refine tF 11 (fun _ => ⟨f3, f8⟩) ?_
              (try simp only [Act.put, pT])
              refine tF 12 (fun _ => ⟨f3, f8⟩) ?_
              (try simp only [Act.put, pT])
              refine tF 13 (fun _ => ⟨f3, f8⟩) ?_
              (try simp only [Act.put, pT])
              refine tT 14 (⟨f3, f8⟩) ?_
              (try simp only [Act.put, pT])
              refine tF 15 (fun _ => ⟨f3, f8⟩) ?_
              (try simp only [Act.put, pT])
              refine tF 16 (fun _ => ⟨f3, f8⟩) ?_
              (try simp only [Act.put, pT])
              refine tF 18 (fun _ => ⟨f3, f8⟩) ?_
              (try simp only [Act.put, pT])
              refine till_ready (rs := [17]) (by kernel_rfl) (by simp) ?_
              refine till_cons (i := 17) rfl (fun K hK => ?_) till_nil
              (try dsimp (config := { proj := false }) only [g0, g1, g2])
              go_simp
              refine (HCL.out _ ?_).mono ?_
              · (repeat (first | exact Mod.refl _ _ | refine Mod.drew ?_))
              rintro e w6 ⟨p6, c6, rfl, hv6, hm6⟩
              have k3 := cell_kept f3 hm6 hjl5 (not_nil _)
              have k4 := cell_kept f8 hm6 hjl5 (not_nil _)
              have hb6 := (hm6.block jb hjl5 (not_nil _)).trans HB5.out
              have j5 := cell_of hb6 5
              have j6 := cell_of hb6 6
              have j7 := cell_of hb6 7
              have j8 := cell_of hb6 8
              simp only [List.getElem?_toArray, List.getElem?_cons_zero, List.getElem?_cons_succ] at j5 j6 j7 j8
              have y3 := free_of hb6 3
              have y4 := free_of hb6 4
              have y5 := free_of hb6 5
              have y6 := free_of hb6 6
              have y7 := free_of hb6 7
              have y8 := free_of hb6 8
              have HB6 := Lib.hid hb6
              have HV6 := Lib.hid hv6
              have HM6 := Lib.hid hm6
              have hs56 := hm6.size
              clear hv6 hm6 hb6
              refine hK.out _ _ (fun _ => ⟨k3, k4⟩) ?_
              clear hK K
              (try simp only [Act.put, pT])
              refine till_ready (rs := [19]) (by kernel_rfl) (by simp) ?_
              refine till_cons (i := 19) rfl (fun K hK => ?_) till_nil
              (try dsimp (config := { proj := false }) only [g0, g1, g2])
              go_simp
              refine hK.out _ _ (fun _ => ⟨k3, k4⟩) ?_
              clear hK K
              (try simp only [Act.put, pT])
              refine till_ready (rs := [20]) (by kernel_rfl) (by simp) ?_
              refine till_cons (i := 20) rfl (fun K hK => ?_) till_nil
              (try dsimp (config := { proj := false }) only [g0, g1, g2])
              go_simp
              refine hK.out _ _ (fun _ => ⟨k3, k4⟩) ?_
              clear hK K
              (try simp only [Act.put, pT])
              refine till_ready (rs := [21]) (by kernel_rfl) (by simp) ?_
              refine till_cons (i := 21) rfl (fun K hK => ?_) till_nil
              (try dsimp (config := { proj := false }) only [g0, g1, g2])
              go_simp
              refine hK.out _ _ (fun h => (by simp at h)) ?_
              clear hK K
              (try simp only [Act.put, pT])
              refine till_ready (rs := [22]) (by kernel_rfl) (by simp) ?_
              refine till_cons (i := 22) rfl (fun K hK => ?_) till_nil
              (try dsimp (config := { proj := false }) only [g0, g1, g2])
              go_simp
              refine hK.out _ _ (fun h => (by simp at h)) ?_
              clear hK K
              (try simp only [Act.put, pT])
              refine till_ready (rs := [23]) (by kernel_rfl) (by simp) ?_
              refine till_cons (i := 23) rfl (fun K hK => ?_) till_nil
              (try dsimp (config := { proj := false }) only [g0, g1, g2])
              go_simp
              refine hK.out _ _ (fun h => (by simp at h)) ?_
              clear hK K
              (try simp only [Act.put, pT])
              refine till_ready (rs := [24]) (by kernel_rfl) (by simp) ?_
              refine till_cons (i := 24) rfl (fun K hK => ?_) till_nil
              (try dsimp (config := { proj := false }) only [g0, g1, g2])
              go_simp
              refine hK.out _ _ (fun h => (by simp at h)) ?_
              clear hK K
              (try simp only [Act.put, pT])
              refine till_ready (rs := [25]) (by kernel_rfl) (by simp) ?_
              refine till_cons (i := 25) rfl (fun K hK => ?_) till_nil
              (try dsimp (config := { proj := false }) only [g0, g1, g2])
              go_simp
              refine hK.out _ _ (fun h => (by simp at h)) ?_
              clear hK K
              (try simp only [Act.put, pT])
              refine till_ready (rs := [26]) (by kernel_rfl) (by simp) ?_
              refine till_cons (i := 26) rfl (fun K hK => ?_) till_nil
              (try dsimp (config := { proj := false }) only [g0, g1, g2])
              go_simp
              refine hK.out _ _ (fun h => (by simp at h)) ?_
              clear hK K
              (try simp only [Act.put, pT])
              refine till_ready (rs := [27]) (by kernel_rfl) (by simp) ?_
              refine till_cons (i := 27) rfl (fun K hK => ?_) till_nil
              (try dsimp (config := { proj := false }) only [g0, g1, g2])
              go_simp
              refine hK.out _ _ (fun h => (by simp at h)) ?_
              clear hK K
              (try simp only [Act.put, pT])
              refine till_ready (rs := [28]) (by kernel_rfl) (by simp) ?_
              refine till_cons (i := 28) rfl (fun K hK => ?_) till_nil
              (try dsimp (config := { proj := false }) only [g0, g1, g2])
              go_simp
              refine hK.out _ _ (fun h => (by simp at h)) ?_
              clear hK K
              (try simp only [Act.put, pT])
              refine till_ready (rs := [29]) (by kernel_rfl) (by simp) ?_
              refine till_cons (i := 29) rfl (fun K hK => ?_) till_nil
              (try dsimp (config := { proj := false }) only [g0, g1, g2])
              go_simp
              refine hK.out _ _ (fun h => (by simp at h)) ?_
              clear hK K
              (try simp only [Act.put, pT])
              refine till_ready (rs := [30]) (by kernel_rfl) (by simp) ?_
              refine till_cons (i := 30) rfl (fun K hK => ?_) till_nil
              (try dsimp (config := { proj := false }) only [g0, g1, g2])
              go_simp
              refine hK.out _ _ (fun h => (by simp at h)) ?_
              clear hK K
              (try simp only [Act.put, pT])
              refine till_ready (rs := [31]) (by kernel_rfl) (by simp) ?_
              refine till_cons (i := 31) rfl (fun K hK => ?_) till_nil
              (try dsimp (config := { proj := false }) only [g0, g1, g2])
              go_simp
              refine hK.out _ _ (fun h => (by simp at h)) ?_
              clear hK K
              (try simp only [Act.put, pT])
              refine till_ready (rs := [32]) (by kernel_rfl) (by simp) ?_
              refine till_cons (i := 32) rfl (fun K hK => ?_) till_nil
              (try dsimp (config := { proj := false }) only [g0, g1, g2])
              go_simp
              refine hK.out _ _ (fun h => (by simp at h)) ?_
              clear hK K
              (try simp only [Act.put, pT])
              refine till_ready (rs := [33]) (by kernel_rfl) (by simp) ?_
              refine till_cons (i := 33) rfl (fun K hK => ?_) till_nil
              (try dsimp (config := { proj := false }) only [g0, g1, g2])
              go_simp
              refine hK.out _ _ (fun h => (by simp at h)) ?_
              clear hK K
              (try simp only [Act.put, pT])
              refine till_ready (rs := [34]) (by kernel_rfl) (by simp) ?_
              refine till_cons (i := 34) rfl (fun K hK => ?_) till_nil
              (try dsimp (config := { proj := false }) only [g0, g1, g2])
              go_simp
              refine hK.out _ _ (fun h => (by simp at h)) ?_
              clear hK K
              (try simp only [Act.put, pT])
              refine till_ready (rs := [35]) (by kernel_rfl) (by simp) ?_
              refine till_cons (i := 35) rfl (fun K hK => ?_) till_nil
              (try dsimp (config := { proj := false }) only [g0, g1, g2])
              go_simp
              refine hK.out _ _ (fun h => (by simp at h)) ?_
              clear hK K
              (try simp only [Act.put, pT])
              refine till_ready (rs := [36]) (by kernel_rfl) (by simp) ?_
              refine till_cons (i := 36) rfl (fun K hK => ?_) till_nil
              (try dsimp (config := { proj := false }) only [g0, g1, g2])
              go_simp
              refine hK.out _ _ (fun h => (by simp at h)) ?_
              clear hK K
              (try simp only [Act.put, pT])
              refine till_done (by kernel_rfl) ?_ _
              have g1 := heap_setCell_same HB6.out (.int .i64 H1) (off := 3)
              simp only [List.setIfInBounds_toArray, List.set_cons_succ, List.set_cons_zero] at g1
              have g2 := heap_setCell_same g1 (.int .i64 ((G : Int) + 1)) (off := 4)
              simp only [List.setIfInBounds_toArray, List.set_cons_succ, List.set_cons_zero] at g2
              have g3 := heap_setCell_same g2 (.bool true) (off := 5)
              simp only [List.setIfInBounds_toArray, List.set_cons_succ, List.set_cons_zero] at g3
              have g4 := heap_setCell_same g3 (.slice p6 nb c6) (off := 6)
              simp only [List.setIfInBounds_toArray, List.set_cons_succ, List.set_cons_zero] at g4
              have g5 := heap_setCell_same g4 (.slice none 0 0) (off := 7)
              simp only [List.setIfInBounds_toArray, List.set_cons_succ, List.set_cons_zero] at g5
              have g6 := heap_setCell_same g5 (.int .i64 M) (off := 8)
              simp only [List.setIfInBounds_toArray, List.set_cons_succ, List.set_cons_zero] at g6
              have hmj : Mod (· = jb) w6 ((((((w6.setCell ⟨jb, 3, none⟩ (.int .i64 H1)).setCell ⟨jb, 4, none⟩ (.int .i64 ((G : Int) + 1))).setCell ⟨jb, 5, none⟩ (.bool true)).setCell ⟨jb, 6, none⟩ (.slice p6 nb c6)).setCell ⟨jb, 7, none⟩ (.slice none 0 0)).setCell ⟨jb, 8, none⟩ (.int .i64 M)) := (((((((Mod.refl (· = jb) w6).setCell _ _ (fun _ => rfl)).setCell _ _ (fun _ => rfl)).setCell _ _ (fun _ => rfl)).setCell _ _ (fun _ => rfl)).setCell _ _ (fun _ => rfl)).setCell _ _ (fun _ => rfl))
              clear g1 g2 g3 g4 g5
              generalize ((((((w6.setCell ⟨jb, 3, none⟩ (.int .i64 H1)).setCell ⟨jb, 4, none⟩ (.int .i64 ((G : Int) + 1))).setCell ⟨jb, 5, none⟩ (.bool true)).setCell ⟨jb, 6, none⟩ (.slice p6 nb c6)).setCell ⟨jb, 7, none⟩ (.slice none 0 0)).setCell ⟨jb, 8, none⟩ (.int .i64 M)) = w7 at g6 hmj ⊢
              have hE : Post (.returned (.int .i64 0)) w7 := by
                have hm5j : Mod (· = jb) w5 w7 := HM6.out.ofNil.trans hmj (fun _ _ h => h)
                have hmall : Mod (fun k => F k ∨ k = tb) w w7 := HM5.out.trans hm5j (fun k _ e => .inl (e ▸ HF.out.1))
                have hjw : jb < w.heap.size := (H4.out jb (.inl HJ5.out.own)).2.2
                refine HPOST.out _ _ ⟨by rw [HAP.out], ?_, hmall⟩
                rw [HAP.out]
                refine IsJD.pack (S := fun k => S k ∨ w5.heap.size ≤ k) (C := fun k => C' k ∧ k < w5.heap.size) (S0 := S) (C0 := C) (w0 := w) w5.heap.size ⟨.inl HJ5.out.own, p6, c6, none, 0, ?_, ?_, ?_⟩ (HD5.out.here.mod hm5j (fun k hk h e => ?_)) (HT5.out.mod hm5j (fun e => hjt e.symm)) hs5 H3.out H4.out htl hmall.size (fun k _ h => h) (fun k hk h => (HC5.out k h.1).imp id (fun h' => ⟨h', h.2⟩))
                · simp only [HH.out, HH1.out, HG.out, List.length_nil, HBL.out]
                  exact g6
                · simp only [HBL.out]
                  exact (HV6.out.row.mod hmj (fun k _ h e => by omega)).mono (fun k _ h => ⟨.inr h, by omega, fun ho => by simp [Value.ownBlock] at ho⟩)
                · exact IsTexts.nil _ _
                · subst e
                  rcases h with h | h | h | h
                  · exact H3.out k HJ5.out.own (.inl h)
                  · exact H3.out k HJ5.out.own (.inr (.inl h))
                  · exact H3.out k HJ5.out.own (.inr (.inr (.inl h)))
                  · rcases HC5.out k h.1 with h' | h'
                    · exact H3.out k HJ5.out.own (.inr (.inr (.inr h')))
                    · omega
              have HE := Lib.hid hE
              clear hE g6 hmj
              go_wp2_with fail
              exact HE.out
end Go.Proofs.YtjilbnpehgigjaaGreat

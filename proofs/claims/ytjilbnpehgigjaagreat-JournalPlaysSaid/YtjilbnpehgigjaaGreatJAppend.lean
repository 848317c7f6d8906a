/- Package journal: Append. (Printed by wip/tools/gen_jappend.py.) -/
import Derived.Test.YtjilbnpehgigjaaGreatShort
import Derived.Test.YtjilbnpehgigjaaGreatJOps
namespace Go.Proofs.YtjilbnpehgigjaaGreat
open Go.RowKit
set_option maxRecDepth 100000 in
set_option maxHeartbeats 16000000 in
theorem jAppend (F T : Nat → Prop) (jb tb db bl bm : Nat) (s : JS) (d : DS) (pb : Option Addr) (nb cb : Nat) (b : List UInt8) (w : World) (h : IsJD F w jb tb db bl bm s d) (hl : s.Lim (d.lasts.length / 2)) (hrow : IsRow T w (.slice pb nb cb) (bys b))
    (hT : ∀ k, T k → k < w.heap.size ∧ ¬ F k ∧ k ≠ tb) (hcap : nb ≤ cb) :
    Calls Tryz.prog 9 #[.pointer (some ⟨jb, 0, none⟩), .slice pb nb cb] w fun e w' => e = .returned (.int .i64 (s.appends d b).2.2) ∧ IsJD (fun k => F k ∨ w.heap.size ≤ k) w' jb tb db bl bm (s.appends d b).1 (s.appends d b).2.1 ∧ Mod (fun k => F k ∨ k = tb) w w' := by
  refine (?_ : ∀ Post : Ending → World → Prop, Hid (∀ e w', (e = .returned (.int .i64 (s.appends d b).2.2) ∧ IsJD (fun k => F k ∨ w.heap.size ≤ k) w' jb tb db bl bm (s.appends d b).1 (s.appends d b).2.1 ∧ Mod (fun k => F k ∨ k = tb) w w') → Post e w') → Calls Tryz.prog 9 #[.pointer (some ⟨jb, 0, none⟩), .slice pb nb cb] w Post) _ (Lib.hid (fun _ _ h => h))
  intro Post HPOST
  obtain ⟨S, C, hj, hd, h3, h4⟩ := h.ex
  have hbl : b.length = nb := by
    obtain ⟨_, _, h, _⟩ := hrow
    simp only [Value.slice.injEq, bys_length] at h
    exact h.2.1.symm
  have htl := h.tab.lt
  have HJ := Lib.hid hj
  have HD := Lib.hid hd
  have HT := Lib.hid h.tab
  have H3 := Lib.hid h3
  have H4 := Lib.hid h4
  have HROW := Lib.hid hrow
  have HTT := Lib.hid hT
  have HBL := Lib.hid hbl
  have hjF := h4 jb (.inl hj.own)
  have hdF := h4 db (.inr (.inl rfl))
  have hlF := h4 bl (.inr (.inr (.inl rfl)))
  have hmF := h4 bm (.inr (.inr (.inr (.inl rfl))))
  have HF : Hid (F jb ∧ F db ∧ F bl ∧ F bm) := Lib.hid ⟨hjF.1, hdF.1, hlF.1, hmF.1⟩
  have hjt := hjF.2.1
  have hj3 : ¬ (jb = db ∨ jb = bl ∨ jb = bm) := fun e => h3 jb hj.own (by rcases e with e | e | e; exact .inl e; exact .inr (.inl e); exact .inr (.inr (.inl e)))
  obtain ⟨pp, cp, pr, cr, hb, hp, hr⟩ := hj.ex
  have c0 := cell_of hb 0
  have c1 := cell_of hb 1
  have c2 := cell_of hb 2
  have c4 := cell_of hb 4
  have c7 := cell_of hb 7
  have z2 := free_of hb 2
  simp only [List.getElem?_toArray, List.getElem?_cons_zero, List.getElem?_cons_succ] at c0 c1 c2 c4 c7
  have hjl := heap_lt hb
  have HDN : Hid (Calls Tryz.prog 27 #[.pointer (some ⟨db, 0, none⟩)] w fun e w' => e = .returned (.bool d.down) ∧ w = w') := Lib.hid (diskDown db bl bm C d w hd)
  have HLIM := Lib.hid hl
  have HDOWN : Hid ((s.down || d.down) = true → Post (.returned (.int .i64 13)) (w.setCell ⟨jb, 2, none⟩ (.bool true))) := Lib.hid (fun hx => by
    have hs : s.appends d b = ({ s with down := true }, d, 13) := by unfold JS.appends; exact if_pos hx
    have hm : Mod (· = jb) w (w.setCell ⟨jb, 2, none⟩ (.bool true)) := (Mod.refl _ _).setCell _ _ (fun _ => rfl)
    have hdw := hj.downed (Mod.refl nil w) (fun _ _ _ h => h)
    refine HPOST.out _ _ ⟨by rw [hs], ?_, hm.mono (fun k _ e => .inl (e ▸ hjF.1))⟩
    rw [hs]
    exact IsJD.pack (S0 := S) (C0 := C) (w0 := w) w.heap.size hdw (hd.mod hm (fun k _ h e => h3 k (e ▸ hj.own) h)) (h.tab.mod hm (fun e => hjt e.symm)) (Nat.le_refl _) h3 h4 htl hm.size (fun k _ h => .inl h) (fun k _ h => .inl h))
  have HSAME : Hid (∀ r W, s.appends d b = (s, d, r) → Mod (· = tb) w W → IsTab W tb → Post (.returned (.int .i64 r)) W) := Lib.hid (fun r W hs hm ht => by
    refine HPOST.out _ _ ⟨by rw [hs], ?_, hm.mono (fun k _ e => .inr e)⟩
    rw [hs]
    exact IsJD.pack (S0 := S) (C0 := C) (w0 := w) w.heap.size (hj.mod hm (fun k _ h e => (h4 k (.inl h)).2.1 e)) (hd.mod hm (fun k _ h e => (h4 k (.inr h)).2.1 e)) ht (Nat.le_refl _) h3 h4 htl hm.size (fun k _ h => .inl h) (fun k _ h => .inl h))
  clear hj hd hrow hT hbl h3 h4 hjF hdF hlF hmF hl hp hr
  cases hsd : s.down with
  | true =>
    rw [hsd] at c2
    have HE := Lib.hid (HDOWN.out (by rw [hsd]; rfl))
    clear hb hsd h
    go_enter Tryz.func9, Tryz.ntmps9
    go_wp2_with fail
    exact HE.out
  | false =>
    cases hdd : d.down with
    | true =>
      rw [hsd] at c2
      rw [hdd] at HDN
      have HE := Lib.hid (HDOWN.out (by rw [hdd]; simp))
      clear hb hsd hdd h
      go_enter Tryz.func9, Tryz.ntmps9
      go_wp2_with fail
      refine HDN.out.mono ?_
      rintro e w' ⟨rfl, rfl⟩
      go_wp2_with fail
      exact HE.out
    | false =>
      rw [hsd] at c2
      rw [hdd] at HDN
      have hup : ¬ (s.down || d.down) = true := by rw [hsd, hdd]; decide
      have HB := Lib.hid hb
      obtain ⟨L, hL⟩ : ∃ L, s.recs.length = L := ⟨_, rfl⟩
      obtain ⟨A, hA⟩ : ∃ A, s.at_ = A := ⟨_, rfl⟩
      obtain ⟨G, hG⟩ : ∃ G, s.gen = G := ⟨_, rfl⟩
      obtain ⟨hh, hg, hla, hat⟩ := HLIM.out
      have hNN : d.lasts.length / 2 ≤ 4096 := by have := HD.out.room; omega
      obtain ⟨N, hN⟩ : ∃ N, d.lasts.length / 2 = N := ⟨_, rfl⟩
      rw [hG] at hg c4
      rw [hL] at hla c7
      rw [hA] at hla hat
      rw [hN] at hat hNN
      have hL1 : IntKind.i64.wrap ((L : Int) + 1) = (L : Int) + 1 := by rw [IntKind.wrap_i64]; omega
      have HUP := Lib.hid hup
      have HLL := Lib.hid hL
      have HA := Lib.hid hA
      have HG := Lib.hid hG
      have HN := Lib.hid hN
      clear hb hup hL hA hG hN h
      have HPUT1 : Hid (60000 < nb → ∀ W, Mod nil w W → Calls Tryz.prog 34 #[.pointer (some ⟨tb, 0, none⟩), .agg #[.int .i64 2, .int .i64 G, .int .i64 ((L : Int) + 1), .slice pb nb cb]] W fun e w' => e = .returned (.tuple #[.slice none 0 0, .int .i64 3]) ∧ Mod nil w w' ∧ IsTab w' tb) := Lib.hid (fun h4 W hm => by
        refine (framePut_long tb 2 G (L + 1) nb cb pb W h4).mono ?_
        rintro e w' ⟨rfl, h2⟩
        exact ⟨rfl, hm.trans h2 (fun _ _ h => h), HT.out.mod (hm.trans h2 (fun _ _ h => h)) (not_nil _)⟩)
      by_cases hbig : 60000 < nb
      · have HPB := Lib.hid (HPUT1.out hbig)
        go_enter Tryz.func9, Tryz.ntmps9
        go_wp2_with fail
        refine HDN.out.mono ?_
        rintro e w' ⟨rfl, rfl⟩
        go_upto_region 4 with (fail)
        go_region_held3 (fun w' => w'.cell? ⟨jb, 0, none⟩ = some (.pointer (some ⟨tb, 0, none⟩)) ∧ w'.cell? ⟨jb, 4, none⟩ = some (.int .i64 G) ∧ w'.cell? ⟨jb, 7, none⟩ = some (.slice pr L cr)) (first | exact ⟨e0, e4, e7⟩ | exact ⟨c0, c4, c7⟩) (first
          | (go_at_call 34; refine (HPB.out _ ?_).mono ?_; (repeat (first | exact Mod.refl _ _ | refine Mod.drew ?_)); rintro e w2 ⟨rfl, hm2, ht2⟩; have e0 := cell_kept c0 hm2 hjl (not_nil _); have e4 := cell_kept c4 hm2 hjl (not_nil _); have e7 := cell_kept c7 hm2 hjl (not_nil _)))
        have HE : Hid (Post (.returned (.int .i64 3)) w2) := Lib.hid (HSAME.out 3 w2 (by unfold JS.appends; rw [if_neg HUP.out, if_pos (by rw [HBL.out]; exact hbig)]) hm2.ofNil ht2)
        clear hm2 ht2 e0 e4 e7
        go_wp2_with fail
        exact HE.out
      · obtain ⟨M, hM⟩ : ∃ M, sectorsF nb = M := ⟨_, rfl⟩
        have hMb : 1 ≤ M ∧ M ≤ 1000 := by rw [← hM]; unfold sectorsF; omega
        obtain ⟨hM1, hM2⟩ := hMb
        obtain ⟨Q, hQ⟩ : ∃ Q, 64 * M = Q := ⟨_, rfl⟩
        have hq : (Q : Int) / 64 = (M : Int) := by omega
        have hqw : IntKind.i64.wrap (M : Int) = (M : Int) := by rw [IntKind.wrap_i64]; omega
        obtain ⟨P, hP⟩ : ∃ P, putF 2 G (L + 1) b = P := ⟨_, rfl⟩
        have HPB : Hid (∀ W, Mod nil w W → Calls Tryz.prog 34 #[.pointer (some ⟨tb, 0, none⟩), .agg #[.int .i64 2, .int .i64 G, .int .i64 ((L : Int) + 1), .slice pb nb cb]] W fun e w' => ∃ g, e = .returned (.tuple #[.slice (some ⟨g, 0, none⟩) Q Q, .int .i64 0]) ∧ w.heap.size ≤ g ∧ w'.heap[g]? = some (.cells (bys P).toArray 5 (0, 0)) ∧ IsTab w' tb ∧ Mod (· = tb) w w') := Lib.hid (fun W hm => by
          refine (framePut tb 2 G (L + 1) nb cb pb T b W (HT.out.mod hm (not_nil _)) (HROW.out.modNil hm) (fun k hk => ⟨Nat.lt_of_lt_of_le (HTT.out k hk).1 hm.size, (HTT.out k hk).2.2⟩) (by omega) hg (by omega) (by omega)).mono ?_
          rintro e w' ⟨g, n, hn, rfl, h1, h2, h3, h4⟩
          have hnQ : n = Q := by rw [hn, hM, hQ]
          subst hnQ
          rw [hP] at h2
          exact ⟨g, rfl, Nat.le_trans hm.size h1, h2, h3, hm.ofNil.trans h4 (fun _ _ h => h)⟩)
        have hPl : P.length = Q := by rw [← hP, putF_length, HBL.out, hM, hQ]
        have HPL := Lib.hid hPl
        have HM := Lib.hid hM
        have HQ := Lib.hid hQ
        have HP := Lib.hid hP
        clear hM hQ hP hPl HPUT1
        go_enter Tryz.func9, Tryz.ntmps9
        go_wp2_with fail
        refine HDN.out.mono ?_
        rintro e w' ⟨rfl, rfl⟩
        go_upto_region 4 with (fail)
        go_region_held3 (fun w' => w'.cell? ⟨jb, 0, none⟩ = some (.pointer (some ⟨tb, 0, none⟩)) ∧ w'.cell? ⟨jb, 4, none⟩ = some (.int .i64 G) ∧ w'.cell? ⟨jb, 7, none⟩ = some (.slice pr L cr)) (first | exact ⟨e0, e4, e7⟩ | exact ⟨c0, c4, c7⟩) (first
          | (go_at_call 34; refine (HPB.out _ ?_).mono ?_; (repeat (first | exact Mod.refl _ _ | refine Mod.drew ?_)); rintro e w2 ⟨g, rfl, hg2, hb2, ht2, hm2⟩; have e0 := cell_kept c0 hm2 hjl hjt; have e4 := cell_kept c4 hm2 hjl hjt; have e7 := cell_kept c7 hm2 hjl hjt))
        have hj2 := HJ.out.mod hm2 (fun k _ h e => (H4.out k (.inl h)).2.1 e)
        have hd2 := HD.out.mod hm2 (fun k _ h e => (H4.out k (.inr h)).2.1 e)
        have HRM : Hid (Calls Tryz.prog 30 #[.pointer (some ⟨jb, 0, none⟩)] w2 fun e w' => e = .returned (.int .i64 ((N : Int) - (A : Int))) ∧ Mod nil w2 w') := Lib.hid (by
          refine (jRoom S jb tb db bl bm C d s w2 hj2 hd2 (by have := HA.out; omega)).mono ?_
          rintro e w' ⟨rfl, n, rfl⟩
          exact ⟨by rw [HN.out, HA.out], (Mod.refl _ _).drewN n⟩)
        have HJ2 := Lib.hid hj2
        have HD2 := Lib.hid hd2
        have HT2 := Lib.hid ht2
        have HM2 := Lib.hid hm2
        have HB2 := Lib.hid hb2
        have hs2 := hm2.size
        clear hj2 hd2 ht2 hm2 hb2 c0 c1 c2 c4 c7 e0 e4 e7
        go_wp2_with fail
        refine HRM.out.mono ?_
        rintro e w3 ⟨rfl, hm3⟩
        have HM3 := Lib.hid hm3
        have hs3 := hm3.size
        clear hm3
        by_cases hroom : N < A + M
        · have ht1 : decide ((N : Int) - (A : Int) < (M : Int)) = true := by simp; omega
          have ht2 : (N : Int) - (A : Int) < (M : Int) := by omega
          have HE : Hid (Post (.returned (.int .i64 12)) w3) := Lib.hid (HSAME.out 12 w3 (by unfold JS.appends; rw [if_neg HUP.out, if_neg (by rw [HBL.out]; exact hbig), if_pos (by rw [HN.out, HA.out, HBL.out, HM.out]; exact hroom)]) (HM2.out.thenNil HM3.out) (HT2.out.mod HM3.out (not_nil _)))
          go_wp2_with fail
          exact HE.out
        · have ht1 : decide ((N : Int) - (A : Int) < (M : Int)) = false := by simp; omega
          have ht2 : ¬ ((N : Int) - (A : Int) < (M : Int)) := by omega
          obtain ⟨pp3, cp3, pr3, cr3, hb3, -, -⟩ := (HJ2.out.modNil HM3.out).ex
          have e3 := cell_of hb3 3
          have e8 := cell_of hb3 8
          simp only [List.getElem?_toArray, List.getElem?_cons_zero, List.getElem?_cons_succ] at e3 e8
          rw [HA.out] at e8
          obtain ⟨H, hH⟩ : ∃ H, s.half = H := ⟨_, rfl⟩
          rw [hH] at e3 hh
          obtain ⟨base, hbase⟩ : ∃ base, H * N + A = base := ⟨_, rfl⟩
          obtain ⟨d1, hd1⟩ : ∃ d1, (d.lays base P M).1 = d1 := ⟨_, rfl⟩
          have hrow3 : IsRow (· = g) w3 (.slice (some ⟨g, 0, none⟩) Q Q) (bys P) := (IsRow.ofBlock (S := (· = g)) HB2.out rfl Q Q (by rw [bys_length, HPL.out])).modNil HM3.out
          have hg3 : g < w3.heap.size := Nat.lt_of_lt_of_le (heap_lt HB2.out) hs3
          have HLY : Hid (∀ W, Mod nil w3 W → Calls Tryz.prog 35 #[.pointer (some ⟨jb, 0, none⟩), .int .i64 H, .int .i64 A, .slice (some ⟨g, 0, none⟩) Q Q] W fun e w' => ∃ C', e = .returned (.int .i64 (if (d.lays base P M).2 then 0 else 13)) ∧ IsDisk w' db bl bm C' d1 ∧ (∀ k, C' k → C k ∨ w.heap.size ≤ k) ∧ IsJ S w' jb tb db { s with down := s.down || !(d.lays base P M).2 } ∧ IsTab w' tb ∧ Mod (fun k => F k ∨ k = tb) w w' ∧ w'.cell? ⟨jb, 3, none⟩ = some (.int .i64 H) ∧ w'.cell? ⟨jb, 8, none⟩ = some (.int .i64 A)) := Lib.hid (fun W hm => by
            refine (jLays S C (· = g) jb tb db bl bm H A base M s d _ Q Q P W ((HJ2.out.modNil HM3.out).modNil hm) ((HD2.out.modNil HM3.out).modNil hm) (hrow3.modNil hm) (fun k hk => by have := hm.size; have h4 := H4.out; have a1 := (h4 jb (.inl HJ2.out.own)).2.2; have a2 := (h4 db (.inr (.inl rfl))).2.2; have a3 := (h4 bl (.inr (.inr (.inl rfl)))).2.2; have a4 := (h4 bm (.inr (.inr (.inr (.inl rfl))))).2.2; have : k = g := hk; omega) H3.out HQ.out.symm hM1 hM2 hh (by omega) (by rw [HN.out]; exact hbase) (Nat.le_refl _) (by unfold maxLen; have := HQ.out; omega)).mono ?_
            rintro e w' ⟨C', rfl, h1, h2, h3, h4⟩
            rw [hd1] at h1
            have hm3 := (HM2.out.thenNil HM3.out).thenNil hm
            refine ⟨C', rfl, h1, fun k hk => (h2 k hk).imp id (fun h => by have := hm3.size; omega), h3, ((HT2.out.mod HM3.out (not_nil _)).mod hm (not_nil _)).mod h4 (fun e => ?_), ?_, ?_, ?_⟩
            · rcases e with (e | e | e) | e
              · exact (H4.out db (.inr (.inl rfl))).2.1 e.symm
              · exact (H4.out bl (.inr (.inr (.inl rfl)))).2.1 e.symm
              · exact (H4.out bm (.inr (.inr (.inr (.inl rfl))))).2.1 e.symm
              · exact hjt e.symm
            · refine (hm3.mono (fun _ _ h => .inr h)).trans h4 (fun k _ e => .inl ?_)
              rcases e with (e | e | e) | e
              · exact e ▸ HF.out.2.1
              · exact e ▸ HF.out.2.2.1
              · exact e ▸ HF.out.2.2.2
              · exact e ▸ HF.out.1
            · obtain ⟨_, _, _, _, hb5, -, -⟩ := h3.ex
              have f3 := cell_of hb5 3
              simp only [List.getElem?_toArray, List.getElem?_cons_zero, List.getElem?_cons_succ, hH] at f3
              exact f3
            · obtain ⟨_, _, _, _, hb5, -, -⟩ := h3.ex
              have f8 := cell_of hb5 8
              simp only [List.getElem?_toArray, List.getElem?_cons_zero, List.getElem?_cons_succ, HA.out] at f8
              exact f8)
          have HD1 := Lib.hid hd1
          have HBS := Lib.hid hbase
          have HH := Lib.hid hH
          have hjl3 := heap_lt hb3
          clear hb3 hd1 hbase hrow3 hH hg3
          cases hok : (d.lays base P M).2 with
          | false =>
            simp only [hok, Bool.false_eq_true, if_false, if_true, Bool.not_false, Bool.not_true, Bool.or_true, Bool.or_false] at HLY
            have HOK := Lib.hid hok
            clear hok
            have hap : s.appends d b = ({ s with down := true }, d1, 13) := by
              unfold JS.appends
              rw [if_neg HUP.out, if_neg (by rw [HBL.out]; exact hbig), if_neg (by rw [HN.out, HA.out, HBL.out, HM.out]; exact hroom), HG.out, HLL.out, HP.out, HN.out, HA.out, HH.out, HBL.out, HM.out, HBS.out, if_neg (by rw [HOK.out]; decide), HD1.out]
            have HAP := Lib.hid hap
            clear hap
            go_upto_region 10 with (fail)
            go_region_held3 (fun w' => w'.cell? ⟨jb, 3, none⟩ = some (.int .i64 H) ∧ w'.cell? ⟨jb, 8, none⟩ = some (.int .i64 A)) (first | exact ⟨f3, f8⟩ | exact ⟨e3, e8⟩) (first
              | (go_at_call 35; refine (HLY.out _ ?_).mono ?_; (repeat (first | exact Mod.refl _ _ | refine Mod.drew ?_)); rintro e w5 ⟨C', rfl, hd5, hC5, hj5, ht5, hm5, f3, f8⟩))
            have HE : Hid (Post (.returned (.int .i64 13)) w5) := Lib.hid (HPOST.out _ _ ⟨by rw [HAP.out], by
              rw [HAP.out]
              exact IsJD.pack (S0 := S) (C0 := C) (w0 := w) w5.heap.size hj5 hd5 ht5 hm5.size H3.out H4.out htl hm5.size (fun k _ h => .inl h) (fun k hk h => (hC5 k h).imp id (fun h => ⟨h, hk⟩)), hm5⟩)
            clear hd5 hC5 hj5 ht5 hm5 f3 f8 e3 e8
            go_wp2_with fail
            exact HE.out
          | true =>
            simp only [hok, Bool.false_eq_true, if_false, if_true, Bool.not_false, Bool.not_true, Bool.or_true, Bool.or_false] at HLY
            have HOK := Lib.hid hok
            clear hok
            have hap : s.appends d b = ({ s with recs := s.recs ++ [b], at_ := s.at_ + M }, d1, 0) := by
              unfold JS.appends
              rw [if_neg HUP.out, if_neg (by rw [HBL.out]; exact hbig), if_neg (by rw [HN.out, HA.out, HBL.out, HM.out]; exact hroom), HG.out, HLL.out, HP.out, HN.out, HA.out, HH.out, HBL.out, HM.out, HBS.out, if_pos HOK.out, HD1.out]
            have HAP := Lib.hid hap
            clear hap
            go_upto_region 10 with (fail)
            go_region_held3 (fun w' => w'.cell? ⟨jb, 3, none⟩ = some (.int .i64 H) ∧ w'.cell? ⟨jb, 8, none⟩ = some (.int .i64 A)) (first | exact ⟨f3, f8⟩ | exact ⟨e3, e8⟩) (first
              | (go_at_call 35; refine (HLY.out _ ?_).mono ?_; (repeat (first | exact Mod.refl _ _ | refine Mod.drew ?_)); rintro e w5 ⟨C', rfl, hd5, hC5, hj5, ht5, hm5, f3, f8⟩))
            have hj5' : IsJ S w5 jb tb db s := by
              have e : { s with down := s.down } = s := rfl
              rw [e] at hj5
              exact hj5
            obtain ⟨pp5, cp5, pr5, cr5, hb5, hp5, hr5⟩ := hj5'.ex
            rw [HLL.out] at hb5 hr5 hp5
            have g7 := cell_of hb5 7
            simp only [List.getElem?_toArray, List.getElem?_cons_zero, List.getElem?_cons_succ] at g7
            have hjl5 := heap_lt hb5
            have HB5 := Lib.hid hb5
            have HRS : Hid (IsTexts (fun k => (S k ∧ k ≠ jb) ∨ w5.heap.size ≤ k) w5 (.slice pr5 L cr5) L s.recs) := Lib.hid (hr5.mono (fun k _ h => .inl h))
            have HJN : Hid (¬ (Value.slice pr5 L cr5).ownBlock = some jb) := Lib.hid (fun ho => (hr5.own ho).1.2 rfl)
            have HRO : Hid (∀ k, (Value.slice pr5 L cr5).ownBlock = some k → S k ∧ k < w5.heap.size) := Lib.hid (fun k ho => ⟨(hr5.own ho).1.1, (hr5.own ho).2⟩)
            have HP5 := Lib.hid hp5
            have HD5 := Lib.hid hd5
            have HC5 := Lib.hid hC5
            have HJ5 := Lib.hid hj5'
            have HT5 := Lib.hid ht5
            have HM5 := Lib.hid hm5
            have hs5 := hm5.size
            have HCL : Hid (∀ W, Mod nil w5 W → Calls Tryz.prog 36 #[.slice pb nb cb] W fun e w' => ∃ p6 c6, e = .returned (.slice p6 nb c6) ∧ IsVec (fun k => w5.heap.size ≤ k) w' 5 1 (.slice p6 nb c6) nb (bys b) ∧ Mod nil w5 w') := Lib.hid (fun W hm => by
              refine (bytesClone T _ b W ((HROW.out.mod HM5.out (fun k _ h e => by rcases e with e | e; exact (HTT.out k h).2.1 e; exact (HTT.out k h).2.2 e)).modNil hm) (by rw [HBL.out]; omega)).mono ?_
              rintro e w' ⟨v, rfl, hv, hm'⟩
              rw [HBL.out] at hv
              obtain ⟨p6, c6, rfl⟩ := hv.form
              exact ⟨p6, c6, rfl, hv.mono (fun k _ h => Nat.le_trans hm.size h), hm.trans hm' (fun _ _ h => h)⟩)
            clear hb5 hp5 hr5 hd5 hC5 hj5 hj5' ht5 hm5 f3 f8 e3 e8
            go_wp2_with fail
            go_upto_region 13 with (fail)
            refine region_till (fun w' => w'.cell? ⟨jb, 7, none⟩ = some (.slice pr5 L cr5)) 11 (by kernel_rfl) ?_
            refine tF 0 (fun _ => g7) ?_
            (try simp only [Act.put, pT])
            refine tF 1 (fun _ => g7) ?_
            (try simp only [Act.put, pT])
            refine tF 2 (fun _ => g7) ?_
            (try simp only [Act.put, pT])
            refine tF 3 (fun _ => g7) ?_
            (try simp only [Act.put, pT])
            refine tT 4 (g7) ?_
            (try simp only [Act.put, pT])
            refine tF 5 (fun _ => g7) ?_
            (try simp only [Act.put, pT])
            refine till_ready (rs := [6]) (by kernel_rfl) (by simp) ?_
            refine till_cons (i := 6) rfl (fun K hK => ?_) till_nil
            (try dsimp (config := { proj := false }) only [g0, g1, g2])
            go_simp
            refine (HCL.out _ ?_).mono ?_
            · (repeat (first | exact Mod.refl _ _ | refine Mod.drew ?_))
            rintro e w6 ⟨p6, c6, rfl, hv6, hm6⟩
            have f7 := cell_kept g7 hm6 hjl5 (not_nil _)
            have hjl6 := World.block_lt_of_cell? _ _ f7
            have ka7 : ∀ ob, (w6.alloc ob).cell? ⟨jb, 7, none⟩ = _ := fun ob => cell_kept f7 ((Mod.refl nil w6).alloc ob) hjl6 (not_nil _)
            obtain ⟨v8, w8, hrun8, hv8, hm8, ho8⟩ := texts_append (R := fun k => w5.heap.size ≤ k) (w := w6) 40 (HRS.out.modNil hm6) hv6.row (fun k hk => ⟨.inr hk, fun ho => by have := (HRS.out.own ho).2; have : w5.heap.size ≤ k := hk; omega⟩) rfl (by omega)
            obtain ⟨p8, c8, rfl⟩ := hv8.form
            have hno : ¬ (Value.slice pr5 L cr5).ownBlock = some jb := fun ho => HJN.out ho
            have k7 := cell_kept f7 hm8 hjl6 hno
            have hb8 := (hm8.block jb hjl6 hno).trans ((hm6.block jb hjl5 (not_nil _)).trans HB5.out)
            have z7 := free_of hb8 7
            have HV8 := Lib.hid hv8
            have HM8 := Lib.hid hm8
            have HM6 := Lib.hid hm6
            have HB8 := Lib.hid hb8
            have HO8 := Lib.hid ho8
            have hs68 := hm8.size
            have hs56 := hm6.size
            clear hv8 hm8 hb8 ho8 hv6 hm6
            refine hK.out _ _ (fun _ => f7) ?_
            clear hK K
            (try simp only [Act.put, pT])
            refine till_ready (rs := [7]) (by kernel_rfl) (by simp) ?_
            refine till_cons (i := 7) rfl (fun K hK => ?_) till_nil
            (try dsimp (config := { proj := false }) only [g0, g1, g2])
            go_simp
            refine hK.out _ _ (fun _ => ka7 _) ?_
            clear hK K
            (try simp only [Act.put, pT])
            refine till_ready (rs := [8]) (by kernel_rfl) (by simp) ?_
            refine till_cons (i := 8) rfl (fun K hK => ?_) till_nil
            (try dsimp (config := { proj := false }) only [g0, g1, g2])
            refine step_append_run rfl _ _ _ _ rfl rfl rfl hrun8 ?_
            refine hK.out _ _ (fun _ => k7) ?_
            clear hK K
            (try simp only [Act.put, pT])
            refine till_ready (rs := [9]) (by kernel_rfl) (by simp) ?_
            refine till_cons (i := 9) rfl (fun K hK => ?_) till_nil
            (try dsimp (config := { proj := false }) only [g0, g1, g2])
            go_simp
            refine hK.out _ _ (fun _ => k7) ?_
            clear hK K
            (try simp only [Act.put, pT])
            refine till_ready (rs := [10]) (by kernel_rfl) (by simp) ?_
            refine till_cons (i := 10) rfl (fun K hK => ?_) till_nil
            (try dsimp (config := { proj := false }) only [g0, g1, g2])
            go_simp
            refine hK.out _ _ (fun _ => k7) ?_
            clear hK K
            (try simp only [Act.put, pT])
            refine till_ready (rs := [11]) (by kernel_rfl) (by simp) ?_
            refine till_cons (i := 11) rfl (fun K hK => ?_) till_nil
            (try dsimp (config := { proj := false }) only [g0, g1, g2])
            go_simp
            refine hK.out _ _ (fun h => (by simp at h)) ?_
            clear hK K
            (try simp only [Act.put, pT])
            refine till_done (by kernel_rfl) ?_ _
            have g1 := heap_setCell_same HB8.out (.slice p8 (L + 1) c8) (off := 7)
            simp only [List.setIfInBounds_toArray, List.set_cons_succ, List.set_cons_zero] at g1
            have hm9 : Mod (· = jb) w8 (w8.setCell ⟨jb, 7, none⟩ (.slice p8 (L + 1) c8)) := (Mod.refl _ _).setCell _ _ (fun _ => rfl)
            generalize World.setCell w8 _ _ = w9 at g1 hm9 ⊢
            have g8 := cell_of g1 8
            have x8 := free_of g1 8
            simp only [List.getElem?_toArray, List.getElem?_cons_zero, List.getElem?_cons_succ] at g8
            rw [HA.out] at g8
            obtain ⟨AM, hAM⟩ : ∃ AM, A + M = AM := ⟨_, rfl⟩
            have hadd : IntKind.i64.wrap ((A : Int) + (M : Int)) = (AM : Int) := by rw [IntKind.wrap_i64]; omega
            have HG1 := Lib.hid g1
            have HM9 := Lib.hid hm9
            have HAM := Lib.hid hAM
            have hE : Post (.returned (.int .i64 0)) (w9.setCell ⟨jb, 8, none⟩ (.int .i64 AM)) := by
              have g2 := heap_setCell_same HG1.out (.int .i64 AM) (off := 8)
              simp only [List.setIfInBounds_toArray, List.set_cons_succ, List.set_cons_zero] at g2
              have hmj : Mod (· = jb) w8 (w9.setCell ⟨jb, 8, none⟩ (.int .i64 AM)) := HM9.out.trans ((Mod.refl (· = jb) w9).setCell _ _ (fun _ => rfl)) (fun _ _ h => h)
              have hm5j : Mod (fun k => (Value.slice pr5 L cr5).ownBlock = some k ∨ k = jb) w5 (w9.setCell ⟨jb, 8, none⟩ (.int .i64 AM)) := ((HM6.out.ofNil.trans HM8.out (fun _ _ h => h)).mono (fun _ _ h => .inl h)).trans hmj (fun _ _ h => .inr h)
              have hmall : Mod (fun k => F k ∨ k = tb) w (w9.setCell ⟨jb, 8, none⟩ (.int .i64 AM)) := HM5.out.trans hm5j (fun k _ e => by
                rcases e with e | e
                · exact .inl (H4.out k (.inl (HRO.out k e).1)).1
                · exact .inl (e ▸ HF.out.1))
              refine HPOST.out _ _ ⟨by rw [HAP.out], ?_, hmall⟩
              rw [HAP.out]
              refine IsJD.pack (S := fun k => S k ∨ w5.heap.size ≤ k) (C := fun k => C' k ∧ k < w5.heap.size) (S0 := S) (C0 := C) (w0 := w) w5.heap.size ⟨.inl HJ5.out.own, pp5, cp5, p8, c8, ?_, ?_, ?_⟩ (HD5.out.here.mod hm5j (fun k hk h e => ?_)) (HT5.out.mod hm5j (fun e => ?_)) hs5 H3.out H4.out htl hmall.size (fun k _ h => h) (fun k hk h => (HC5.out k h.1).imp id (fun h' => ⟨h', h.2⟩))
              · simp only [List.length_append, List.length_cons, List.length_nil, Nat.zero_add, HLL.out, HA.out, HAM.out]
                exact g2
              · simp only [List.length_append, List.length_cons, List.length_nil, Nat.zero_add, HLL.out]
                refine (HP5.out.here.mod hm5j (fun k hk h e => ?_)).mono (fun k hk h => ⟨.inl h.1.1, h.1.2.1, fun ho => ?_⟩)
                · rcases e with e | e
                  · exact h.1.2.2 e
                  · exact h.1.2.1 e
                · rcases HO8.out k ho with h' | h'
                  · exact h.1.2.2 h'
                  · have := h.2; have h7 : w6.heap.size ≤ k := h'; omega
              · simp only [List.length_append, List.length_cons, List.length_nil, Nat.zero_add, HLL.out]
                refine (HV8.out.mod hmj (fun k hk h e => ?_)).mono (fun k hk h => ?_)
                · subst e
                  rcases h with (h | h) | h
                  · exact h.2 rfl
                  · omega
                  · have h7 : w6.heap.size ≤ k := h; omega
                · rcases h with (h | h) | h
                  · exact ⟨.inl h.1, h.2⟩
                  · exact ⟨.inr h, by omega⟩
                  · have h7 : w6.heap.size ≤ k := h; exact ⟨.inr (by omega), by omega⟩
              · have hdc : foot db bl bm C k ∨ (w.heap.size ≤ k ∧ k < w5.heap.size) := by
                  rcases h with h | h | h | h
                  · exact .inl (.inl h)
                  · exact .inl (.inr (.inl h))
                  · exact .inl (.inr (.inr (.inl h)))
                  · rcases HC5.out k h.1 with h' | h'
                    · exact .inl (.inr (.inr (.inr h')))
                    · exact .inr ⟨h', h.2⟩
                have hSk : S k := by
                  rcases e with e | e
                  · exact (HRO.out k e).1
                  · exact e ▸ HJ5.out.own
                rcases hdc with h' | h'
                · exact H3.out k hSk h'
                · have := (H4.out k (.inl hSk)).2.2; omega
              · rcases e with e | e
                · exact (H4.out tb (.inl (HRO.out tb e).1)).2.1 rfl
                · exact hjt e.symm
            have HE := Lib.hid hE
            clear hE g1 hm9 k7 f7 ka7 g7 hrun8 z7 hAM
            go_wp2_with fail
            exact HE.out
end Go.Proofs.YtjilbnpehgigjaaGreat

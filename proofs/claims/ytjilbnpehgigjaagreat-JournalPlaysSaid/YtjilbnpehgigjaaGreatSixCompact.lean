/- cflref6: the journal: Compact. (Printed by wip/tools/gen_sixcompact.py.) -/
import Derived.Test.YtjilbnpehgigjaaGreatShort
import Derived.Test.YtjilbnpehgigjaaGreatSixAppend
namespace Go.Proofs.YtjilbnpehgigjaaGreat
open Go.RowKit
set_option maxRecDepth 100000 in
set_option maxHeartbeats 8000000 in
theorem sixCompact (F T : Nat → Prop) (jb db nb cb : Nat) (pb : Option Addr) (b : List UInt8) (s : JS) (d : DS) (w : World) (h : IsRJD F w jb db s d) (hl : s.Lim (d.lasts.length / 2)) (hrow : IsRow T w (.slice pb nb cb) (bys b)) (hT : ∀ k, T k → k < w.heap.size ∧ ¬ F k) (hcap : nb ≤ cb) (hcm : cb ≤ maxLen) :
    Calls Tryz.prog 21 #[.pointer (some ⟨jb, 0, none⟩), .slice pb nb cb] w fun e w' => e = .returned (.int .i64 (s.compacts d b).2.2) ∧ IsRJD (fun k => F k ∨ w.heap.size ≤ k) w' jb db (s.compacts d b).1 (s.compacts d b).2.1 ∧ Mod F w w' := by
  refine (?_ : ∀ Post : Ending → World → Prop, Hid (∀ e w', (e = .returned (.int .i64 (s.compacts d b).2.2) ∧ IsRJD (fun k => F k ∨ w.heap.size ≤ k) w' jb db (s.compacts d b).1 (s.compacts d b).2.1 ∧ Mod F w w') → Post e w') → Calls Tryz.prog 21 #[.pointer (some ⟨jb, 0, none⟩), .slice pb nb cb] w Post) _ (Lib.hid (fun _ _ h => h))
  intro Post HPOST
  have hbl : b.length = nb := by
    obtain ⟨_, _, h, _⟩ := hrow
    simp only [Value.slice.injEq, bys_length] at h
    exact h.2.1.symm
  have HH := Lib.hid h
  obtain ⟨S, B, hj, hd, hSB, hF⟩ := h
  obtain ⟨pp, cp, nr, pr, cr, hb1, -, -⟩ := id hj.ex
  obtain ⟨P1, P2, P3, v1, v2, v3, hda, -, -⟩ := id hd
  have c0 := cell_of hb1 0
  have c8 := cell_of hb1 8
  have z8 := free_of hb1 8
  have d4 := cell_of hda.obj 4
  simp only [List.getElem?_toArray, List.getElem?_cons_zero, List.getElem?_cons_succ] at c0 c8 d4
  have HJ := Lib.hid hj
  have HD := Lib.hid hd
  have HSB := Lib.hid hSB
  have HF := Lib.hid hF
  have HROW := Lib.hid hrow
  have HT := Lib.hid hT
  have HBL := Lib.hid hbl
  have HLIM := Lib.hid hl
  obtain ⟨sd, hsd⟩ : ∃ x, s.down = x := ⟨_, rfl⟩
  obtain ⟨dd, hdd⟩ : ∃ x, d.down = x := ⟨_, rfl⟩
  rw [hsd] at c8
  rw [hdd] at d4
  have HSD := Lib.hid hsd
  have HDD := Lib.hid hdd
  obtain ⟨gn, hgn⟩ : ∃ x, s.gen = x := ⟨_, rfl⟩
  obtain ⟨rn, hrn⟩ : ∃ x, s.recs.length = x := ⟨_, rfl⟩
  have hjl := heap_lt hb1
  have HK4 : Hid (∀ W, Mod nil w W → (fun w' => w'.cell? ⟨jb, 2, none⟩ = some (.int .i64 (gn : Int)) ∧ w'.cell? ⟨jb, 7, none⟩ = some (.int .i64 ((rn + 1 : Nat) : Int))) W) := Lib.hid (fun W m => by
    have e := m.keep hb1
    rw [hgn, hrn] at e
    exact ⟨cell_of e 2, cell_of e 7⟩)
  have HGN := Lib.hid hgn
  have HRN := Lib.hid hrn
  have HBAD : Hid (s.down = true ∨ d.down = true → Post (.returned (.int .i64 13)) (w.setCell ⟨jb, 8, none⟩ (.bool true))) := Lib.hid (fun hdn => by
    have ha : s.compacts d b = ({ s with down := true }, d, 13) := by unfold JS.compacts; rw [if_pos (by rcases hdn with h | h <;> simp [h])]
    have ms : Mod (· = jb) w (w.setCell ⟨jb, 8, none⟩ (.bool true)) := (Mod.refl _ _).setCell _ _ (fun _ => rfl)
    refine HPOST.out _ _ ⟨by rw [ha], ?_, ms.mono (fun k _ e => by rw [e]; exact (hF jb (.inl hj.lo)).1)⟩
    rw [ha]
    exact ⟨S, B, hj.downs, hd.mod ms (fun k _ hB e => by rw [e] at hB; exact hSB jb hj.lo hB), hSB, fun k hk => ⟨.inl (hF k hk).1, by simp; exact (hF k hk).2⟩⟩)
  clear hj hd hSB hF hb1 hda hrow hT hbl hl hsd hdd hgn hrn
  cases sd with
  | true =>
    have HE := Lib.hid (HBAD.out (.inl HSD.out))
    go_enter Tryz.func21, Tryz.ntmps21
    go_wp2_with fail
    exact HE.out
  | false =>
    cases dd with
    | true =>
      have HE := Lib.hid (HBAD.out (.inr HDD.out))
      go_enter Tryz.func21, Tryz.ntmps21
      go_wp2_with fail
      exact HE.out
    | false =>
      have hup : ¬ ((s.down || d.down) = true) := by rw [HSD.out, HDD.out]; decide
      have HUP := Lib.hid hup
      clear hup HBAD z8
      by_cases hlong : 60000 < nb
      · have HA : Hid (s.compacts d b = (s, d, 3)) := Lib.hid (by unfold JS.compacts; rw [if_neg HUP.out, if_pos (by rw [HBL.out]; exact hlong)])
        have HE := Lib.hid (HPOST.out (.returned (.int .i64 3)) w ⟨by rw [HA.out], by rw [HA.out]; exact HH.out.mono (fun _ _ h => .inl h), Mod.refl _ _⟩)
        have hl6 : 60000 < (nb : Int) := by omega
        clear hlong
        go_enter Tryz.func21, Tryz.ntmps21
        go_wp2_with fail
        exact HE.out
      · have k0 := (HK4.out w (Mod.refl _ _)).1
        have hl6 : ¬ 60000 < (nb : Int) := by omega
        obtain ⟨hl1, hl2, hl3, hl4⟩ := HLIM.out
        by_cases hmax : gn = 4294967295
        · have HA : Hid (s.compacts d b = (s, d, 12)) := Lib.hid (by unfold JS.compacts; rw [if_neg HUP.out, if_neg (by rw [HBL.out]; exact hlong), if_pos (.inr (by rw [HGN.out]; exact hmax))])
          have HBADP := Lib.hid (fun W => sixPutBad nb cb pb 1 4294967296 0 W (by omega) (.inr (.inl (by omega))))
          clear hlong hl1 hl2 hl3 hl4
          go_enter Tryz.func21, Tryz.ntmps21
          go_wp2_with fail
          refine (HBADP.out w).mono ?_
          rintro e w1 ⟨rfl, hm1⟩
          have HE := Lib.hid (HPOST.out (.returned (.int .i64 12)) w1 ⟨by rw [HA.out], by rw [HA.out]; exact (HH.out.modNil hm1).mono (fun _ _ h => .inl h), hm1.ofNil⟩)
          clear hm1
          go_wp2_with fail
          exact HE.out
        · obtain ⟨m, hm⟩ : ∃ m, sectorsF nb = m := ⟨_, rfl⟩
          have hroom := HD.out.room
          obtain ⟨N, hN⟩ : ∃ N, d.lasts.length / 2 = N := ⟨_, rfl⟩
          obtain ⟨n, hn⟩ : ∃ n, d.lasts.length = n := ⟨_, rfl⟩
          have hdiv : (n : Int) / 2 = (N : Int) := by omega
          have hN4 : N ≤ 4096 := by omega
          obtain ⟨g1, hg1⟩ : ∃ x, gn + 1 = x := ⟨_, rfl⟩
          have hg1i : (gn : Int) + 1 = (g1 : Int) := by omega
          have hg1b : g1 ≤ 4294967295 := by have : gn ≤ 4294967295 := by rw [← HGN.out]; exact hl2
                                            omega
          obtain ⟨hf, hhf⟩ : ∃ a, s.half = a := ⟨_, rfl⟩
          obtain ⟨oh, hoh⟩ : ∃ a, 1 - hf = a := ⟨_, rfl⟩
          have hohi : 1 - (hf : Int) = (oh : Int) := by omega
          have hput := fun W (mm : Mod nil w W) => sixPut 1 g1 0 nb cb pb (fun k => k < W.heap.size) b W ((HROW.out.modNil mm).here.mono (fun k _ h => h.2)) (fun k h => h) (by omega) hg1b (by omega) (by omega)
          rw [hm] at hput
          obtain ⟨M, hM⟩ : ∃ M, 64 * m = M := ⟨_, rfl⟩
          rw [hM] at hput
          have HPUT := Lib.hid hput
          obtain ⟨PF, hPF⟩ : ∃ x, putF 1 g1 0 b = x := ⟨_, rfl⟩
          rw [hPF] at HPUT
          have HPFL : Hid (PF.length = M) := Lib.hid (by rw [← hPF, putF_length, HBL.out, hm, hM])
          have hm1 : 1 ≤ m ∧ m ≤ 1000 := by rw [← hm]; unfold sectorsF; omega
          have hMd : (M : Int) / 64 = (m : Int) := by omega
          have HLN := Lib.hid (fun W (mm : Mod nil w W) => refLen db B d W (HD.out.mod mm (fun _ _ _ f => f)))
          rw [hn] at HLN
          have HMM := Lib.hid hm
          have HMD := Lib.hid hM
          have HNN := Lib.hid hN
          have HHF := Lib.hid hhf
          have HOH := Lib.hid hoh
          have HG1 := Lib.hid hg1
          have HPF := Lib.hid hPF
          have HMAX := Lib.hid hmax
          have HKJ : Hid (∀ W, Mod nil w W → W.cell? ⟨jb, 0, none⟩ = some (.pointer (some ⟨db, 0, none⟩)) ∧ W.cell? ⟨jb, 1, none⟩ = some (.int .i64 (hf : Int))) := Lib.hid (fun W mm => by
            obtain ⟨_, _, _, _, _, e, -, -⟩ := (HJ.out.modNil mm).ex
            rw [hhf] at e
            exact ⟨cell_of e 0, cell_of e 1⟩)
          have hhf1 : hf ≤ 1 := by rw [← hhf]; exact hl1
          clear hput hm hM hPF hl1 hl2 hl3 hl4 hroom hN hhf hoh hg1 hn hmax
          go_enter Tryz.func21, Tryz.ntmps21
          go_wp2_with fail
          refine (HPUT.out w (Mod.refl _ _)).mono ?_
          rintro e w1 ⟨p1, c1, rfl, hv1, hm1w⟩
          have HM1 := Lib.hid hm1w
          have HV1 := Lib.hid hv1
          obtain ⟨k2, k3⟩ := HKJ.out w1 hm1w
          clear hm1w hv1 k0 c0 c8 d4
          go_wp2_with fail
          refine (HLN.out w1 HM1.out).mono ?_
          rintro e w2 ⟨rfl, hw2⟩
          obtain rfl : w1 = w2 := hw2.symm
          by_cases hfit : N < m
          · have HA : Hid (s.compacts d b = (s, d, 12)) := Lib.hid (by unfold JS.compacts; rw [if_neg HUP.out, if_neg (by rw [HBL.out]; exact hlong), if_pos (.inl (by rw [HNN.out, HBL.out, HMM.out]; exact hfit))])
            have HE := Lib.hid (HPOST.out (.returned (.int .i64 12)) w1 ⟨by rw [HA.out], by rw [HA.out]; exact (HH.out.modNil HM1.out).mono (fun _ _ h => .inl h), HM1.out.ofNil⟩)
            go_wp2_with fail
            exact HE.out
          · obtain ⟨X, hX⟩ : ∃ X, oh * N + 0 = X := ⟨_, rfl⟩
            have hcv : M ≤ c1 ∧ c1 ≤ maxLen := by
              obtain ⟨p', c', h, q1, q2⟩ := vecCap HV1.out
              simp only [Value.slice.injEq] at h
              obtain ⟨-, -, rfl⟩ := h
              exact ⟨q1, q2⟩
            have hj2 := HJ.out.modNil HM1.out
            have hd2 := HD.out.mod HM1.out (fun _ _ _ f => f)
            have hs1 := HM1.out.size
            have hlayc := sixLay S B (fun k => w.heap.size ≤ k ∧ k < w1.heap.size) jb db oh 0 m N X M c1 p1 PF s d w1 hj2 hd2 (fun k hk _ => HSB.out k hk) (HV1.out.row.mono (T := fun k => w.heap.size ≤ k ∧ k < w1.heap.size) (fun k hk h => ⟨h, hk⟩)) (fun k hk => ⟨hk.2, fun hB => by have := (HF.out k (.inr hB)).2; omega⟩) hcv.1 hcv.2 (by rw [HPFL.out, HMD.out]) hm1.1 HNN.out (by have := HOH.out; omega) (by omega) hX
            obtain ⟨⟨dl, ok⟩, hly⟩ : ∃ x, d.lays X PF m = x := ⟨_, rfl⟩
            rw [hly] at hlayc
            simp only at hlayc
            have HLAYC := Lib.hid hlayc
            have HLY : Hid (d.lays ((1 - s.half) * (d.lasts.length / 2)) (putF 1 (if s.gen < 4294967295 then s.gen + 1 else 4294967295) 0 b) (sectorsF b.length) = (dl, ok)) := Lib.hid (by rw [HHF.out, HNN.out, HGN.out, if_pos (by have := HG1.out; omega), HG1.out, HPF.out, HBL.out, HMM.out, HOH.out, ← hly, ← hX, Nat.add_zero])
            have HNF : Hid (¬ (d.lasts.length / 2 < sectorsF b.length ∨ s.gen = 4294967295)) := Lib.hid (by rw [HNN.out, HBL.out, HMM.out, HGN.out]; exact fun h => h.elim (fun h => hfit h) (fun h => HMAX.out h))
            have hfit' : ¬ N < m := hfit
            clear hcv hj2 hd2 hly hX hlayc
            go_wp2_with fail
            refine HLAYC.out.mono ?_
            rintro e w3 ⟨rfl, hj3, hd3, hm3⟩
            have HJ3 := Lib.hid hj3
            have HD3 := Lib.hid hd3
            have hms := hm3.size
            have HP : Hid (∀ W s' (Tm : Nat → Prop), IsRJ (fun k => S k ∨ w3.heap.size ≤ k) W jb db s' → Mod Tm w3 W → (∀ k, k < w3.heap.size → Tm k → S k) → IsRJD (fun k => F k ∨ w.heap.size ≤ k) W jb db s' dl) := Lib.hid (fun W s' Tm hjW hmW hTm => by
              have hbd : ∀ k, (B k ∨ w1.heap.size ≤ k) ∧ k < w3.heap.size → ¬ (S k) := fun k hk hs => by
                have hf := (HF.out k (.inl hs)).2
                rcases hk.1 with h | h
                · exact HSB.out k hs h
                · omega
              have hd3 := HD3.out.mono (C := fun k => B k ∨ w1.heap.size ≤ k) (fun k h => h.imp id (fun h => by simpa using h))
              refine ⟨_, _, hjW.here, hd3.here.mod hmW (fun k hk hb hT => hbd k hb (hTm k hk hT)), fun k hS hb => ?_, fun k hk => ?_⟩
              · rcases hS.1 with h | h
                · exact hbd k hb h
                · have := hb.2; omega
              · have hs3 := hmW.size
                rcases hk with hk | hk
                · refine ⟨?_, hk.2⟩
                  rcases hk.1 with h | h
                  · exact .inl (HF.out k (.inl h)).1
                  · exact .inr (by omega)
                · refine ⟨?_, by have := hk.2; omega⟩
                  rcases hk.1 with h | h
                  · exact .inl (HF.out k (.inr h)).1
                  · exact .inr (by omega))
            have HMF : Hid (Mod F w w3) := Lib.hid (HM1.out.ofNil.trans hm3 (fun k hk h => by rcases h with h | h; exact (HF.out k (.inr h)).1; rw [h]; exact (HF.out jb (.inl HJ.out.lo)).1))
            clear hj3 hd3 hm3 k2 k3 HLAYC
            cases ok with
            | false =>
              have HA : Hid (s.compacts d b = ({ s with down := true }, dl, 13)) := Lib.hid (by unfold JS.compacts; rw [if_neg HUP.out, if_neg (by rw [HBL.out]; exact hlong), if_neg HNF.out, HLY.out, if_neg (by simp)])
              have HE := Lib.hid (HPOST.out (.returned (.int .i64 13)) w3 ⟨by rw [HA.out], by
                rw [HA.out]
                have h := HJ3.out
                simp only [Bool.not_false, Bool.or_true] at h
                exact HP.out w3 _ nil (h.mono (fun _ _ h => .inl h)) (Mod.refl _ _) (fun _ _ h => h.elim), HMF.out⟩)
              clear hfit'
              go_wp2_with fail
              exact HE.out
            | true =>
              have hj3 := HJ3.out
              simp only [Bool.not_true, Bool.or_false] at hj3
              obtain ⟨pp3, cp3, nr3, pr3, cr3, hb3, -, -⟩ := hj3.ex
              have HB3 := Lib.hid hb3
              have hjl3 := heap_lt hb3
              have HCOPY := Lib.hid (fun W (mm : Mod nil w3 W) => refCopyBytesV _ (.slice pb nb cb) b W ((HROW.out.mod HMF.out (fun k _ hT hF => (HT.out k hT).2 hF)).modNil mm) (by rw [HBL.out]; omega))
              have HKC : Hid (∀ W, Mod nil w3 W → (fun w' => w'.cell? ⟨jb, 1, none⟩ = some (.int .i64 (hf : Int)) ∧ w'.cell? ⟨jb, 2, none⟩ = some (.int .i64 (gn : Int))) W) := Lib.hid (fun W mm => by
                have e := mm.keep hb3
                rw [HHF.out, HGN.out] at e
                exact ⟨cell_of e 1, cell_of e 2⟩)
              have j1 := (HKC.out w3 (Mod.refl _ _)).1
              have j2 := (HKC.out w3 (Mod.refl _ _)).2
              have g1w : IntKind.i64.wrap (g1 : Int) = (g1 : Int) := by rw [IntKind.wrap_i64]; omega
              have ohw : IntKind.i64.wrap (oh : Int) = (oh : Int) := by rw [IntKind.wrap_i64]; have := HOH.out; omega
              have HA : Hid (s.compacts d b = ({ s with half := 1 - s.half, gen := s.gen + 1, has := true, pict := b, recs := [], at_ := sectorsF b.length }, dl, 0)) := Lib.hid (by unfold JS.compacts; rw [if_neg HUP.out, if_neg (by rw [HBL.out]; exact hlong), if_neg HNF.out, HLY.out, if_pos rfl])
              clear hj3 hb3 hfit'
              go_wp2_with fail
              go_upto_region 11 with (fail)
              refine region_till (fun w' => w'.cell? ⟨jb, 1, none⟩ = some (.int .i64 (hf : Int)) ∧ w'.cell? ⟨jb, 2, none⟩ = some (.int .i64 (gn : Int))) 18 (by kernel_rfl) ?_
              refine tF 0 (fun _ => HKC.out _ (by (repeat (first | assumption | exact Mod.refl _ _ | refine Mod.drew ?_ | refine Mod.alloc ?_ _)))) ?_
              (try simp only [Act.put, pT])
              refine tF 1 (fun _ => HKC.out _ (by (repeat (first | assumption | exact Mod.refl _ _ | refine Mod.drew ?_ | refine Mod.alloc ?_ _)))) ?_
              (try simp only [Act.put, pT])
              refine tF 2 (fun _ => HKC.out _ (by (repeat (first | assumption | exact Mod.refl _ _ | refine Mod.drew ?_ | refine Mod.alloc ?_ _)))) ?_
              (try simp only [Act.put, pT])
              refine tF 3 (fun _ => HKC.out _ (by (repeat (first | assumption | exact Mod.refl _ _ | refine Mod.drew ?_ | refine Mod.alloc ?_ _)))) ?_
              (try simp only [Act.put, pT])
              refine tF 4 (fun _ => HKC.out _ (by (repeat (first | assumption | exact Mod.refl _ _ | refine Mod.drew ?_ | refine Mod.alloc ?_ _)))) ?_
              (try simp only [Act.put, pT])
              refine tF 5 (fun _ => HKC.out _ (by (repeat (first | assumption | exact Mod.refl _ _ | refine Mod.drew ?_ | refine Mod.alloc ?_ _)))) ?_
              (try simp only [Act.put, pT])
              refine tF 6 (fun _ => HKC.out _ (by (repeat (first | assumption | exact Mod.refl _ _ | refine Mod.drew ?_ | refine Mod.alloc ?_ _)))) ?_
              (try simp only [Act.put, pT])
              refine tT 7 (HKC.out _ (by (repeat (first | assumption | exact Mod.refl _ _ | refine Mod.drew ?_ | refine Mod.alloc ?_ _)))) ?_
              (try simp only [Act.put, pT])
              refine tF 8 (fun _ => HKC.out _ (by (repeat (first | assumption | exact Mod.refl _ _ | refine Mod.drew ?_ | refine Mod.alloc ?_ _)))) ?_
              (try simp only [Act.put, pT])
              refine tF 9 (fun _ => HKC.out _ (by (repeat (first | assumption | exact Mod.refl _ _ | refine Mod.drew ?_ | refine Mod.alloc ?_ _)))) ?_
              (try simp only [Act.put, pT])
              refine tF 10 (fun _ => HKC.out _ (by (repeat (first | assumption | exact Mod.refl _ _ | refine Mod.drew ?_ | refine Mod.alloc ?_ _)))) ?_
              (try simp only [Act.put, pT])
              refine tF 11 (fun _ => HKC.out _ (by (repeat (first | assumption | exact Mod.refl _ _ | refine Mod.drew ?_ | refine Mod.alloc ?_ _)))) ?_
              (try simp only [Act.put, pT])
              refine tT 12 (HKC.out _ (by (repeat (first | assumption | exact Mod.refl _ _ | refine Mod.drew ?_ | refine Mod.alloc ?_ _)))) ?_
              (try simp only [Act.put, pT])
              refine tF 13 (fun _ => HKC.out _ (by (repeat (first | assumption | exact Mod.refl _ _ | refine Mod.drew ?_ | refine Mod.alloc ?_ _)))) ?_
              (try simp only [Act.put, pT])
              refine tF 14 (fun _ => HKC.out _ (by (repeat (first | assumption | exact Mod.refl _ _ | refine Mod.drew ?_ | refine Mod.alloc ?_ _)))) ?_
              (try simp only [Act.put, pT])
              refine till_ready (rs := [15]) (by kernel_rfl) (by simp) ?_
              refine till_cons (i := 15) rfl (fun K hK => ?_) till_nil
              (try dsimp (config := { proj := false }) only [g0, g1, g2])
              go_simp
              refine (HCOPY.out _ ?_).mono ?_
              · (repeat (first | assumption | exact Mod.refl _ _ | refine Mod.drew ?_ | refine Mod.alloc ?_ _))
              rintro e w4 ⟨v4, rfl, hv4, hmc⟩
              have hm4 : Mod nil w3 w4 := (show Mod nil w3 _ from by (repeat (first | assumption | exact Mod.refl _ _ | refine Mod.drew ?_ | refine Mod.alloc ?_ _))).thenNil hmc
              obtain ⟨p4, c4, rfl⟩ := hv4.form
              have HV4 := Lib.hid (hv4.mono (T := fun k => w3.heap.size ≤ k) (fun k _ h => by simpa using h))
              have hb4 := hm4.keep HB3.out
              have HB4 := Lib.hid hb4
              have x1 := cell_of hb4 1
              have x2 := cell_of hb4 2
              have x3 := cell_of hb4 3
              have x4 := cell_of hb4 4
              have z1 := free_of hb4 1
              have z2 := free_of hb4 2
              have z3 := free_of hb4 3
              have z4 := free_of hb4 4
              simp only [List.getElem?_toArray, List.getElem?_cons_zero, List.getElem?_cons_succ] at x1 x2 x3 x4
              clear hb4 hmc hv4
              refine hK.out _ _ (fun _ => HKC.out _ (by (repeat (first | assumption | exact Mod.refl _ _ | refine Mod.drew ?_ | refine Mod.alloc ?_ _)))) ?_
              clear hK K
              (try simp only [Act.put, pT])
              refine tF 16 (fun _ => HKC.out _ (by (repeat (first | assumption | exact Mod.refl _ _ | refine Mod.drew ?_ | refine Mod.alloc ?_ _)))) ?_
              (try simp only [Act.put, pT])
              refine tF 17 (fun _ => HKC.out _ (by (repeat (first | assumption | exact Mod.refl _ _ | refine Mod.drew ?_ | refine Mod.alloc ?_ _)))) ?_
              (try simp only [Act.put, pT])
              refine till_ready (rs := [18]) (by kernel_rfl) (by simp) ?_
              refine till_cons (i := 18) rfl (fun K hK => ?_) till_nil
              (try dsimp (config := { proj := false }) only [g0, g1, g2])
              go_simp
              refine hK.out _ _ (fun h => (by simp at h)) ?_
              clear hK K
              (try simp only [Act.put, pT])
              refine till_ready (rs := [19]) (by kernel_rfl) (by simp) ?_
              refine till_cons (i := 19) rfl (fun K hK => ?_) till_nil
              (try dsimp (config := { proj := false }) only [g0, g1, g2])
              go_simp
              refine hK.out _ _ (fun h => (by simp at h)) ?_
              clear hK K
              (try simp only [Act.put, pT])
              refine till_ready (rs := [20]) (by kernel_rfl) (by simp) ?_
              refine till_cons (i := 20) rfl (fun K hK => ?_) till_nil
              (try dsimp (config := { proj := false }) only [g0, g1, g2])
              go_simp
              refine hK.out _ _ (fun h => (by simp at h)) ?_
              clear hK K
              (try simp only [Act.put, pT])
              refine till_ready (rs := [21]) (by kernel_rfl) (by simp) ?_
              refine till_cons (i := 21) rfl (fun K hK => ?_) till_nil
              (try dsimp (config := { proj := false }) only [g0, g1, g2])
              go_simp
              refine hK.out _ _ (fun h => (by simp at h)) ?_
              clear hK K
              (try simp only [Act.put, pT])
              refine till_ready (rs := [22]) (by kernel_rfl) (by simp) ?_
              refine till_cons (i := 22) rfl (fun K hK => ?_) till_nil
              (try dsimp (config := { proj := false }) only [g0, g1, g2])
              go_simp
              refine hK.out _ _ (fun h => (by simp at h)) ?_
              clear hK K
              (try simp only [Act.put, pT])
              refine till_ready (rs := [23]) (by kernel_rfl) (by simp) ?_
              refine till_cons (i := 23) rfl (fun K hK => ?_) till_nil
              (try dsimp (config := { proj := false }) only [g0, g1, g2])
              go_simp
              refine hK.out _ _ (fun h => (by simp at h)) ?_
              clear hK K
              (try simp only [Act.put, pT])
              refine till_ready (rs := [24]) (by kernel_rfl) (by simp) ?_
              refine till_cons (i := 24) rfl (fun K hK => ?_) till_nil
              (try dsimp (config := { proj := false }) only [g0, g1, g2])
              go_simp
              refine hK.out _ _ (fun h => (by simp at h)) ?_
              clear hK K
              (try simp only [Act.put, pT])
              refine till_ready (rs := [25]) (by kernel_rfl) (by simp) ?_
              refine till_cons (i := 25) rfl (fun K hK => ?_) till_nil
              (try dsimp (config := { proj := false }) only [g0, g1, g2])
              go_simp
              refine hK.out _ _ (fun h => (by simp at h)) ?_
              clear hK K
              (try simp only [Act.put, pT])
              refine till_ready (rs := [26]) (by kernel_rfl) (by simp) ?_
              refine till_cons (i := 26) rfl (fun K hK => ?_) till_nil
              (try dsimp (config := { proj := false }) only [g0, g1, g2])
              go_simp
              refine hK.out _ _ (fun h => (by simp at h)) ?_
              clear hK K
              (try simp only [Act.put, pT])
              refine till_ready (rs := [27]) (by kernel_rfl) (by simp) ?_
              refine till_cons (i := 27) rfl (fun K hK => ?_) till_nil
              (try dsimp (config := { proj := false }) only [g0, g1, g2])
              go_simp
              refine hK.out _ _ (fun h => (by simp at h)) ?_
              clear hK K
              (try simp only [Act.put, pT])
              refine till_done (by kernel_rfl) ?_ _
              have e1 := heap_setCell_same HB4.out (.int .i64 oh) (off := 1)
              have e2 := heap_setCell_same e1 (.int .i64 g1) (off := 2)
              have e3 := heap_setCell_same e2 (.bool true) (off := 3)
              have e4 := heap_setCell_same e3 (.slice p4 b.length c4) (off := 4)
              simp only [List.setIfInBounds_toArray, List.set_cons_succ, List.set_cons_zero] at e4
              have hm5 : Mod (· = jb) w4 ((((w4.setCell ⟨jb, 1, none⟩ (.int .i64 oh)).setCell ⟨jb, 2, none⟩ (.int .i64 g1)).setCell ⟨jb, 3, none⟩ (.bool true)).setCell ⟨jb, 4, none⟩ (.slice p4 b.length c4)) := ((((Mod.refl (· = jb) w4).setCell _ _ (fun _ => rfl)).setCell _ _ (fun _ => rfl)).setCell _ _ (fun _ => rfl)).setCell _ _ (fun _ => rfl)
              clear e1 e2 e3 x1 x2 x3 x4 z1 z2 z3 z4 j1 j2
              generalize hw5 : World.setCell (World.setCell (World.setCell (World.setCell w4 _ _) _ _) _ _) _ _ = w5 at *
              have HB5 := Lib.hid e4
              have HM5 := Lib.hid hm5
              have HM4 := Lib.hid hm4
              have x5 := cell_of e4 5
              have x6 := cell_of e4 6
              have x7 := cell_of e4 7
              have z5 := free_of e4 5
              have z6 := free_of e4 6
              have z7 := free_of e4 7
              simp only [List.getElem?_toArray, List.getElem?_cons_zero, List.getElem?_cons_succ] at x5 x6 x7
              have HFIN : Hid (Post (.returned (.int .i64 0)) (((w5.setCell ⟨jb, 5, none⟩ (.slice none 0 0)).setCell ⟨jb, 6, none⟩ (.int .i64 m)).setCell ⟨jb, 7, none⟩ (.int .i64 1))) := Lib.hid (by
                have q1 := heap_setCell_same HB5.out (.slice none 0 0) (off := 5)
                have q2 := heap_setCell_same q1 (.int .i64 m) (off := 6)
                have q3 := heap_setCell_same q2 (.int .i64 1) (off := 7)
                simp only [List.setIfInBounds_toArray, List.set_cons_succ, List.set_cons_zero] at q3
                have ms : Mod (· = jb) w5 (((w5.setCell ⟨jb, 5, none⟩ (.slice none 0 0)).setCell ⟨jb, 6, none⟩ (.int .i64 m)).setCell ⟨jb, 7, none⟩ (.int .i64 1)) := (((Mod.refl (· = jb) w5).setCell _ _ (fun _ => rfl)).setCell _ _ (fun _ => rfl)).setCell _ _ (fun _ => rfl)
                generalize World.setCell (World.setCell (World.setCell w5 _ _) _ _) _ _ = W at *
                have h4 : Mod (· = jb) w4 W := HM5.out.trans ms (fun _ _ h => h)
                have hmW : Mod (· = jb) w3 W := HM4.out.ofNil.trans h4 (fun _ _ h => h)
                refine HPOST.out _ _ ⟨by rw [HA.out], ?_, HMF.out.trans hmW (fun k hk h => by rw [h]; exact (HF.out jb (.inl HJ.out.lo)).1)⟩
                rw [HA.out]
                refine HP.out W _ _ ⟨.inl HJ.out.lo, p4, c4, 0, none, 0, ?_, ?_, IsTextsC.nil _ _⟩ hmW (fun k hk h => by rw [h]; exact HJ.out.lo)
                · rw [q3, HHF.out, HOH.out, HGN.out, HG1.out, HBL.out, HMM.out]; rfl
                · exact (HV4.out.row.mod h4 (fun k _ h e => by omega)).mono (fun k _ h => ⟨⟨.inr h, by omega⟩, by simp [Value.ownBlock]⟩))
              clear e4 hm5 hw5 hm4
              go_wp2_with fail
              exact HFIN.out
end Go.Proofs.YtjilbnpehgigjaaGreat

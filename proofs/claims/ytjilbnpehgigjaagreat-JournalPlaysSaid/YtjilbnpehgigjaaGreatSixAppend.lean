/- cflref6: the journal: Append. (Printed by wip/tools/gen_sixappend.py.) -/
import Derived.Test.YtjilbnpehgigjaaGreatShort
import Derived.Test.YtjilbnpehgigjaaGreatSixLay
import Derived.Test.YtjilbnpehgigjaaGreatJOps
namespace Go.Proofs.YtjilbnpehgigjaaGreat
open Go.RowKit
theorem IsRefIn.here {w : World} {B : Nat → Prop} {b : Nat} {d : DS} (h : IsRefIn w B b d) : IsRefIn w (fun k => B k ∧ k < w.heap.size) b d := by
  obtain ⟨P1, P2, P3, v1, v2, v3, h, hb, hB⟩ := h
  exact ⟨fun k => P1 k ∧ k < w.heap.size, fun k => P2 k ∧ k < w.heap.size, fun k => P3 k ∧ k < w.heap.size, v1, v2, v3,
    { h with now := h.now.trim, last := h.last.trim, pend := h.pend.trim, p1 := fun x => h.p1 x.1, p2 := fun x => h.p2 x.1, p3 := fun x => h.p3 x.1, p12 := fun k x y => h.p12 k x.1 y.1, p13 := fun k x y => h.p13 k x.1 y.1, p23 := fun k x y => h.p23 k x.1 y.1 },
    ⟨hb, heap_lt h.obj⟩, fun k hk => by rcases hk with hk | hk | hk; exact ⟨hB k (.inl hk.1), hk.2⟩; exact ⟨hB k (.inr (.inl hk.1)), hk.2⟩; exact ⟨hB k (.inr (.inr hk.1)), hk.2⟩⟩
theorem IsRJ.here {S : Nat → Prop} {w : World} {jb db : Nat} {s : JS} (h : IsRJ S w jb db s) : IsRJ (fun k => S k ∧ k < w.heap.size) w jb db s := h.mono (fun _ hk h => ⟨h, hk⟩)
/-- the reference's journal over its disk: all of their blocks are in F; they share none -/
def IsRJD (F : Nat → Prop) (w : World) (jb db : Nat) (s : JS) (d : DS) : Prop := ∃ S B, IsRJ S w jb db s ∧ IsRefIn w B db d ∧ (∀ k, S k → ¬ B k) ∧ ∀ k, S k ∨ B k → F k ∧ k < w.heap.size
theorem IsRJD.mod {F T : Nat → Prop} {w w' : World} {jb db : Nat} {s : JS} {d : DS} (h : IsRJD F w jb db s d) (m : Mod T w w') (hs : ∀ k, k < w.heap.size → F k → ¬ T k) : IsRJD F w' jb db s d := by
  obtain ⟨S, B, h1, h2, h3, h4⟩ := h
  exact ⟨S, B, h1.mod m (fun k hk h => hs k hk (h4 k (.inl h)).1), h2.mod m (fun k hk h => hs k hk (h4 k (.inr h)).1), h3, fun k h => ⟨(h4 k h).1, Nat.lt_of_lt_of_le (h4 k h).2 m.size⟩⟩
theorem IsRJD.modNil {F : Nat → Prop} {w w' : World} {jb db : Nat} {s : JS} {d : DS} (h : IsRJD F w jb db s d) (m : Mod nil w w') : IsRJD F w' jb db s d := h.mod m (fun _ _ _ f => f)
theorem IsRJD.mono {F G : Nat → Prop} {w : World} {jb db : Nat} {s : JS} {d : DS} (h : IsRJD F w jb db s d) (hs : ∀ k, k < w.heap.size → F k → G k) : IsRJD G w jb db s d := by
  obtain ⟨S, B, h1, h2, h3, h4⟩ := h
  exact ⟨S, B, h1, h2, h3, fun k h => ⟨hs k (h4 k h).2 (h4 k h).1, (h4 k h).2⟩⟩
set_option maxRecDepth 100000 in
set_option maxHeartbeats 8000000 in
theorem sixAppend (F T : Nat → Prop) (jb db nb cb : Nat) (pb : Option Addr) (b : List UInt8) (s : JS) (d : DS) (w : World) (h : IsRJD F w jb db s d) (hl : s.Lim (d.lasts.length / 2)) (hrow : IsRow T w (.slice pb nb cb) (bys b)) (hT : ∀ k, T k → k < w.heap.size ∧ ¬ F k) (hcap : nb ≤ cb) (hcm : cb ≤ maxLen) :
    Calls Tryz.prog 19 #[.pointer (some ⟨jb, 0, none⟩), .slice pb nb cb] w fun e w' => e = .returned (.int .i64 (s.appends d b).2.2) ∧ IsRJD (fun k => F k ∨ w.heap.size ≤ k) w' jb db (s.appends d b).1 (s.appends d b).2.1 ∧ Mod F w w' := by
  refine (?_ : ∀ Post : Ending → World → Prop, Hid (∀ e w', (e = .returned (.int .i64 (s.appends d b).2.2) ∧ IsRJD (fun k => F k ∨ w.heap.size ≤ k) w' jb db (s.appends d b).1 (s.appends d b).2.1 ∧ Mod F w w') → Post e w') → Calls Tryz.prog 19 #[.pointer (some ⟨jb, 0, none⟩), .slice pb nb cb] w Post) _ (Lib.hid (fun _ _ h => h))
  intro Post HPOST
  have hbl : b.length = nb := by
    obtain ⟨_, _, h, _⟩ := hrow
    simp only [Value.slice.injEq, bys_length] at h
    exact h.2.1.symm
  have HH := Lib.hid h
  obtain ⟨S, B, hj, hd, hSB, hF⟩ := h
  obtain ⟨pp, cp, nr, pr, cr, hb1, -, -⟩ := id hj.ex
  obtain ⟨P1, P2, P3, v1, v2, v3, hda, -, -⟩ := id hd
  have c0 := cell_of hb1 0
  have c8 := cell_of hb1 8
  have z8 := free_of hb1 8
  have d4 := cell_of hda.obj 4
  simp only [List.getElem?_toArray, List.getElem?_cons_zero, List.getElem?_cons_succ] at c0 c8 d4
  have HJ := Lib.hid hj
  have HD := Lib.hid hd
  have HSB := Lib.hid hSB
  have HF := Lib.hid hF
  have HROW := Lib.hid hrow
  have HT := Lib.hid hT
  have HBL := Lib.hid hbl
  have HLIM := Lib.hid hl
  obtain ⟨sd, hsd⟩ : ∃ x, s.down = x := ⟨_, rfl⟩
  obtain ⟨dd, hdd⟩ : ∃ x, d.down = x := ⟨_, rfl⟩
  rw [hsd] at c8
  rw [hdd] at d4
  have HSD := Lib.hid hsd
  have HDD := Lib.hid hdd
  obtain ⟨gn, hgn⟩ : ∃ x, s.gen = x := ⟨_, rfl⟩
  obtain ⟨rn, hrn⟩ : ∃ x, s.recs.length = x := ⟨_, rfl⟩
  have hjl := heap_lt hb1
  have HK4 : Hid (∀ W, Mod nil w W → (fun w' => w'.cell? ⟨jb, 2, none⟩ = some (.int .i64 (gn : Int)) ∧ w'.cell? ⟨jb, 7, none⟩ = some (.int .i64 ((rn + 1 : Nat) : Int))) W) := Lib.hid (fun W m => by
    have e := m.keep hb1
    rw [hgn, hrn] at e
    exact ⟨cell_of e 2, cell_of e 7⟩)
  have HGN := Lib.hid hgn
  have HRN := Lib.hid hrn
  have HBAD : Hid (s.down = true ∨ d.down = true → Post (.returned (.int .i64 13)) (w.setCell ⟨jb, 8, none⟩ (.bool true))) := Lib.hid (fun hdn => by
    have ha : s.appends d b = ({ s with down := true }, d, 13) := by unfold JS.appends; rw [if_pos (by rcases hdn with h | h <;> simp [h])]
    have ms : Mod (· = jb) w (w.setCell ⟨jb, 8, none⟩ (.bool true)) := (Mod.refl _ _).setCell _ _ (fun _ => rfl)
    refine HPOST.out _ _ ⟨by rw [ha], ?_, ms.mono (fun k _ e => by rw [e]; exact (hF jb (.inl hj.lo)).1)⟩
    rw [ha]
    exact ⟨S, B, hj.downs, hd.mod ms (fun k _ hB e => by rw [e] at hB; exact hSB jb hj.lo hB), hSB, fun k hk => ⟨.inl (hF k hk).1, by simp; exact (hF k hk).2⟩⟩)
  clear hj hd hSB hF hb1 hda hrow hT hbl hl hsd hdd hgn hrn
  cases sd with
  | true =>
    have HE := Lib.hid (HBAD.out (.inl HSD.out))
    go_enter Tryz.func19, Tryz.ntmps19
    go_wp2_with fail
    exact HE.out
  | false =>
    cases dd with
    | true =>
      have HE := Lib.hid (HBAD.out (.inr HDD.out))
      go_enter Tryz.func19, Tryz.ntmps19
      go_wp2_with fail
      exact HE.out
    | false =>
      have hup : ¬ ((s.down || d.down) = true) := by rw [HSD.out, HDD.out]; decide
      have HUP := Lib.hid hup
      clear hup HBAD z8
      by_cases hlong : 60000 < nb
      · have HLONG := Lib.hid (fun W (m : Mod nil w W) => sixPutLong nb cb pb 2 (gn : Int) ((rn + 1 : Nat) : Int) W hlong)
        have HA : Hid (s.appends d b = (s, d, 3)) := Lib.hid (by unfold JS.appends; rw [if_neg HUP.out, if_pos (by rw [HBL.out]; exact hlong)])
        clear hlong
        go_enter Tryz.func19, Tryz.ntmps19
        go_upto_region 4 with (fail)
        have k0 := (HK4.out w (Mod.refl _ _)).1
        have k1 := (HK4.out w (Mod.refl _ _)).2
        refine wp_region_held_drew (S := (fun w' => w'.cell? ⟨jb, 2, none⟩ = some (.int .i64 (gn : Int)) ∧ w'.cell? ⟨jb, 7, none⟩ = some (.int .i64 ((rn + 1 : Nat) : Int)))) (by kernel_rfl) (HK4.out _ (by (repeat (first | assumption | exact Mod.refl _ _ | refine Mod.drew ?_)))) (fun hHeld => ?_)
        refine tH 0 ?_
        (try simp only [Act.put, pT])
        refine tH 1 ?_
        (try simp only [Act.put, pT])
        refine tH 2 ?_
        (try simp only [Act.put, pT])
        refine tH 3 ?_
        (try simp only [Act.put, pT])
        refine tH 4 ?_
        (try simp only [Act.put, pT])
        refine tH 5 ?_
        (try simp only [Act.put, pT])
        refine tH 6 ?_
        (try simp only [Act.put, pT])
        refine tH 7 ?_
        (try simp only [Act.put, pT])
        refine tH 8 ?_
        (try simp only [Act.put, pT])
        refine tH 9 ?_
        (try simp only [Act.put, pT])
        refine wpAnyH_ready (rs := [10]) (by kernel_rfl) (by simp) ?_
        refine AllReadyH.cons (i := 10) rfl (fun K hK => ?_) AllReadyH.nil
        (try dsimp (config := { proj := false }) only [g0, g1, g2])
        go_simp
        refine (HLONG.out _ ?_).mono ?_
        · (repeat (first | assumption | exact Mod.refl _ _ | refine Mod.drew ?_))
        rintro e w1 ⟨rfl, hmp⟩
        have hm1 : Mod nil w w1 := (show Mod nil w _ from by (repeat (first | assumption | exact Mod.refl _ _ | refine Mod.drew ?_))).thenNil hmp
        clear hmp
        refine hK.out _ _ (HK4.out _ (by (repeat (first | assumption | exact Mod.refl _ _ | refine Mod.drew ?_)))) (fun hHeld => ?_)
        clear hK K
        (try simp only [Act.put, pT])
        refine tH 11 ?_
        (try simp only [Act.put, pT])
        refine tH 12 ?_
        (try simp only [Act.put, pT])
        refine tH 13 ?_
        (try simp only [Act.put, pT])
        refine tH 14 ?_
        (try simp only [Act.put, pT])
        refine tH 15 ?_
        (try simp only [Act.put, pT])
        refine wpAnyH_done (by kernel_rfl) ?_ _
        have HE := Lib.hid (HPOST.out (.returned (.int .i64 3)) w1 ⟨by rw [HA.out], by rw [HA.out]; exact (HH.out.modNil hm1).mono (fun _ _ h => .inl h), hm1.ofNil⟩)
        clear hHeld hm1 k0 k1
        go_wp2_with fail
        exact HE.out
      · obtain ⟨m, hm⟩ : ∃ m, sectorsF nb = m := ⟨_, rfl⟩
        obtain ⟨hl1, hl2, hl3, hl4⟩ := HLIM.out
        have hroom := HD.out.room
        obtain ⟨N, hN⟩ : ∃ N, d.lasts.length / 2 = N := ⟨_, rfl⟩
        have hN4 : N ≤ 4096 := by omega
        obtain ⟨at_, hat⟩ : ∃ a, s.at_ = a := ⟨_, rfl⟩
        obtain ⟨hf, hhf⟩ : ∃ a, s.half = a := ⟨_, rfl⟩
        have hput := fun W (mm : Mod nil w W) => sixPut 2 gn (rn + 1) nb cb pb (fun k => k < W.heap.size) b W ((HROW.out.modNil mm).here.mono (fun k _ h => h.2)) (fun k h => h) (by omega) (by rw [← HGN.out]; exact hl2) (by rw [← HRN.out]; omega) (by omega)
        rw [hm] at hput
        obtain ⟨M, hM⟩ : ∃ M, 64 * m = M := ⟨_, rfl⟩
        rw [hM] at hput
        have HPUT := Lib.hid hput
        obtain ⟨PF, hPF⟩ : ∃ x, putF 2 gn (rn + 1) b = x := ⟨_, rfl⟩
        rw [hPF] at HPUT
        have HPFL : Hid (PF.length = M) := Lib.hid (by rw [← hPF, putF_length, HBL.out, hm, hM])
        have hm1 : 1 ≤ m ∧ m ≤ 1000 := by rw [← hm]; unfold sectorsF; omega
        have hMd : (M : Int) / 64 = (m : Int) := by omega
        obtain ⟨R, hR⟩ : ∃ R, N - at_ = R := ⟨_, rfl⟩
        have HROOM := Lib.hid (fun W (mm : Mod nil w W) => sixRoom S B jb db s d W (HJ.out.modNil mm) (HD.out.mod mm (fun _ _ _ f => f)) hl4)
        rw [hN, hat, hR] at HROOM
        have HMM := Lib.hid hm
        have HMD := Lib.hid hM
        have HNN := Lib.hid hN
        have HAT := Lib.hid hat
        have HHF := Lib.hid hhf
        have HPF := Lib.hid hPF
        have HRR := Lib.hid hR
        have hatN : at_ ≤ N := by rw [← hat, ← hN]; exact hl4
        have hhf1 : hf ≤ 1 := by rw [← hhf]; exact hl1
        clear hput hm hM hPF hR hl1 hl2 hl3 hl4 hroom hN hat hhf
        go_enter Tryz.func19, Tryz.ntmps19
        go_upto_region 4 with (fail)
        have k0 := (HK4.out w (Mod.refl _ _)).1
        have k1 := (HK4.out w (Mod.refl _ _)).2
        refine wp_region_held_drew (S := (fun w' => w'.cell? ⟨jb, 2, none⟩ = some (.int .i64 (gn : Int)) ∧ w'.cell? ⟨jb, 7, none⟩ = some (.int .i64 ((rn + 1 : Nat) : Int)))) (by kernel_rfl) (HK4.out _ (by (repeat (first | assumption | exact Mod.refl _ _ | refine Mod.drew ?_)))) (fun hHeld => ?_)
        refine tH 0 ?_
        (try simp only [Act.put, pT])
        refine tH 1 ?_
        (try simp only [Act.put, pT])
        refine tH 2 ?_
        (try simp only [Act.put, pT])
        refine tH 3 ?_
        (try simp only [Act.put, pT])
        refine tH 4 ?_
        (try simp only [Act.put, pT])
        refine tH 5 ?_
        (try simp only [Act.put, pT])
        refine tH 6 ?_
        (try simp only [Act.put, pT])
        refine tH 7 ?_
        (try simp only [Act.put, pT])
        refine tH 8 ?_
        (try simp only [Act.put, pT])
        refine tH 9 ?_
        (try simp only [Act.put, pT])
        refine wpAnyH_ready (rs := [10]) (by kernel_rfl) (by simp) ?_
        refine AllReadyH.cons (i := 10) rfl (fun K hK => ?_) AllReadyH.nil
        (try dsimp (config := { proj := false }) only [g0, g1, g2])
        go_simp
        refine (HPUT.out _ ?_).mono ?_
        · (repeat (first | assumption | exact Mod.refl _ _ | refine Mod.drew ?_))
        rintro e w1 ⟨p1, c1, rfl, hv1, hmp⟩
        have hm1_ : Mod nil w w1 := (show Mod nil w _ from by (repeat (first | assumption | exact Mod.refl _ _ | refine Mod.drew ?_))).thenNil hmp
        have HV1 := Lib.hid hv1
        clear hmp hv1
        refine hK.out _ _ (HK4.out _ (by (repeat (first | assumption | exact Mod.refl _ _ | refine Mod.drew ?_)))) (fun hHeld => ?_)
        clear hK K
        (try simp only [Act.put, pT])
        refine tH 11 ?_
        (try simp only [Act.put, pT])
        refine tH 12 ?_
        (try simp only [Act.put, pT])
        refine tH 13 ?_
        (try simp only [Act.put, pT])
        refine tH 14 ?_
        (try simp only [Act.put, pT])
        refine tH 15 ?_
        (try simp only [Act.put, pT])
        refine wpAnyH_done (by kernel_rfl) ?_ _
        have HM1 := Lib.hid hm1_
        clear hHeld hm1_ k0 k1
        go_wp2_with fail
        refine (HROOM.out w1 HM1.out).mono ?_
        rintro e w2 ⟨rfl, hm2⟩
        have HM2 := Lib.hid (HM1.out.thenNil hm2)
        have HV2 := Lib.hid (HV1.out.modNil hm2)
        have hs1 : w.heap.size ≤ w1.heap.size ∧ w1.heap.size ≤ w2.heap.size := ⟨HM1.out.size, hm2.size⟩
        clear hm2
        by_cases hfit : R < m
        · have HA : Hid (s.appends d b = (s, d, 12)) := Lib.hid (by unfold JS.appends; rw [if_neg HUP.out, if_neg (by rw [HBL.out]; exact hlong), if_pos (by rw [HNN.out, HAT.out, HBL.out, HMM.out]; have := HRR.out; omega)])
          have HE := Lib.hid (HPOST.out (.returned (.int .i64 12)) w2 ⟨by rw [HA.out], by rw [HA.out]; exact (HH.out.modNil HM2.out).mono (fun _ _ h => .inl h), HM2.out.ofNil⟩)
          go_wp2_with fail
          exact HE.out
        · obtain ⟨X, hX⟩ : ∃ X, hf * N + at_ = X := ⟨_, rfl⟩
          have hcv : M ≤ c1 ∧ c1 ≤ maxLen := by
            obtain ⟨p', c', h, q1, q2⟩ := vecCap HV2.out
            simp only [Value.slice.injEq] at h
            obtain ⟨-, -, rfl⟩ := h
            exact ⟨q1, q2⟩
          have hj2 := HJ.out.modNil HM2.out
          have hd2 := HD.out.mod HM2.out (fun _ _ _ f => f)
          have HLAYC := Lib.hid (fun W (mm : Mod nil w2 W) => sixLay S B (fun k => w.heap.size ≤ k ∧ k < w2.heap.size) jb db hf at_ m N X M c1 p1 PF s d W (hj2.modNil mm) (hd2.mod mm (fun _ _ _ f => f)) (fun k hk _ => HSB.out k hk) ((HV2.out.row.mono (T := fun k => w.heap.size ≤ k ∧ k < w2.heap.size) (fun k hk h => ⟨by simpa using h, hk⟩)).modNil mm) (fun k hk => ⟨Nat.lt_of_lt_of_le hk.2 mm.size, fun hB => by have := (HF.out k (.inr hB)).2; omega⟩) hcv.1 hcv.2 (by rw [HPFL.out, HMD.out]) hm1.1 HNN.out hhf1 (by have := HRR.out; omega) hX)
          obtain ⟨⟨dl, ok⟩, hly⟩ : ∃ x, d.lays X PF m = x := ⟨_, rfl⟩
          rw [hly] at HLAYC
          simp only at HLAYC
          have HLY : Hid (d.lays (s.half * (d.lasts.length / 2) + s.at_) (putF 2 s.gen (s.recs.length + 1) b) (sectorsF b.length) = (dl, ok)) := Lib.hid (by rw [HHF.out, HNN.out, HAT.out, HGN.out, HRN.out, HPF.out, HBL.out, HMM.out, hX, hly])
          have HK9 : Hid (∀ W, Mod nil w2 W → (fun w' => w'.cell? ⟨jb, 1, none⟩ = some (.int .i64 (hf : Int)) ∧ w'.cell? ⟨jb, 6, none⟩ = some (.int .i64 (at_ : Int))) W) := Lib.hid (fun W mm => by
            obtain ⟨_, _, _, _, _, e, -, -⟩ := (hj2.modNil mm).ex
            rw [HHF.out, HAT.out] at e
            exact ⟨cell_of e 1, cell_of e 6⟩)
          have j0 := (HK9.out w2 (Mod.refl _ _)).1
          have j1 := (HK9.out w2 (Mod.refl _ _)).2
          have HNF : Hid (¬ d.lasts.length / 2 < s.at_ + sectorsF b.length) := Lib.hid (by rw [HNN.out, HAT.out, HBL.out, HMM.out]; have := HRR.out; omega)
          have hfit' : ¬ R < m := hfit
          clear hcv hj2 hd2 hly hX
          go_upto_region 9 with (fail)
          refine wp_region_held_drew (S := (fun w' => w'.cell? ⟨jb, 1, none⟩ = some (.int .i64 (hf : Int)) ∧ w'.cell? ⟨jb, 6, none⟩ = some (.int .i64 (at_ : Int)))) (by kernel_rfl) ((by first | exact HK93.out | exact HK9.out _ (by (repeat (first | assumption | exact Mod.refl _ _ | refine Mod.drew ?_))))) (fun hHeld => ?_)
          refine tH 0 ?_
          (try simp only [Act.put, pT])
          refine tH 1 ?_
          (try simp only [Act.put, pT])
          refine tH 2 ?_
          (try simp only [Act.put, pT])
          refine tH 3 ?_
          (try simp only [Act.put, pT])
          refine tH 4 ?_
          (try simp only [Act.put, pT])
          refine tH 5 ?_
          (try simp only [Act.put, pT])
          refine tH 6 ?_
          (try simp only [Act.put, pT])
          refine tH 7 ?_
          (try simp only [Act.put, pT])
          refine tH 8 ?_
          (try simp only [Act.put, pT])
          refine tH 9 ?_
          (try simp only [Act.put, pT])
          refine wpAnyH_ready (rs := [10]) (by kernel_rfl) (by simp) ?_
          refine AllReadyH.cons (i := 10) rfl (fun K hK => ?_) AllReadyH.nil
          (try dsimp (config := { proj := false }) only [g0, g1, g2])
          go_simp
          refine (HLAYC.out _ ?_).mono ?_
          · (repeat (first | assumption | exact Mod.refl _ _ | refine Mod.drew ?_))
          rintro e w3 ⟨rfl, hj3, hd3, hm3⟩
          have hms : w2.heap.size ≤ w3.heap.size := Nat.le_trans (show Mod nil w2 _ from by (repeat (first | assumption | exact Mod.refl _ _ | refine Mod.drew ?_))).size hm3.size
          have hmw : Mod (fun k => B k ∨ k = jb) w2 w3 := ((show Mod nil w2 _ from by (repeat (first | assumption | exact Mod.refl _ _ | refine Mod.drew ?_))).ofNil (S := (fun k => B k ∨ k = jb))).trans hm3 (fun _ _ h => h)
          have HJ3 := Lib.hid hj3
          have HD3 := Lib.hid hd3
          have HK93 : Hid ((fun w' => w'.cell? ⟨jb, 1, none⟩ = some (.int .i64 (hf : Int)) ∧ w'.cell? ⟨jb, 6, none⟩ = some (.int .i64 (at_ : Int))) w3) := Lib.hid (by
            obtain ⟨_, _, _, _, _, e, -, -⟩ := hj3.ex
            simp only at e
            rw [HHF.out, HAT.out] at e
            exact ⟨cell_of e 1, cell_of e 6⟩)
          clear hj3 hd3 hm3
          refine hK.out _ _ ((by first | exact HK93.out | exact HK9.out _ (by (repeat (first | assumption | exact Mod.refl _ _ | refine Mod.drew ?_))))) (fun hHeld => ?_)
          clear hK K
          (try simp only [Act.put, pT])
          refine tH 11 ?_
          (try simp only [Act.put, pT])
          refine wpAnyH_done (by kernel_rfl) ?_ _
          have HMW := Lib.hid hmw
          have HP : Hid (∀ W s' (Tm : Nat → Prop), IsRJ (fun k => S k ∨ w3.heap.size ≤ k) W jb db s' → Mod Tm w3 W → (∀ k, k < w3.heap.size → Tm k → S k) → IsRJD (fun k => F k ∨ w.heap.size ≤ k) W jb db s' dl) := Lib.hid (fun W s' Tm hjW hmW hTm => by
            have hbd : ∀ k, (B k ∨ w2.heap.size ≤ k) ∧ k < w3.heap.size → ¬ (S k) := fun k hk hs => by
              have hf := (HF.out k (.inl hs)).2
              rcases hk.1 with h | h
              · exact HSB.out k hs h
              · omega
            have hd3 := HD3.out.mono (C := fun k => B k ∨ w2.heap.size ≤ k) (fun k h => h.imp id (fun h => by simpa using h))
            refine ⟨_, _, hjW.here, hd3.here.mod hmW (fun k hk hb hT => hbd k hb (hTm k hk hT)), fun k hS hb => ?_, fun k hk => ?_⟩
            · rcases hS.1 with h | h
              · exact hbd k hb h
              · have := hb.2; omega
            · have hs3 := hmW.size
              rcases hk with hk | hk
              · refine ⟨?_, hk.2⟩
                rcases hk.1 with h | h
                · exact .inl (HF.out k (.inl h)).1
                · exact .inr (by omega)
              · refine ⟨?_, by have := hk.2; omega⟩
                rcases hk.1 with h | h
                · exact .inl (HF.out k (.inr h)).1
                · exact .inr (by omega))
          have HMF : Hid (Mod F w w3) := Lib.hid (HM2.out.ofNil.trans hmw (fun k hk h => by rcases h with h | h; exact (HF.out k (.inr h)).1; rw [h]; exact (HF.out jb (.inl HJ.out.lo)).1))
          clear hHeld hmw j0 j1 HLAYC HK93
          cases ok with
          | false =>
            have HA : Hid (s.appends d b = ({ s with down := true }, dl, 13)) := Lib.hid (by unfold JS.appends; rw [if_neg HUP.out, if_neg (by rw [HBL.out]; exact hlong), if_neg HNF.out, HLY.out, if_neg (by simp)])
            have HE := Lib.hid (HPOST.out (.returned (.int .i64 13)) w3 ⟨by rw [HA.out], by
              rw [HA.out]
              have h := HJ3.out
              simp only [Bool.not_false, Bool.or_true] at h
              exact HP.out w3 _ nil (h.mono (fun _ _ h => .inl h)) (Mod.refl _ _) (fun _ _ h => h.elim), HMF.out⟩)
            clear hfit'
            go_wp2_with fail
            exact HE.out
          | true =>
            have hj3 := HJ3.out
            simp only [Bool.not_true, Bool.or_false] at hj3
            obtain ⟨pp3, cp3, nr3, pr3, cr3, hb3, hpi3, htx3⟩ := hj3.ex
            have HB3 := Lib.hid hb3
            have HPI3 := Lib.hid hpi3
            have HTX3 := Lib.hid htx3
            have hn3 : nr3 ≤ 5000 := by have h := htx3.len; simp only at h; rw [← h, HRN.out]; obtain ⟨_, _, q3, q4⟩ := HLIM.out; rw [HRN.out] at q3; rw [HNN.out] at q4; omega
            have hjl3 := heap_lt hb3
            have HCOPY := Lib.hid (fun W (mm : Mod nil w3 W) => refCopyBytesV _ (.slice pb nb cb) b W ((HROW.out.mod HMF.out (fun k _ hT hF => (HT.out k hT).2 hF)).modNil mm) (by rw [HBL.out]; omega))
            have HK11 : Hid (∀ W, Mod (fun k => (Value.slice pr3 nr3 cr3).ownBlock = some k) w3 W → (fun w' => w'.cell? ⟨jb, 5, none⟩ = some (.slice pr3 nr3 cr3)) W) := Lib.hid (fun W mm => cell_kept (cell_of hb3 5) mm hjl3 (fun ho => (HTX3.out.own ho).1.2 rfl))
            have j5 := HK11.out w3 (Mod.refl _ _)
            have jz := free_of hb3 5
            clear hj3 hb3 hpi3 htx3 hfit'
            go_wp2_with fail
            go_upto_region 11 with (fail)
            refine region_till (fun w' => w'.cell? ⟨jb, 5, none⟩ = some (.slice pr3 nr3 cr3)) 11 (by kernel_rfl) ?_
            refine tF 0 (fun _ => HK11.out _ (by (repeat (first | assumption | exact Mod.refl _ _ | refine Mod.drew ?_ | refine Mod.alloc ?_ _)))) ?_
            (try simp only [Act.put, pT])
            refine tF 1 (fun _ => HK11.out _ (by (repeat (first | assumption | exact Mod.refl _ _ | refine Mod.drew ?_ | refine Mod.alloc ?_ _)))) ?_
            (try simp only [Act.put, pT])
            refine tF 2 (fun _ => HK11.out _ (by (repeat (first | assumption | exact Mod.refl _ _ | refine Mod.drew ?_ | refine Mod.alloc ?_ _)))) ?_
            (try simp only [Act.put, pT])
            refine tF 3 (fun _ => HK11.out _ (by (repeat (first | assumption | exact Mod.refl _ _ | refine Mod.drew ?_ | refine Mod.alloc ?_ _)))) ?_
            (try simp only [Act.put, pT])
            refine tT 4 (HK11.out _ (by (repeat (first | assumption | exact Mod.refl _ _ | refine Mod.drew ?_ | refine Mod.alloc ?_ _)))) ?_
            (try simp only [Act.put, pT])
            refine tF 5 (fun _ => HK11.out _ (by (repeat (first | assumption | exact Mod.refl _ _ | refine Mod.drew ?_ | refine Mod.alloc ?_ _)))) ?_
            (try simp only [Act.put, pT])
            refine till_ready (rs := [6]) (by kernel_rfl) (by simp) ?_
            refine till_cons (i := 6) rfl (fun K hK => ?_) till_nil
            (try dsimp (config := { proj := false }) only [g0, g1, g2])
            go_simp
            refine (HCOPY.out _ ?_).mono ?_
            · (repeat (first | assumption | exact Mod.refl _ _ | refine Mod.drew ?_ | refine Mod.alloc ?_ _))
            rintro e w4 ⟨v4, rfl, hv4, hmc⟩
            have hm4n : Mod nil w3 w4 := (show Mod nil w3 _ from by (repeat (first | assumption | exact Mod.refl _ _ | refine Mod.drew ?_ | refine Mod.alloc ?_ _))).thenNil hmc
            have hm4 : Mod (fun k => (Value.slice pr3 nr3 cr3).ownBlock = some k) w3 w4 := hm4n.ofNil
            obtain ⟨p4, c4, rfl⟩ := hv4.form
            obtain ⟨v6, w6, hrun6, hv6, hm6a, ho6⟩ := textsC_append (R := fun k => w3.heap.size ≤ k) (S := fun k => (S k ∧ k ≠ jb) ∨ w3.heap.size ≤ k) 40 ((HTX3.out.modNil hm4n).mono (fun _ _ h => .inl h)) (hv4.row.mono (fun k _ h => by simpa using h)) hv4.capOk (fun k hk => ⟨.inr hk, fun ho => by have := (HTX3.out.own ho).2; omega⟩) rfl (by omega)
            obtain ⟨p6, c6, rfl⟩ := hv6.form
            have hm6 : Mod (fun k => (Value.slice pr3 nr3 cr3).ownBlock = some k) w3 w6 := hm4.trans hm6a (fun _ _ h => h)
            have HV6 := Lib.hid hv6
            have hb6 := (hm6.block jb hjl3 (fun ho => (HTX3.out.own ho).1.2 rfl)).trans HB3.out
            have HB6 := Lib.hid hb6
            have HO6 := Lib.hid ho6
            have HS46 : Hid (w3.heap.size ≤ w4.heap.size) := Lib.hid hm4n.size
            have x6 := cell_of hb6 5
            have z6 := free_of hb6 5
            simp only [List.getElem?_toArray, List.getElem?_cons_zero, List.getElem?_cons_succ] at x6
            clear hb6 hmc hv4 hv6 hm6a ho6
            refine hK.out _ _ (fun _ => HK11.out _ (by (repeat (first | assumption | exact Mod.refl _ _ | refine Mod.drew ?_ | refine Mod.alloc ?_ _)))) ?_
            clear hK K
            (try simp only [Act.put, pT])
            refine till_ready (rs := [7]) (by kernel_rfl) (by simp) ?_
            refine till_cons (i := 7) rfl (fun K hK => ?_) till_nil
            (try dsimp (config := { proj := false }) only [g0, g1, g2])
            go_simp
            refine hK.out _ _ (fun _ => HK11.out _ (by (repeat (first | assumption | exact Mod.refl _ _ | refine Mod.drew ?_ | refine Mod.alloc ?_ _)))) ?_
            clear hK K
            (try simp only [Act.put, pT])
            refine till_ready (rs := [8]) (by kernel_rfl) (by simp) ?_
            refine till_cons (i := 8) rfl (fun K hK => ?_) till_nil
            (try dsimp (config := { proj := false }) only [g0, g1, g2])
            refine step_append_run rfl _ _ _ _ rfl rfl rfl hrun6 ?_
            refine hK.out _ _ (fun _ => HK11.out _ (by (repeat (first | assumption | exact Mod.refl _ _ | refine Mod.drew ?_ | refine Mod.alloc ?_ _)))) ?_
            clear hK K
            (try simp only [Act.put, pT])
            refine tF 9 (fun _ => HK11.out _ (by (repeat (first | assumption | exact Mod.refl _ _ | refine Mod.drew ?_ | refine Mod.alloc ?_ _)))) ?_
            (try simp only [Act.put, pT])
            refine tF 10 (fun _ => HK11.out _ (by (repeat (first | assumption | exact Mod.refl _ _ | refine Mod.drew ?_ | refine Mod.alloc ?_ _)))) ?_
            (try simp only [Act.put, pT])
            refine till_ready (rs := [11]) (by kernel_rfl) (by simp) ?_
            refine till_cons (i := 11) rfl (fun K hK => ?_) till_nil
            (try dsimp (config := { proj := false }) only [g0, g1, g2])
            go_simp
            refine hK.out _ _ (fun h => (by simp at h)) ?_
            clear hK K
            (try simp only [Act.put, pT])
            refine till_done (by kernel_rfl) ?_ _
            have hb7 := heap_setCell_same HB6.out (.slice p6 (nr3 + 1) c6) (off := 5)
            simp only [List.setIfInBounds_toArray, List.set_cons_succ, List.set_cons_zero] at hb7
            have hm7 : Mod (· = jb) w6 (w6.setCell ⟨jb, 5, none⟩ (.slice p6 (nr3 + 1) c6)) := (Mod.refl _ _).setCell _ _ (fun _ => rfl)
            generalize hw7 : World.setCell w6 _ _ = w7 at *
            have HB7 := Lib.hid hb7
            have HM7 := Lib.hid hm7
            have HM6 := Lib.hid hm6
            have HK12 : Hid (∀ W, Mod nil w7 W → (fun w' => w'.cell? ⟨jb, 6, none⟩ = some (.int .i64 (at_ : Int)) ∧ w'.cell? ⟨jb, 7, none⟩ = some (.int .i64 ((rn + 1 : Nat) : Int))) W) := Lib.hid (fun W mm => by
              have e := mm.keep hb7
              rw [HAT.out, HRN.out] at e
              exact ⟨cell_of e 6, cell_of e 7⟩)
            have y6 := (HK12.out w7 (Mod.refl _ _)).1
            have y7 := (HK12.out w7 (Mod.refl _ _)).2
            have u6 := free_of hb7 6
            have u7 := free_of hb7 7
            obtain ⟨A2, hA2⟩ : ∃ x, at_ + m = x := ⟨_, rfl⟩
            obtain ⟨R2, hR2⟩ : ∃ x, rn + 2 = x := ⟨_, rfl⟩
            have g1 : (at_ : Int) + (m : Int) = (A2 : Int) := by omega
            have g2 : (rn : Int) + 1 + 1 = (R2 : Int) := by omega
            have hrnb : rn ≤ 5000 := by obtain ⟨_, _, q3, q4⟩ := HLIM.out; rw [HRN.out] at q3; rw [HNN.out] at q4; omega
            have g3 : IntKind.i64.wrap (A2 : Int) = (A2 : Int) := by rw [IntKind.wrap_i64]; omega
            have g4 : IntKind.i64.wrap (R2 : Int) = (R2 : Int) := by rw [IntKind.wrap_i64]; omega
            have g5 : IntKind.i64.wrap (m : Int) = (m : Int) := by rw [IntKind.wrap_i64]; omega
            have HA2 := Lib.hid hA2
            have HR2 := Lib.hid hR2
            clear hb7 hm7 hw7 hA2 hR2 hm6 hm4 hm4n x6 z6 hrun6 j5 jz
            go_wp2_with fail
            go_upto_region 12 with (fail)
            refine region_till (fun w' => w'.cell? ⟨jb, 6, none⟩ = some (.int .i64 (at_ : Int)) ∧ w'.cell? ⟨jb, 7, none⟩ = some (.int .i64 ((rn + 1 : Nat) : Int))) 17 (by kernel_rfl) ?_
            refine tF 0 (fun _ => HK12.out _ (by (repeat (first | assumption | exact Mod.refl _ _ | refine Mod.drew ?_ | refine Mod.alloc ?_ _)))) ?_
            (try simp only [Act.put, pT])
            refine tF 1 (fun _ => HK12.out _ (by (repeat (first | assumption | exact Mod.refl _ _ | refine Mod.drew ?_ | refine Mod.alloc ?_ _)))) ?_
            (try simp only [Act.put, pT])
            refine tF 2 (fun _ => HK12.out _ (by (repeat (first | assumption | exact Mod.refl _ _ | refine Mod.drew ?_ | refine Mod.alloc ?_ _)))) ?_
            (try simp only [Act.put, pT])
            refine tF 3 (fun _ => HK12.out _ (by (repeat (first | assumption | exact Mod.refl _ _ | refine Mod.drew ?_ | refine Mod.alloc ?_ _)))) ?_
            (try simp only [Act.put, pT])
            refine tF 4 (fun _ => HK12.out _ (by (repeat (first | assumption | exact Mod.refl _ _ | refine Mod.drew ?_ | refine Mod.alloc ?_ _)))) ?_
            (try simp only [Act.put, pT])
            refine tT 5 (HK12.out _ (by (repeat (first | assumption | exact Mod.refl _ _ | refine Mod.drew ?_ | refine Mod.alloc ?_ _)))) ?_
            (try simp only [Act.put, pT])
            refine tF 6 (fun _ => HK12.out _ (by (repeat (first | assumption | exact Mod.refl _ _ | refine Mod.drew ?_ | refine Mod.alloc ?_ _)))) ?_
            (try simp only [Act.put, pT])
            refine tT 7 (HK12.out _ (by (repeat (first | assumption | exact Mod.refl _ _ | refine Mod.drew ?_ | refine Mod.alloc ?_ _)))) ?_
            (try simp only [Act.put, pT])
            refine tF 8 (fun _ => HK12.out _ (by (repeat (first | assumption | exact Mod.refl _ _ | refine Mod.drew ?_ | refine Mod.alloc ?_ _)))) ?_
            (try simp only [Act.put, pT])
            refine tF 9 (fun _ => HK12.out _ (by (repeat (first | assumption | exact Mod.refl _ _ | refine Mod.drew ?_ | refine Mod.alloc ?_ _)))) ?_
            (try simp only [Act.put, pT])
            refine tF 10 (fun _ => HK12.out _ (by (repeat (first | assumption | exact Mod.refl _ _ | refine Mod.drew ?_ | refine Mod.alloc ?_ _)))) ?_
            (try simp only [Act.put, pT])
            refine tF 11 (fun _ => HK12.out _ (by (repeat (first | assumption | exact Mod.refl _ _ | refine Mod.drew ?_ | refine Mod.alloc ?_ _)))) ?_
            (try simp only [Act.put, pT])
            refine tF 12 (fun _ => HK12.out _ (by (repeat (first | assumption | exact Mod.refl _ _ | refine Mod.drew ?_ | refine Mod.alloc ?_ _)))) ?_
            (try simp only [Act.put, pT])
            refine tT 13 (HK12.out _ (by (repeat (first | assumption | exact Mod.refl _ _ | refine Mod.drew ?_ | refine Mod.alloc ?_ _)))) ?_
            (try simp only [Act.put, pT])
            refine tF 14 (fun _ => HK12.out _ (by (repeat (first | assumption | exact Mod.refl _ _ | refine Mod.drew ?_ | refine Mod.alloc ?_ _)))) ?_
            (try simp only [Act.put, pT])
            refine tF 15 (fun _ => HK12.out _ (by (repeat (first | assumption | exact Mod.refl _ _ | refine Mod.drew ?_ | refine Mod.alloc ?_ _)))) ?_
            (try simp only [Act.put, pT])
            refine tF 16 (fun _ => HK12.out _ (by (repeat (first | assumption | exact Mod.refl _ _ | refine Mod.drew ?_ | refine Mod.alloc ?_ _)))) ?_
            (try simp only [Act.put, pT])
            refine till_ready (rs := [17]) (by kernel_rfl) (by simp) ?_
            refine till_cons (i := 17) rfl (fun K hK => ?_) till_nil
            (try dsimp (config := { proj := false }) only [g0, g1, g2])
            go_simp
            refine hK.out _ _ (fun h => (by simp at h)) ?_
            clear hK K
            (try simp only [Act.put, pT])
            refine till_ready (rs := [18]) (by kernel_rfl) (by simp) ?_
            refine till_cons (i := 18) rfl (fun K hK => ?_) till_nil
            (try dsimp (config := { proj := false }) only [g0, g1, g2])
            go_simp
            refine hK.out _ _ (fun h => (by simp at h)) ?_
            clear hK K
            (try simp only [Act.put, pT])
            refine till_ready (rs := [19]) (by kernel_rfl) (by simp) ?_
            refine till_cons (i := 19) rfl (fun K hK => ?_) till_nil
            (try dsimp (config := { proj := false }) only [g0, g1, g2])
            go_simp
            refine hK.out _ _ (fun h => (by simp at h)) ?_
            clear hK K
            (try simp only [Act.put, pT])
            refine till_ready (rs := [20]) (by kernel_rfl) (by simp) ?_
            refine till_cons (i := 20) rfl (fun K hK => ?_) till_nil
            (try dsimp (config := { proj := false }) only [g0, g1, g2])
            go_simp
            refine hK.out _ _ (fun h => (by simp at h)) ?_
            clear hK K
            (try simp only [Act.put, pT])
            refine till_done (by kernel_rfl) ?_ _
            have HA : Hid (s.appends d b = ({ s with recs := s.recs ++ [b], at_ := s.at_ + sectorsF b.length }, dl, 0)) := Lib.hid (by unfold JS.appends; rw [if_neg HUP.out, if_neg (by rw [HBL.out]; exact hlong), if_neg HNF.out, HLY.out, if_pos rfl])
            have HFIN : Hid (∀ V, Mod nil w7 V → Post (.returned (.int .i64 0)) ((V.setCell ⟨jb, 6, none⟩ (.int .i64 A2)).setCell ⟨jb, 7, none⟩ (.int .i64 R2))) := Lib.hid (fun V mm => by
              have q1 := heap_setCell_same (mm.keep HB7.out) (.int .i64 A2) (off := 6)
              have q2 := heap_setCell_same q1 (.int .i64 R2) (off := 7)
              simp only [List.setIfInBounds_toArray, List.set_cons_succ, List.set_cons_zero] at q2
              have ms : Mod (· = jb) V ((V.setCell ⟨jb, 6, none⟩ (.int .i64 A2)).setCell ⟨jb, 7, none⟩ (.int .i64 R2)) := ((Mod.refl (· = jb) V).setCell _ _ (fun _ => rfl)).setCell _ _ (fun _ => rfl)
              generalize World.setCell (World.setCell V _ _) _ _ = W at *
              have h67 : Mod (· = jb) w6 W := (HM7.out.thenNil mm).trans ms (fun _ _ h => h)
              have hmW : Mod (fun k => (fun k => (Value.slice pr3 nr3 cr3).ownBlock = some k) k ∨ k = jb) w3 W := (HM6.out.mono (fun _ _ h => .inl h)).trans h67 (fun _ _ h => .inr h)
              have hown : ∀ k, (fun k => (Value.slice pr3 nr3 cr3).ownBlock = some k) k → S k ∧ k ≠ jb ∧ k < w3.heap.size := fun k ho => ⟨(HTX3.out.own ho).1.1, (HTX3.out.own ho).1.2, (HTX3.out.own ho).2⟩
              have hSl : ∀ k, S k → k < w3.heap.size := fun k hS => Nat.lt_of_lt_of_le (HF.out k (.inl hS)).2 (Nat.le_trans HM2.out.size hms)
              refine HPOST.out _ _ ⟨by rw [HA.out], ?_, HMF.out.trans hmW (fun k hk h => by rcases h with h | h; exact (HF.out k (.inl (hown k h).1)).1; rw [h]; exact (HF.out jb (.inl HJ.out.lo)).1)⟩
              rw [HA.out]
              refine HP.out W _ _ ⟨.inl HJ.out.lo, pp3, cp3, nr3 + 1, p6, c6, ?_, ?_, ?_⟩ hmW (fun k hk h => by rcases h with h | h; exact (hown k h).1; rw [h]; exact HJ.out.lo)
              · rw [q2, HAT.out, HBL.out, HMM.out, HA2.out, List.length_append, HRN.out, show rn + [b].length + 1 = R2 from by rw [← HR2.out]; rfl]
              · exact (HPI3.out.here.mod hmW (fun k hk h ho => by
                  rcases ho with ho | ho
                  · exact h.1.2 ho
                  · exact h.1.1.2 ho)).mono (fun k _ h => ⟨⟨.inl h.1.1.1, h.1.1.2⟩, fun ho => by
                  rcases HO6.out k ho with h' | h'
                  · exact h.1.2 h'
                  · have := h.2; have := HS46.out; omega⟩)
              · exact (HV6.out.mono (T := fun k => (S k ∨ w3.heap.size ≤ k) ∧ k ≠ jb) (fun k _ h => by
                  rcases h with (h | h) | h
                  · exact ⟨.inl h.1, h.2⟩
                  · exact ⟨.inr h, by omega⟩
                  · exact ⟨.inr (by have := HS46.out; omega), by have := HS46.out; omega⟩)).mod h67 (fun k _ h e => h.2 e))
            clear y6 y7 u6 u7 g1 g2 g3 g4 g5
            go_wp2_with fail
            first | exact HFIN.out _ (Mod.refl _ _) | exact HFIN.out _ (Mod.refl _ _).drew | exact HFIN.out _ ((Mod.refl _ _).drewN _)
end Go.Proofs.YtjilbnpehgigjaaGreat

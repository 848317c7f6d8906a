/- cflref27.Round. -/
import Derived.Test.YtlkhihdgaimboaaTaleC
namespace Go.Proofs.Ytlkhihdgaimboaa
open Go.RowKit
set_option maxRecDepth 100000 in
set_option maxHeartbeats 2000000 in
theorem refRound (T : Nat → Prop) (p0 : Option Addr) (len cap : Nat) (lost : List UInt8) (n : Int) (w : World) (hrow : IsRow T w (.slice p0 len cap) (bys lost)) (hl : lost.length ≤ 1099511627776) :
    Calls Try.prog 19 #[.int .i64 n, .slice p0 len cap] w fun e w' => ∃ v', e = .returned v' ∧ IsVec (fun k => w.heap.size ≤ k) w' 32 15 v' (roundAll n lost).length (evs (roundAll n lost)) ∧ Mod nil w w' := by
  refine (?_ : ∀ Post : Ending → World → Prop, Hid (∀ e w', (∃ v', e = .returned v' ∧ IsVec (fun k => w.heap.size ≤ k) w' 32 15 v' (roundAll n lost).length (evs (roundAll n lost)) ∧ Mod nil w w') → Post e w') → Calls Try.prog 19 #[.int .i64 n, .slice p0 len cap] w Post) _ (Lib.hid (fun _ _ h => h))
  intro Post HPOST
  have HROW := Lib.hid hrow
  obtain rfl : len = lost.length := by
    obtain ⟨_, _, h, _⟩ := hrow
    simp only [Value.slice.injEq, bys_length] at h
    exact h.2.1
  obtain ⟨L, hL⟩ : ∃ L, lost.length = L := ⟨_, rfl⟩
  rw [hL] at HROW hl ⊢
  have HLB := Lib.hid hL
  clear hrow hL
  obtain ⟨N, hN⟩ : ∃ N, (min (max n 0) 16).toNat = N := ⟨_, rfl⟩
  have hN16 : N ≤ 16 := by omega
  have hNn : (N : Int) < n → N = 16 := by omega
  have hNp : ∀ p : Nat, p < N → (p : Int) < n := by intro p hp; omega
  have HNP := Lib.hid hNp
  have HALL : Hid (roundAll n lost = roundTo lost (2 * N) ++ [ev4 1 0 0 1]) := Lib.hid (by unfold roundAll; rw [hN])
  clear hN hNp
  obtain ⟨g, hg⟩ : ∃ g, w.heap.size = g := ⟨_, rfl⟩
  have HG := Lib.hid hg
  clear hg
  go_enter Try.func19, Try.ntmps19
  go_wp2_with fail
  go_loopw [5, 6] (fun v5 v6 wr => ∃ (P I m : Nat) (p : Option Addr) (q : Nat), P ≤ N ∧ v6 = .int .i64 P ∧ Hid (I = 2 * P) ∧ v5 = .slice p m q ∧ Hid (m = (roundTo lost I).length) ∧ Hid (IsVec (fun k => g ≤ k) wr 32 15 (.slice p m q) m (evs (roundTo lost I))) ∧ Hid (Mod nil w wr)) (fun _ v _ => N - (intOf v).toNat)
  case atStart => exact ⟨0, 0, 0, none, 0, by omega, rfl, Lib.hid rfl, rfl, Lib.hid rfl, Lib.hid (IsVec.nil _ _ _ _), Lib.hid (Mod.refl _ _)⟩
  case round =>
    obtain ⟨P, I0, m0, p0', q0', hP, rfl, HI0, rfl, HMC0, HVR0, HMR0⟩ := hrel
    by_cases hlt : P < N
    · have hPn := HNP.out P hlt
      have hP16 : P < 16 := by omega
      have hd16 : decide ((P : Int) < 16) = true := by simp; omega
      obtain ⟨wo, rfl⟩ : ∃ wo : World, wo = wr := ⟨_, rfl⟩
      go_wp2_with fail
      go_loopw [5, 7] (fun v5 v7 wr => ∃ (R I m : Nat) (p : Option Addr) (q : Nat), R ≤ 2 ∧ v7 = .int .i64 R ∧ Hid (I = 2 * P + R) ∧ I ≤ 32 ∧ v5 = .slice p m q ∧ Hid (m = (roundTo lost I).length) ∧ Hid (IsVec (fun k => g ≤ k) wr 32 15 (.slice p m q) m (evs (roundTo lost I))) ∧ Hid (Mod nil w wr)) (fun _ v _ => 2 - (intOf v).toNat)
      case atStart => exact ⟨0, I0, m0, p0', q0', by omega, rfl, Lib.hid (by have := HI0.out; omega), by have := HI0.out; omega, rfl, HMC0, HVR0, HMR0⟩
      case round =>
        obtain ⟨R, I, m, p, q, hR, rfl, HI, hI32, rfl, HMC, HVR, HMR⟩ := hrel
        clear HMC0 HVR0 HMR0 HI0
        have hmle : m ≤ 100 := by have := HMC.out; have := roundTo_le lost I; omega
        by_cases hlt2 : R < 2
        · obtain ⟨v7, w7, hrun, hvec, hmod⟩ := ev_append (news := evs [ev4 3 P R 0]) (m := 1) 24 HVR.out rfl rfl (one_ev4s [ev4 3 P R 0] (by simp [ev4])) (by omega)
          obtain ⟨p7, q7, rfl⟩ := hvec.form
          simp only [evs, List.flatMap_cons, List.flatMap_nil, List.append_nil, List.cons_append, List.nil_append, Ev.vals, ev4] at hrun
          have HRUN := Lib.hid hrun
          have HV7 := Lib.hid hvec
          have HM7 := Lib.hid hmod
          have hQ : I / 2 = P := by have := HI.out; omega
          have hRR : I % 2 = R := by have := HI.out; omega
          have HIA : Hid (roundAt lost I = [ev4 3 P R 0] ++ (if I < lost.length ∧ (lost.getD I 0).toNat % 2 = 1 then [ev4 5 0 0 0] else [ev4 4 0 0 0, ev4 4 0 0 0])) := Lib.hid (by unfold roundAt; rw [hQ, hRR]; rfl)
          have hw : IntKind.i64.wrap (2 * (P : Int)) = 2 * (P : Int) := by rw [IntKind.wrap_i64]; omega
          have hw2 : 2 * (P : Int) + (R : Int) = (I : Int) := by have := HI.out; omega
          clear hrun hvec hmod hQ hRR
          go_upto_region 10 with (first | (at_builtin; refine wpList_append_run rfl _ _ _ _ rfl rfl rfl HRUN.out ?_))
          by_cases hiL : I < L
          · obtain ⟨pb, po, hp0, hcell⟩ : ∃ pb po, p0 = some ⟨pb, po, none⟩ ∧ w7.cell? ⟨pb, po + I, none⟩ = some (.int .u8 (lost.getD I 0).toNat) := by
              obtain ⟨p', c', hp, hcc⟩ := HROW.out
              obtain ⟨b', o', h1, h2, h3, h4⟩ := hcc I (by rw [bys_length, HLB.out]; exact hiL)
              simp only [Value.slice.injEq] at hp
              obtain ⟨rfl, -, -⟩ := hp
              rw [bys_getD _ _ (by rw [HLB.out]; exact hiL)] at h4
              exact ⟨b', o', h1, cell_kept h4 (HMR.out.trans HM7.out (fun k hk h => by have := HG.out; omega)) h3 (not_nil _)⟩
            subst hp0
            have hsuc : roundTo lost (I + 1) = roundTo lost I ++ ([ev4 3 P R 0] ++ (if I < lost.length ∧ (lost.getD I 0).toNat % 2 = 1 then [ev4 5 0 0 0] else [ev4 4 0 0 0, ev4 4 0 0 0])) := by show roundTo lost I ++ roundAt lost I = _; rw [HIA.out]
            obtain ⟨c, hc⟩ : ∃ c, (lost.getD I 0).toNat = c := ⟨_, rfl⟩
            rw [hc] at hcell hsuc
            have hct : ((c : Nat) : Int).tmod 2 = ((c % 2 : Nat) : Int) := rfl
            by_cases hodd : c % 2 = 1
            · rw [if_pos ⟨by rw [HLB.out]; exact hiL, hodd⟩] at hsuc
              rw [hodd] at hct
              have HSUC := Lib.hid hsuc
              clear hsuc hc hodd HIA hw hw2
              obtain ⟨v8, w8, hrun, hvec, hmod⟩ := ev_append (news := evs [ev4 5 0 0 0]) (m := 1) 24 HV7.out rfl rfl (one_ev4s [ev4 5 0 0 0] (by simp [ev4])) (by omega)
              obtain ⟨p8, q8, rfl⟩ := hvec.form
              simp only [evs, List.flatMap_cons, List.flatMap_nil, List.append_nil, List.cons_append, List.nil_append, Ev.vals, ev4] at hrun
              have HRUN8 := Lib.hid hrun
              have HV8 : Hid (IsVec (fun k => g ≤ k) w8 32 15 (.slice p8 (m + 1 + 1) q8) (m + 1 + 1) (evs (roundTo lost (I + 1)))) := Lib.hid (by
                rw [HSUC.out, evs_append, evs_append, ← List.append_assoc]
                exact hvec.mono (fun k _ hk => hk.elim (fun h => h.elim id (fun h => by have := HG.out; have := HMR.out.size; omega)) (fun h => by have := HG.out; have := HMR.out.size; have := HM7.out.size; omega)))
              have HMC8 : Hid (m + 1 + 1 = (roundTo lost (I + 1)).length) := Lib.hid (by rw [HSUC.out, List.length_append, ← HMC.out]; simp <;> omega)
              have HM8 : Hid (Mod nil w w8) := Lib.hid ((HMR.out.trans HM7.out (fun k hk h => by have := HG.out; omega)).trans hmod (fun k hk h => by have := HG.out; have := HMR.out.size; omega))
              clear hrun hvec hmod
              go_wp2_with (first | (at_builtin; refine wpList_append_run rfl _ _ _ _ rfl rfl rfl HRUN8.out ?_))
              exact ⟨⟨R + 1, I + 1, m + 1 + 1, p8, q8, by omega, by go_num, Lib.hid (by have := HI.out; omega), by have := HI.out; omega, rfl, HMC8, HV8, HM8⟩, by simp [intOf] <;> omega⟩
            · rw [if_neg (fun h => hodd h.2)] at hsuc
              have ho0 : c % 2 = 0 := by omega
              rw [ho0] at hct
              have HSUC := Lib.hid hsuc
              clear hsuc hc hodd ho0 HIA hw hw2
              obtain ⟨v8, w8, hrun, hvec, hmod⟩ := ev_append (news := evs [ev4 4 0 0 0, ev4 4 0 0 0]) (m := 2) 24 HV7.out rfl rfl (one_ev4s [ev4 4 0 0 0, ev4 4 0 0 0] (by simp [ev4])) (by omega)
              obtain ⟨p8, q8, rfl⟩ := hvec.form
              simp only [evs, List.flatMap_cons, List.flatMap_nil, List.append_nil, List.cons_append, List.nil_append, Ev.vals, ev4] at hrun
              have HRUN8 := Lib.hid hrun
              have HV8 : Hid (IsVec (fun k => g ≤ k) w8 32 15 (.slice p8 (m + 1 + 2) q8) (m + 1 + 2) (evs (roundTo lost (I + 1)))) := Lib.hid (by
                rw [HSUC.out, evs_append, evs_append, ← List.append_assoc]
                exact hvec.mono (fun k _ hk => hk.elim (fun h => h.elim id (fun h => by have := HG.out; have := HMR.out.size; omega)) (fun h => by have := HG.out; have := HMR.out.size; have := HM7.out.size; omega)))
              have HMC8 : Hid (m + 1 + 2 = (roundTo lost (I + 1)).length) := Lib.hid (by rw [HSUC.out, List.length_append, ← HMC.out]; simp <;> omega)
              have HM8 : Hid (Mod nil w w8) := Lib.hid ((HMR.out.trans HM7.out (fun k hk h => by have := HG.out; omega)).trans hmod (fun k hk h => by have := HG.out; have := HMR.out.size; omega))
              clear hrun hvec hmod
              go_wp2_with (first | (at_builtin; refine wpList_append_run rfl _ _ _ _ rfl rfl rfl HRUN8.out ?_))
              exact ⟨⟨R + 1, I + 1, m + 1 + 2, p8, q8, by omega, by go_num, Lib.hid (by have := HI.out; omega), by have := HI.out; omega, rfl, HMC8, HV8, HM8⟩, by simp [intOf] <;> omega⟩
          · have hsuc : roundTo lost (I + 1) = roundTo lost I ++ ([ev4 3 P R 0] ++ [ev4 4 0 0 0, ev4 4 0 0 0]) := by show roundTo lost I ++ roundAt lost I = _; rw [HIA.out, if_neg (fun h => hiL (by have := HLB.out; omega))]
            have HSUC := Lib.hid hsuc
            clear hsuc HIA hw hw2
            obtain ⟨v8, w8, hrun, hvec, hmod⟩ := ev_append (news := evs [ev4 4 0 0 0, ev4 4 0 0 0]) (m := 2) 24 HV7.out rfl rfl (one_ev4s [ev4 4 0 0 0, ev4 4 0 0 0] (by simp [ev4])) (by omega)
            obtain ⟨p8, q8, rfl⟩ := hvec.form
            simp only [evs, List.flatMap_cons, List.flatMap_nil, List.append_nil, List.cons_append, List.nil_append, Ev.vals, ev4] at hrun
            have HRUN8 := Lib.hid hrun
            have HV8 : Hid (IsVec (fun k => g ≤ k) w8 32 15 (.slice p8 (m + 1 + 2) q8) (m + 1 + 2) (evs (roundTo lost (I + 1)))) := Lib.hid (by
              rw [HSUC.out, evs_append, evs_append, ← List.append_assoc]
              exact hvec.mono (fun k _ hk => hk.elim (fun h => h.elim id (fun h => by have := HG.out; have := HMR.out.size; omega)) (fun h => by have := HG.out; have := HMR.out.size; have := HM7.out.size; omega)))
            have HMC8 : Hid (m + 1 + 2 = (roundTo lost (I + 1)).length) := Lib.hid (by rw [HSUC.out, List.length_append, ← HMC.out]; simp <;> omega)
            have HM8 : Hid (Mod nil w w8) := Lib.hid ((HMR.out.trans HM7.out (fun k hk h => by have := HG.out; omega)).trans hmod (fun k hk h => by have := HG.out; have := HMR.out.size; omega))
            clear hrun hvec hmod
            go_wp2_with (first | (at_builtin; refine wpList_append_run rfl _ _ _ _ rfl rfl rfl HRUN8.out ?_))
            exact ⟨⟨R + 1, I + 1, m + 1 + 2, p8, q8, by omega, by go_num, Lib.hid (by have := HI.out; omega), by have := HI.out; omega, rfl, HMC8, HV8, HM8⟩, by simp [intOf] <;> omega⟩
        · obtain rfl : R = 2 := by omega
          go_wp2_with fail
          exact ⟨⟨P + 1, I, m, p, q, by omega, by go_num, Lib.hid (by have := HI.out; omega), rfl, HMC, HVR, HMR⟩, by simp [intOf]; omega⟩
    · obtain rfl : P = N := by omega
      have hmle : m0 ≤ 100 := by have := HMC0.out; have := roundTo_le lost I0; have := HI0.out; omega
      obtain ⟨v8, w8, hrun, hvec, hmod⟩ := ev_append (news := evs [ev4 1 0 0 1]) (m := 1) 24 HVR0.out rfl rfl (one_ev4s [ev4 1 0 0 1] (by simp [ev4])) (by omega)
      obtain ⟨p8, q8, rfl⟩ := hvec.form
      simp only [evs, List.flatMap_cons, List.flatMap_nil, List.append_nil, List.cons_append, List.nil_append, Ev.vals, ev4] at hrun
      have HRUN8 := Lib.hid hrun
      have HEND : Hid (Post (.returned (.slice p8 (m0 + 1) q8)) w8) := Lib.hid (HPOST.out _ _ ⟨_, rfl, by
        rw [HALL.out, ← HI0.out, evs_append, List.length_append, ← HMC0.out]
        exact hvec.mono (fun k _ hk => hk.elim (fun h => by have := HG.out; omega) (fun h => by have := HG.out; have := HMR0.out.size; omega)), HMR0.out.trans hmod (fun k hk h => by have := HG.out; omega)⟩)
      clear hrun hvec hmod
      by_cases hPn : (P : Int) < n
      · obtain rfl : P = 16 := hNn hPn
        go_wp2_with (first | (at_builtin; refine wpList_append_run rfl _ _ _ _ rfl rfl rfl HRUN8.out ?_))
        exact HEND.out
      · go_wp2_with (first | (at_builtin; refine wpList_append_run rfl _ _ _ _ rfl rfl rfl HRUN8.out ?_))
        exact HEND.out
end Go.Proofs.Ytlkhihdgaimboaa

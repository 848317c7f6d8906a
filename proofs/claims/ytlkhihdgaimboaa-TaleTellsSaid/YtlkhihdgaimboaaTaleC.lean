/- Package tale: Round. -/
import Derived.Test.YtlkhihdgaimboaaTaleB
namespace Go.Proofs.Ytlkhihdgaimboaa
open Go.RowKit

/-- an event: its numbers, its bytes, its bits (the plan and the secret are none) -/
structure Ev where
  k : Int
  a : Int
  b : Int
  n : Int
  x : Value
  y : Value
def Ev.vals (e : Ev) : List Value := [.int .i64 e.k, .int .i64 e.a, .int .i64 e.b, .int .i64 e.n, e.x, e.y, .int .i64 0, .slice none 0 0, .slice none 0 0, .string ⟨#[]⟩, .int .i64 0, .int .i64 0, .int .i64 0, .slice none 0 0, .string ⟨#[]⟩]
def evs (l : List Ev) : List Value := l.flatMap Ev.vals
theorem evs_length (l : List Ev) : (evs l).length = l.length * 15 := by
  induction l with
  | nil => rfl
  | cons x l ih => simp only [evs, List.flatMap_cons, List.length_append, List.length_cons] at ih ⊢; rw [ih]; simp [Ev.vals]; omega
theorem evs_append (l m : List Ev) : evs (l ++ m) = evs l ++ evs m := by simp [evs]
theorem info_event : (Try.prog.info? 32).map (fun i => (i.zero, i.size, i.bytes)) = some (some (.agg #[.int .i64 0, .int .i64 0, .int .i64 0, .int .i64 0, .slice none 0 0, .slice none 0 0, .int .i64 0, .slice none 0 0, .slice none 0 0, .string ⟨#[]⟩, .int .i64 0, .int .i64 0, .int .i64 0, .slice none 0 0, .string ⟨#[]⟩]), 15, 216) := by kernel_rfl
/-- append of new events -/
theorem ev_append {S : Nat → Prop} {w : World} (ty : TypeId) {v : Value} {n m g : Nat} {xs news : List Value} (hv : IsVec S w 32 15 v n xs) (hg : w.heap.size = g) (hl : news.length = m * 15) (h1 : ∀ u ∈ news, u.oneCell' = true) (hb : n + m ≤ 100000) :
    ∃ v' w', (Builtin.append_ #[24, 24] ty #[v, .slice (some ⟨g, 0, none⟩) m m]).run Try.prog (w.alloc (.cells news.toArray 32)) = .ok v' w' ∧ IsVec (fun k => S k ∨ w.heap.size ≤ k) w' 32 15 v' (n + m) (xs ++ news) ∧ Mod S w w' := by
  obtain ⟨i0, hi, hz0, hz1, hz2⟩ := info_parts info_event
  have hm : Mod nil w (w.alloc (.cells news.toArray 32)) := (Mod.refl nil w).alloc _
  obtain ⟨v', w', hr, h2, h3⟩ := vec_append (P := Try.prog) 24 ty 32 i0 _ 15 216 Try.underlying24 hi hz0 hz1 hz2 rfl (by omega) (hv.modNil hm) (cells_at w 32 news m m g hg) hl h1 (by unfold maxLen; omega) (by omega)
  exact ⟨v', w', hr, h2.mono (fun k _ hk => hk.imp id (fun h => Nat.le_trans hm.size h)), hm.ofNil.trans h3 (fun _ _ h => h)⟩
theorem one_ev4s (l : List Ev) (h : ∀ e ∈ l, e.x = .slice none 0 0 ∧ e.y = .slice none 0 0) : ∀ u ∈ evs l, u.oneCell' = true := by
  intro u hu
  obtain ⟨e, he, hu⟩ := List.mem_flatMap.1 hu
  simp only [Ev.vals, List.mem_cons, List.not_mem_nil, or_false] at hu
  rcases hu with rfl | rfl | rfl | rfl | rfl | rfl | rfl | rfl | rfl | rfl | rfl | rfl | rfl | rfl | rfl
  all_goals first | rfl | (rw [(h e he).1]; rfl) | (rw [(h e he).2]; rfl)
def ev4 (k a b n : Int) : Ev := ⟨k, a, b, n, .slice none 0 0, .slice none 0 0⟩
/-- what Round tells of act i -/
def roundAt (lost : List UInt8) (i : Nat) : List Ev := ev4 3 (i / 2 : Nat) (i % 2 : Nat) 0 :: (if i < lost.length ∧ (lost.getD i 0).toNat % 2 = 1 then [ev4 5 0 0 0] else [ev4 4 0 0 0, ev4 4 0 0 0])
def roundTo (lost : List UInt8) : Nat → List Ev
  | 0 => []
  | k + 1 => roundTo lost k ++ roundAt lost k
def roundAll (n : Int) (lost : List UInt8) : List Ev := roundTo lost (2 * (min (max n 0) 16).toNat) ++ [ev4 1 0 0 1]
theorem roundAt_le (lost : List UInt8) (i : Nat) : (roundAt lost i).length ≤ 3 := by unfold roundAt; split <;> simp
theorem roundTo_le (lost : List UInt8) (i : Nat) : (roundTo lost i).length ≤ 3 * i := by
  induction i with
  | zero => simp [roundTo]
  | succ i ih => have := roundAt_le lost i; simp only [roundTo, List.length_append]; omega
set_option maxRecDepth 100000 in
theorem taleRound (T : Nat → Prop) (p0 : Option Addr) (len cap : Nat) (lost : List UInt8) (n : Int) (w : World) (hrow : IsRow T w (.slice p0 len cap) (bys lost)) (hl : lost.length ≤ 1099511627776) :
    Calls Try.prog 7 #[.int .i64 n, .slice p0 len cap] w fun e w' => ∃ v', e = .returned v' ∧ IsVec (fun k => w.heap.size ≤ k) w' 32 15 v' (roundAll n lost).length (evs (roundAll n lost)) ∧ Mod nil w w' := by
  refine (?_ : ∀ Post : Ending → World → Prop, Hid (∀ e w', (∃ v', e = .returned v' ∧ IsVec (fun k => w.heap.size ≤ k) w' 32 15 v' (roundAll n lost).length (evs (roundAll n lost)) ∧ Mod nil w w') → Post e w') → Calls Try.prog 7 #[.int .i64 n, .slice p0 len cap] w Post) _ (Lib.hid (fun _ _ h => h))
  intro Post HPOST
  have HROW := Lib.hid hrow
  obtain rfl : len = lost.length := by
    obtain ⟨_, _, h, _⟩ := hrow
    simp only [Value.slice.injEq, bys_length] at h
    exact h.2.1
  obtain ⟨L, hL⟩ : ∃ L, lost.length = L := ⟨_, rfl⟩
  rw [hL] at HROW hl ⊢
  have HLB := Lib.hid hL
  clear hrow hL
  obtain ⟨N, hN⟩ : ∃ N, (min (max n 0) 16).toNat = N := ⟨_, rfl⟩
  have hN16 : N ≤ 16 := by omega
  have hmm : min (max n 0) 16 = (N : Int) := by omega
  have hmul : IntKind.i64.wrap (2 * (N : Int)) = ((2 * N : Nat) : Int) := by rw [IntKind.wrap_i64]; omega
  have HALL : Hid (roundAll n lost = roundTo lost (2 * N) ++ [ev4 1 0 0 1]) := Lib.hid (by unfold roundAll; rw [hN])
  clear hN
  obtain ⟨M, hM⟩ : ∃ M, M = 2 * N := ⟨_, rfl⟩
  rw [← hM] at hmul HALL
  have hM32 : M ≤ 32 := by omega
  obtain ⟨A, hA⟩ : ∃ A, max n 0 = A := ⟨_, rfl⟩
  rw [hA] at hmm
  obtain ⟨g, hg⟩ : ∃ g, w.heap.size = g := ⟨_, rfl⟩
  have HG := Lib.hid hg
  clear hg
  go_enter Try.func7, Try.ntmps7
  go_upto_region 2 with (fail)
  go_cut [7, 8, 9, 10, 11] from 48 (fun _ _ _ s10 s11 wx => w = wx ∧ (∃ z : Int, s10 = .int .i64 z ∧ z = M) ∧ s11 = .int .i64 0)
  case first =>
    have hw1 : IntKind.i64.wrap (2 * 0) = 0 := by rw [IntKind.wrap_i64]; omega
    have hw2 : IntKind.i64.wrap (2 * 16) = 32 := by rw [IntKind.wrap_i64]; omega
    rcases (show n < 0 ∨ (0 ≤ n ∧ n < 16) ∨ 16 ≤ n by omega) with h | h | h
    · have e2 : (0 : Int) = M := by omega
      clear hmm hA hM hmul
      go_wp2_with fail
      all_goals go_meet
      all_goals exact ⟨rfl, ⟨_, rfl, by omega⟩, rfl⟩
    · have hw : IntKind.i64.wrap (2 * n) = 2 * n := by rw [IntKind.wrap_i64]; omega
      have e0 : 2 * n = M := by omega
      have e2 : ¬ n < 0 := by omega
      have e3 : ¬ 16 < n := by omega
      clear hmm hA hmul hM
      go_wp2_with fail
      all_goals go_meet
      all_goals exact ⟨rfl, ⟨_, rfl, by omega⟩, rfl⟩
    · have e2 : (32 : Int) = M := by omega
      have e3 : ¬ n < 0 := by omega
      clear hmm hA hmul hM
      go_wp2_with fail
      all_goals go_meet
      all_goals exact ⟨rfl, ⟨_, rfl, by omega⟩, rfl⟩
  case rest =>
  obtain ⟨rfl, ⟨_, rfl, rfl⟩, rfl⟩ := hcut
  clear hmm hA hM hmul
  go_wp2_with fail
  go_loopw [5, 11] (fun v5 v11 wr => ∃ (i m : Nat) (p : Option Addr) (q : Nat), i ≤ M ∧ v11 = .int .i64 i ∧ v5 = .slice p m q ∧ Hid (m = (roundTo lost i).length) ∧ Hid (IsVec (fun k => g ≤ k) wr 32 15 (.slice p m q) m (evs (roundTo lost i))) ∧ Hid (Mod nil w wr)) (fun _ v _ => M - (intOf v).toNat)
  case atStart => exact ⟨0, 0, none, 0, by omega, rfl, rfl, Lib.hid rfl, Lib.hid (IsVec.nil _ _ _ _), Lib.hid (Mod.refl _ _)⟩
  case round =>
    obtain ⟨i, m, p, q, hi, rfl, rfl, HMC, HVR, HMR⟩ := hrel
    have hmle : m ≤ 100 := by have := HMC.out; have := roundTo_le lost i; omega
    by_cases hlt : i < M
    · have hq : ((i : Nat) : Int).tdiv 2 = ((i / 2 : Nat) : Int) := rfl
      have hr : ((i : Nat) : Int).tmod 2 = ((i % 2 : Nat) : Int) := rfl
      obtain ⟨Q, hQ⟩ : ∃ Q, i / 2 = Q := ⟨_, rfl⟩
      obtain ⟨R, hR⟩ : ∃ R, i % 2 = R := ⟨_, rfl⟩
      rw [hQ] at hq
      rw [hR] at hr
      have hwq : IntKind.i64.wrap (Q : Int) = (Q : Int) := by rw [IntKind.wrap_i64]; omega
      obtain ⟨v7, w7, hrun, hvec, hmod⟩ := ev_append (news := evs [ev4 3 Q R 0]) (m := 1) 24 HVR.out rfl rfl (one_ev4s [ev4 3 Q R 0] (by simp [ev4])) (by omega)
      obtain ⟨p7, q7, rfl⟩ := hvec.form
      simp only [evs, List.flatMap_cons, List.flatMap_nil, List.append_nil, List.cons_append, List.nil_append, Ev.vals, ev4] at hrun
      have HRUN := Lib.hid hrun
      have HV7 := Lib.hid hvec
      have HM7 := Lib.hid hmod
      clear hrun hvec hmod
      go_upto_region 6 with (first | (at_builtin; refine wpList_append_run rfl _ _ _ _ rfl rfl rfl HRUN.out ?_))
      by_cases hiL : i < L
      · obtain ⟨pb, po, hp0, hcell⟩ : ∃ pb po, p0 = some ⟨pb, po, none⟩ ∧ w7.cell? ⟨pb, po + i, none⟩ = some (.int .u8 (lost.getD i 0).toNat) := by
          obtain ⟨p', c', hp, hcc⟩ := HROW.out
          obtain ⟨b', o', h1, h2, h3, h4⟩ := hcc i (by rw [bys_length, HLB.out]; exact hiL)
          simp only [Value.slice.injEq] at hp
          obtain ⟨rfl, -, -⟩ := hp
          rw [bys_getD _ _ (by rw [HLB.out]; exact hiL)] at h4
          exact ⟨b', o', h1, cell_kept h4 (HMR.out.trans HM7.out (fun k hk h => by have := HG.out; omega)) h3 (not_nil _)⟩
        subst hp0
        have hsuc : roundTo lost (i + 1) = roundTo lost i ++ ([ev4 3 Q R 0] ++ (if i < lost.length ∧ (lost.getD i 0).toNat % 2 = 1 then [ev4 5 0 0 0] else [ev4 4 0 0 0, ev4 4 0 0 0])) := by show roundTo lost i ++ roundAt lost i = _; unfold roundAt; rw [hQ, hR]; rfl
        obtain ⟨c, hc⟩ : ∃ c, (lost.getD i 0).toNat = c := ⟨_, rfl⟩
        rw [hc] at hcell hsuc
        have hct : ((c : Nat) : Int).tmod 2 = ((c % 2 : Nat) : Int) := rfl
        by_cases hodd : c % 2 = 1
        · rw [if_pos ⟨by rw [HLB.out]; exact hiL, hodd⟩] at hsuc
          rw [hodd] at hct
          have HSUC := Lib.hid hsuc
          clear hsuc hc hQ hR hodd
          obtain ⟨v8, w8, hrun, hvec, hmod⟩ := ev_append (news := evs [ev4 5 0 0 0]) (m := 1) 24 HV7.out rfl rfl (one_ev4s [ev4 5 0 0 0] (by simp [ev4])) (by omega)
          obtain ⟨p8, q8, rfl⟩ := hvec.form
          simp only [evs, List.flatMap_cons, List.flatMap_nil, List.append_nil, List.cons_append, List.nil_append, Ev.vals, ev4] at hrun
          have HRUN8 := Lib.hid hrun
          have HV8 : Hid (IsVec (fun k => g ≤ k) w8 32 15 (.slice p8 (m + 1 + 1) q8) (m + 1 + 1) (evs (roundTo lost (i + 1)))) := Lib.hid (by
            rw [HSUC.out, evs_append, evs_append, ← List.append_assoc]
            exact hvec.mono (fun k _ hk => hk.elim (fun h => h.elim id (fun h => by have := HG.out; have := HMR.out.size; omega)) (fun h => by have := HG.out; have := HMR.out.size; have := HM7.out.size; omega)))
          have HMC8 : Hid (m + 1 + 1 = (roundTo lost (i + 1)).length) := Lib.hid (by rw [HSUC.out, List.length_append, ← HMC.out]; simp <;> omega)
          have HM8 : Hid (Mod nil w w8) := Lib.hid ((HMR.out.trans HM7.out (fun k hk h => by have := HG.out; omega)).trans hmod (fun k hk h => by have := HG.out; have := HMR.out.size; omega))
          clear hrun hvec hmod
          go_wp2_with (first | (at_builtin; refine wpList_append_run rfl _ _ _ _ rfl rfl rfl HRUN8.out ?_))
          exact ⟨⟨i + 1, m + 1 + 1, p8, q8, by omega, rfl, rfl, HMC8, HV8, HM8⟩, by simp [intOf] <;> omega⟩
        · rw [if_neg (fun h => hodd h.2)] at hsuc
          have ho0 : c % 2 = 0 := by omega
          rw [ho0] at hct
          have HSUC := Lib.hid hsuc
          clear hsuc hc hQ hR hodd ho0
          obtain ⟨v8, w8, hrun, hvec, hmod⟩ := ev_append (news := evs [ev4 4 0 0 0, ev4 4 0 0 0]) (m := 2) 24 HV7.out rfl rfl (one_ev4s [ev4 4 0 0 0, ev4 4 0 0 0] (by simp [ev4])) (by omega)
          obtain ⟨p8, q8, rfl⟩ := hvec.form
          simp only [evs, List.flatMap_cons, List.flatMap_nil, List.append_nil, List.cons_append, List.nil_append, Ev.vals, ev4] at hrun
          have HRUN8 := Lib.hid hrun
          have HV8 : Hid (IsVec (fun k => g ≤ k) w8 32 15 (.slice p8 (m + 1 + 2) q8) (m + 1 + 2) (evs (roundTo lost (i + 1)))) := Lib.hid (by
            rw [HSUC.out, evs_append, evs_append, ← List.append_assoc]
            exact hvec.mono (fun k _ hk => hk.elim (fun h => h.elim id (fun h => by have := HG.out; have := HMR.out.size; omega)) (fun h => by have := HG.out; have := HMR.out.size; have := HM7.out.size; omega)))
          have HMC8 : Hid (m + 1 + 2 = (roundTo lost (i + 1)).length) := Lib.hid (by rw [HSUC.out, List.length_append, ← HMC.out]; simp <;> omega)
          have HM8 : Hid (Mod nil w w8) := Lib.hid ((HMR.out.trans HM7.out (fun k hk h => by have := HG.out; omega)).trans hmod (fun k hk h => by have := HG.out; have := HMR.out.size; omega))
          clear hrun hvec hmod
          go_wp2_with (first | (at_builtin; refine wpList_append_run rfl _ _ _ _ rfl rfl rfl HRUN8.out ?_))
          exact ⟨⟨i + 1, m + 1 + 2, p8, q8, by omega, rfl, rfl, HMC8, HV8, HM8⟩, by simp [intOf] <;> omega⟩
      · have hsuc : roundTo lost (i + 1) = roundTo lost i ++ ([ev4 3 Q R 0] ++ [ev4 4 0 0 0, ev4 4 0 0 0]) := by show roundTo lost i ++ roundAt lost i = _; unfold roundAt; rw [hQ, hR, if_neg (fun h => hiL (by have := HLB.out; omega))]; rfl
        have HSUC := Lib.hid hsuc
        clear hsuc hQ hR
        obtain ⟨v8, w8, hrun, hvec, hmod⟩ := ev_append (news := evs [ev4 4 0 0 0, ev4 4 0 0 0]) (m := 2) 24 HV7.out rfl rfl (one_ev4s [ev4 4 0 0 0, ev4 4 0 0 0] (by simp [ev4])) (by omega)
        obtain ⟨p8, q8, rfl⟩ := hvec.form
        simp only [evs, List.flatMap_cons, List.flatMap_nil, List.append_nil, List.cons_append, List.nil_append, Ev.vals, ev4] at hrun
        have HRUN8 := Lib.hid hrun
        have HV8 : Hid (IsVec (fun k => g ≤ k) w8 32 15 (.slice p8 (m + 1 + 2) q8) (m + 1 + 2) (evs (roundTo lost (i + 1)))) := Lib.hid (by
          rw [HSUC.out, evs_append, evs_append, ← List.append_assoc]
          exact hvec.mono (fun k _ hk => hk.elim (fun h => h.elim id (fun h => by have := HG.out; have := HMR.out.size; omega)) (fun h => by have := HG.out; have := HMR.out.size; have := HM7.out.size; omega)))
        have HMC8 : Hid (m + 1 + 2 = (roundTo lost (i + 1)).length) := Lib.hid (by rw [HSUC.out, List.length_append, ← HMC.out]; simp <;> omega)
        have HM8 : Hid (Mod nil w w8) := Lib.hid ((HMR.out.trans HM7.out (fun k hk h => by have := HG.out; omega)).trans hmod (fun k hk h => by have := HG.out; have := HMR.out.size; omega))
        clear hrun hvec hmod
        go_wp2_with (first | (at_builtin; refine wpList_append_run rfl _ _ _ _ rfl rfl rfl HRUN8.out ?_))
        exact ⟨⟨i + 1, m + 1 + 2, p8, q8, by omega, rfl, rfl, HMC8, HV8, HM8⟩, by simp [intOf] <;> omega⟩
    · obtain rfl : i = M := by omega
      obtain ⟨v8, w8, hrun, hvec, hmod⟩ := ev_append (news := evs [ev4 1 0 0 1]) (m := 1) 24 HVR.out rfl rfl (one_ev4s [ev4 1 0 0 1] (by simp [ev4])) (by omega)
      obtain ⟨p8, q8, rfl⟩ := hvec.form
      simp only [evs, List.flatMap_cons, List.flatMap_nil, List.append_nil, List.cons_append, List.nil_append, Ev.vals, ev4] at hrun
      have HRUN8 := Lib.hid hrun
      have HEND : Hid (Post (.returned (.slice p8 (m + 1) q8)) w8) := Lib.hid (HPOST.out _ _ ⟨_, rfl, by
        rw [HALL.out, evs_append, List.length_append, ← HMC.out]
        exact hvec.mono (fun k _ hk => hk.elim (fun h => by have := HG.out; omega) (fun h => by have := HG.out; have := HMR.out.size; omega)), HMR.out.trans hmod (fun k hk h => by have := HG.out; omega)⟩)
      clear hrun hvec hmod
      go_wp2_with (first | (at_builtin; refine wpList_append_run rfl _ _ _ _ rfl rfl rfl HRUN8.out ?_))
      exact HEND.out
end Go.Proofs.Ytlkhihdgaimboaa

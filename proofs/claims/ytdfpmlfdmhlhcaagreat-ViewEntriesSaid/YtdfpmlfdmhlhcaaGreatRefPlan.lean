/- cflref18: in, Gap, End, Place, SameLegs, SamePlan; cflref1.Tick. (Printed by wip/tools/gen_refplan.py.) -/
import Derived.Test.YtdfpmlfdmhlhcaaGreatPlanK
import Derived.Test.YtdfpmlfdmhlhcaaGreatPlanJ
import Derived.Test.YtdfpmlfdmhlhcaaGreatSame
namespace Go.Proofs.YtdfpmlfdmhlhcaaGreat
open Go.RowKit

theorem refIn (n a b : Int) (w : World) : Calls Tryz.prog 53 #[.int .i64 n, .int .i64 a, .int .i64 b] w fun e w' => e = .returned (.bool (decide (a ≤ n ∧ n ≤ b))) ∧ w' = w := by
  by_cases h1 : a ≤ n
  · by_cases h2 : n ≤ b
    · rw [decide_eq_true ⟨h1, h2⟩]
      go_enter Tryz.func53, Tryz.ntmps53
      go_wp2_with fail
      go_ret
      exact ⟨by simp [h1, h2], rfl⟩
    · rw [decide_eq_false (fun h => h2 h.2)]
      go_enter Tryz.func53, Tryz.ntmps53
      go_wp2_with fail
      go_ret
      exact ⟨by simp [h1, h2], rfl⟩
  · rw [decide_eq_false (fun h => h1 h.1)]
    go_enter Tryz.func53, Tryz.ntmps53
    go_wp2_with fail
    go_ret
    exact ⟨by simp [h1], rfl⟩
theorem refTick (n : Int) (w : World) : Calls Tryz.prog 148 #[.int .i64 n] w fun e w' => e = .returned (.bool (decide (tickN n))) ∧ w' = w := by
  by_cases h1 : 0 ≤ n
  · by_cases h2 : n ≤ 1099511627776
    · rw [decide_eq_true ⟨h1, h2⟩]
      go_enter Tryz.func148, Tryz.ntmps148
      go_wp2_with fail
      go_ret
      exact ⟨by simp [h1, h2], rfl⟩
    · rw [decide_eq_false (fun h => h2 h.2)]
      go_enter Tryz.func148, Tryz.ntmps148
      go_wp2_with fail
      go_ret
      exact ⟨by simp [h1, h2], rfl⟩
  · rw [decide_eq_false (fun h => h1 h.1)]
    go_enter Tryz.func148, Tryz.ntmps148
    go_wp2_with fail
    go_ret
    exact ⟨by simp [h1], rfl⟩
theorem refGap (eps wait : Int) (w : World) : Calls Tryz.prog 149 #[.int .i64 eps, .int .i64 wait] w fun e w' => e = .returned (.int .i64 (gapN eps wait)) ∧ w' = w := by
  have H1 := Lib.hid (refIn eps 0 1000 w)
  have H2 := Lib.hid (refIn wait 1 1000 w)
  obtain ⟨G, hG⟩ : ∃ G, gapN eps wait = G := ⟨_, rfl⟩
  rw [hG]
  by_cases h1 : 0 ≤ eps ∧ eps ≤ 1000
  · rw [decide_eq_true h1] at H1
    by_cases h2 : 1 ≤ wait ∧ wait ≤ 1000
    · rw [decide_eq_true h2] at H2
      have hg : 2 * eps + 2 * wait + 2 = G := by rw [← hG]; exact (if_pos ⟨h1.1, h1.2, h2.1, h2.2⟩).symm
      have e1 : IntKind.i64.wrap (2 * eps) = 2 * eps := by rw [IntKind.wrap_i64]; omega
      have e2 : IntKind.i64.wrap (2 * wait) = 2 * wait := by rw [IntKind.wrap_i64]; omega
      have e3 : IntKind.i64.wrap (2 * eps + 2 * wait) = 2 * eps + 2 * wait := by rw [IntKind.wrap_i64]; omega
      have e4 : IntKind.i64.wrap (2 * eps + 2 * wait + 2) = G := by rw [hg, IntKind.wrap_i64]; omega
      clear hg hG h1 h2
      go_enter Tryz.func149, Tryz.ntmps149
      go_wp2_with fail
      refine H1.out.mono ?_
      rintro e w' ⟨rfl, rfl⟩
      go_wp2_with fail
      refine H2.out.mono ?_
      rintro e w' ⟨rfl, rfl⟩
      go_wp2_with fail
      go_ret
      exact ⟨rfl, rfl⟩
    · rw [decide_eq_false h2] at H2
      obtain rfl : G = 0 := by rw [← hG]; exact if_neg (fun h => h2 ⟨h.2.2.1, h.2.2.2⟩)
      clear hG h1 h2
      go_enter Tryz.func149, Tryz.ntmps149
      go_wp2_with fail
      refine H1.out.mono ?_
      rintro e w' ⟨rfl, rfl⟩
      go_wp2_with fail
      refine H2.out.mono ?_
      rintro e w' ⟨rfl, rfl⟩
      go_wp2_with fail
      go_ret
      exact ⟨rfl, rfl⟩
  · rw [decide_eq_false h1] at H1
    obtain rfl : G = 0 := by rw [← hG]; exact if_neg (fun h => h1 ⟨h.1, h.2.1⟩)
    clear hG h1
    go_enter Tryz.func149, Tryz.ntmps149
    go_wp2_with fail
    refine H1.out.mono ?_
    rintro e w' ⟨rfl, rfl⟩
    go_wp2_with fail
    go_ret
    exact ⟨rfl, rfl⟩


set_option maxRecDepth 100000 in
set_option maxHeartbeats 1000000 in
theorem refSameLegs (S T : Nat → Prop) (pa pb : Option Addr) (na ca nb cb : Nat) (la lb : List (List It)) (w : World) (ha : IsLegs S w (.slice pa na ca) la) (hb : IsLegs T w (.slice pb nb cb) lb) (hm : na ≤ 1000000) (hl : ∀ l ∈ la, l.length ≤ 1000000) :
    Calls Tryz.prog 61 #[.slice pa na ca, .slice pb nb cb] w fun e w' => e = .returned (.bool (decide (la = lb))) ∧ Mod nil w w' := by
  refine (?_ : ∀ Post : Ending → World → Prop, Hid (∀ e w', (e = .returned (.bool (decide (la = lb))) ∧ Mod nil w w') → Post e w') → Calls Tryz.prog 61 #[.slice pa na ca, .slice pb nb cb] w Post) _ (Lib.hid (fun _ _ h => h))
  intro Post HPOST
  have hla : la.length = na := by obtain ⟨_, _, h⟩ := ha.form; simp only [Value.slice.injEq] at h; exact h.2.1.symm
  have hlb : lb.length = nb := by obtain ⟨_, _, h⟩ := hb.form; simp only [Value.slice.injEq] at h; exact h.2.1.symm
  by_cases hnm : na = nb
  · subst hnm
    have HA := Lib.hid ha
    have HB := Lib.hid hb
    have HLA := Lib.hid hla
    have HLB := Lib.hid hlb
    have HL := Lib.hid hl
    have hne : ((na : Int) != (na : Int)) = false := by simp
    clear ha hb hla hlb hl
    go_enter Tryz.func61, Tryz.ntmps61
    go_wp2_with fail
    clear hne
    go_loopw [5] (fun v wr => ∃ i : Nat, i ≤ na ∧ v = .int .i64 i ∧ Hid (la.take i = lb.take i) ∧ Hid (Mod nil w wr)) (fun v _ => na - (intOf v).toNat)
    case atStart => exact ⟨0, by omega, rfl, Lib.hid (by simp), Lib.hid (Mod.refl _ _)⟩
    case round =>
      obtain ⟨i, hi, rfl, HTK, HM⟩ := hrel
      by_cases hlt : i < na
      · have hia : i < la.length := by rw [HLA.out]; exact hlt
        have hib : i < lb.length := by rw [HLB.out]; exact hlt
        obtain ⟨ga, oa, xa, rfl, -, hga, ka, hitsa⟩ := (HA.out.modNil HM.out).at i hia
        obtain ⟨gb, ob, xb, rfl, -, hgb, kb, hitsb⟩ := (HB.out.modNil HM.out).at i hib
        obtain ⟨x, hx⟩ : ∃ x, la[i] = x := ⟨_, rfl⟩
        obtain ⟨y, hy⟩ : ∃ y, lb[i] = y := ⟨_, rfl⟩
        rw [hx] at hitsa
        rw [hy] at hitsb
        obtain ⟨px, cx, rfl⟩ := hitsa.form
        obtain ⟨py, cy, rfl⟩ := hitsb.form
        have HTA : Hid (la.take (i + 1) = la.take i ++ [x]) := Lib.hid (by rw [List.take_succ_eq_append_getElem hia, hx])
        have HTB : Hid (lb.take (i + 1) = lb.take i ++ [y]) := Lib.hid (by rw [List.take_succ_eq_append_getElem hib, hy])
        have hxm : x.length ≤ 1000000 := HL.out x (by rw [← hx]; exact List.getElem_mem _)
        have HCS : Hid (∀ W, Mod nil wr W → Calls Tryz.prog 110 #[.slice px x.length cx, .slice py y.length cy] W fun e w' => e = .returned (.bool (decide (x = y))) ∧ Mod nil wr w') := Lib.hid (fun W m => (sameItems _ _ px py x.length cx y.length cy x y W (hitsa.modNil m) (hitsb.modNil m) hxm).mono (fun e w' ⟨a, b⟩ => ⟨a, m.thenNil b⟩))
        obtain ⟨nx, hnx⟩ : ∃ n, x.length = n := ⟨_, rfl⟩
        obtain ⟨ny, hny⟩ : ∃ n, y.length = n := ⟨_, rfl⟩
        rw [hnx, hny] at HCS
        rw [hnx] at ka
        rw [hny] at kb
        clear hitsa hitsb hx hy hxm hnx hny
        obtain ⟨r, hr⟩ : ∃ r, decide (x = y) = r := ⟨_, rfl⟩
        rw [hr] at HCS
        have HR := Lib.hid hr
        clear hr
        go_upto_region 6 with (fail)
        go_region_held3 (fun w' => w'.cell? ⟨ga, oa + i, none⟩ = some (.slice px nx cx) ∧ w'.cell? ⟨gb, ob + i, none⟩ = some (.slice py ny cy)) (first | exact ⟨ka, kb⟩ | exact ⟨ka', kb'⟩) (first
          | (go_at_call 110; refine (HCS.out _ ?_).mono ?_; (repeat (first | exact Mod.refl _ _ | refine Mod.drew ?_)); rintro e wq ⟨rfl, hmq⟩; have ka' := cell_kept ka hmq hga (not_nil _); have kb' := cell_kept kb hmq hgb (not_nil _)))
        have HMN := Lib.hid (HM.out.thenNil hmq)
        clear hmq ka kb ka' kb'
        cases r
        · have HE : Hid (Post (.returned (.bool false)) wq) := Lib.hid (HPOST.out _ _ ⟨by
            rw [decide_eq_false]
            intro e
            have h1 := HTA.out
            rw [e, HTB.out] at h1
            have h2 := List.append_cancel_left h1
            exact of_decide_eq_false HR.out (by simpa using h2.symm), HMN.out⟩)
          go_wp2_with fail
          exact HE.out
        · have HN : Hid (la.take (i + 1) = lb.take (i + 1)) := Lib.hid (by rw [HTA.out, HTB.out, HTK.out, of_decide_eq_true HR.out])
          go_wp2_with fail
          exact ⟨⟨i + 1, by omega, by go_num, HN, HMN⟩, by simp [intOf]; omega⟩
      · obtain rfl : na = i := by omega
        have HE : Hid (Post (.returned (.bool true)) wr) := Lib.hid (HPOST.out _ _ ⟨by
          have h := HTK.out
          rw [List.take_of_length_le (by rw [HLA.out]; exact Nat.le_refl _), List.take_of_length_le (by rw [HLB.out]; exact Nat.le_refl _)] at h
          rw [decide_eq_true h], HM.out⟩)
        go_wp2_with fail
        exact HE.out
  · have hne : ((na : Int) != (nb : Int)) = true := by rw [bne_iff_ne]; omega
    have HEND : Hid (Post (.returned (.bool false)) w) := Lib.hid (HPOST.out _ _ ⟨by rw [decide_eq_false]; intro e; rw [e] at hla; omega, Mod.refl _ _⟩)
    clear ha hb hla hlb
    go_enter Tryz.func61, Tryz.ntmps61
    go_wp2_with fail
    exact HEND.out
set_option maxRecDepth 100000 in
set_option maxHeartbeats 8000000 in
theorem refSamePlan (S T : Nat → Prop) (va vb : Value) (P Q : Pl) (w : World) (hp : IsPl S w va P) (hq : IsPl T w vb Q) (hf : P.few) :
    Calls Tryz.prog 25 #[va, vb] w fun e w' => e = .returned (.bool (decide (P = Q))) ∧ Mod nil w w' := by
  refine (?_ : ∀ Post : Ending → World → Prop, Hid (∀ e w', (e = .returned (.bool (decide (P = Q))) ∧ Mod nil w w') → Post e w') → Calls Tryz.prog 25 #[va, vb] w Post) _ (Lib.hid (fun _ _ h => h))
  intro Post HPOST
  obtain ⟨p1a, c1a, p2a, c2a, p7a, c7a, rfl, hpa, hla, hda⟩ := hp
  obtain ⟨p1b, c1b, p2b, c2b, p7b, c7b, rfl, hpb, hlb, hdb⟩ := hq
  obtain ⟨da, psa, lsa, ha, sa, ea, ta, dla⟩ := P
  obtain ⟨db, psb, lsb, hb, sb, eb, tb, dlb⟩ := Q
  obtain ⟨hn1, hn2, hn7, hls⟩ := hf
  simp only at *
  obtain ⟨n1a, e1⟩ : ∃ n, psa.length = n := ⟨_, rfl⟩
  obtain ⟨n1b, e2⟩ : ∃ n, psb.length = n := ⟨_, rfl⟩
  obtain ⟨n2a, e3⟩ : ∃ n, lsa.length = n := ⟨_, rfl⟩
  obtain ⟨n2b, e4⟩ : ∃ n, lsb.length = n := ⟨_, rfl⟩
  obtain ⟨n7a, e5⟩ : ∃ n, dla.length = n := ⟨_, rfl⟩
  obtain ⟨n7b, e6⟩ : ∃ n, dlb.length = n := ⟨_, rfl⟩
  rw [e1] at hpa hn1 ⊢
  rw [e2] at hpb ⊢
  rw [e3] at hla hn2 ⊢
  rw [e4] at hlb ⊢
  rw [e5] at hda hn7 ⊢
  rw [e6] at hdb ⊢
  have HPA := Lib.hid hpa
  have HPB := Lib.hid hpb
  have HLA := Lib.hid hla
  have HLB := Lib.hid hlb
  have HDA := Lib.hid hda
  have HDB := Lib.hid hdb
  have HLS := Lib.hid hls
  have HN1 : Hid (psa.length ≤ 1000000) := Lib.hid (by omega)
  have HN7 : Hid (dla.length ≤ 1000000) := Lib.hid (by omega)
  clear hpa hpb hla hlb hda hdb hls e1 e2 e3 e4 e5 e6
  have HNE : Hid (∀ W, Mod nil w W → ¬ Pl.mk da psa lsa ha sa ea ta dla = Pl.mk db psb lsb hb sb eb tb dlb → Post (.returned (.bool false)) W) := Lib.hid (fun W m h => HPOST.out _ _ ⟨by rw [decide_eq_false h], m⟩)
  obtain ⟨r1, hr1⟩ : ∃ r, w.heap.size = r := ⟨_, rfl⟩
  obtain ⟨r2, hr2⟩ : ∃ r, r1 + 1 = r := ⟨_, rfl⟩
  go_enter Tryz.func25, Tryz.ntmps25
  go_upto_region 1 with (fail)
  (try rw [hr1])
  (try rw [hr2])
  generalize hw1 : World.alloc (World.alloc w _) _ = w1
  have hm1 : Mod nil w w1 := by rw [← hw1]; exact ((Mod.refl _ _).alloc _).alloc _
  have hbl1 : w1.heap[r1]? = some (.cells #[.int .i64 da, .slice p1a n1a c1a, .slice p2a n2a c2a, .string ⟨ha.toArray⟩, .int .i64 sa, .int .i64 ea, .int .i64 ta, .slice p7a n7a c7a] 25 (0, 0)) := by rw [← hw1]; exact heap_alloc_old (by rw [← hr1]; exact heap_alloc_new _ _)
  have hbl2 : w1.heap[r2]? = some (.cells #[.int .i64 db, .slice p1b n1b c1b, .slice p2b n2b c2b, .string ⟨hb.toArray⟩, .int .i64 sb, .int .i64 eb, .int .i64 tb, .slice p7b n7b c7b] 25 (0, 0)) := by
    rw [← hw1]
    have := heap_alloc_new (w.alloc (.cells #[.int .i64 da, .slice p1a n1a c1a, .slice p2a n2a c2a, .string ⟨ha.toArray⟩, .int .i64 sa, .int .i64 ea, .int .i64 ta, .slice p7a n7a c7a] 25)) (.cells #[.int .i64 db, .slice p1b n1b c1b, .slice p2b n2b c2b, .string ⟨hb.toArray⟩, .int .i64 sb, .int .i64 eb, .int .i64 tb, .slice p7b n7b c7b] 25)
    rw [World.size_alloc, hr1, hr2] at this
    exact this
  have a0 := cell_of hbl1 0
  have b0 := cell_of hbl2 0
  have a1 := cell_of hbl1 1
  have b1 := cell_of hbl2 1
  have a2 := cell_of hbl1 2
  have b2 := cell_of hbl2 2
  have a3 := cell_of hbl1 3
  have b3 := cell_of hbl2 3
  have a4 := cell_of hbl1 4
  have b4 := cell_of hbl2 4
  have a5 := cell_of hbl1 5
  have b5 := cell_of hbl2 5
  have a6 := cell_of hbl1 6
  have b6 := cell_of hbl2 6
  have a7 := cell_of hbl1 7
  have b7 := cell_of hbl2 7
  simp only [List.getElem?_toArray, List.getElem?_cons_zero, List.getElem?_cons_succ] at a0 a1 a2 a3 a4 a5 a6 a7 b0 b1 b2 b3 b4 b5 b6 b7
  have HM1 := Lib.hid hm1
  clear hw1 hm1 hbl1 hbl2 hr1 hr2
  by_cases h0 : da = db
  case neg =>
    have q0 : (da == db) = false := by simpa using h0
    have HE := Lib.hid (HNE.out w1 HM1.out (fun e => h0 (congrArg Pl.deal e)))
    go_wp2_with fail
    exact HE.out
  have q0 : (da == db) = true := by simpa using h0
  have HC1 := Lib.hid (refInts _ _ _ _ psa psb w1 (HPA.out.modNil HM1.out) (HPB.out.modNil HM1.out) (by have := HN1.out; omega))
  by_cases h1 : psa = psb
  case neg =>
    rw [decide_eq_false h1] at HC1
    have HNEQ := Lib.hid (fun e => h1 (congrArg Pl.ps e) : ¬ Pl.mk da psa lsa ha sa ea ta dla = Pl.mk db psb lsb hb sb eb tb dlb)
    clear h1
    go_wp2_with fail
    refine HC1.out.mono ?_
    rintro e w2 ⟨rfl, hm2⟩
    have hm2 : Mod nil w1 w2 := by obtain ⟨n, rfl⟩ := hm2; exact (Mod.refl nil _).drewN n
    have HE := Lib.hid (HNE.out w2 (HM1.out.thenNil hm2) HNEQ.out)
    clear hm2
    go_wp2_with fail
    exact HE.out
  rw [decide_eq_true h1] at HC1
  have HH1 := Lib.hid h1
  clear h1
  go_wp2_with fail
  refine HC1.out.mono ?_
  rintro e w2 ⟨rfl, hm2⟩
  have hm2 : Mod nil w1 w2 := by obtain ⟨n, rfl⟩ := hm2; exact (Mod.refl nil _).drewN n
  have a0' := cell_kept a0 hm2 (World.block_lt_of_cell? _ _ a0) (not_nil _)
  clear a0
  have a0 := a0'
  clear a0'
  have a1' := cell_kept a1 hm2 (World.block_lt_of_cell? _ _ a1) (not_nil _)
  clear a1
  have a1 := a1'
  clear a1'
  have a2' := cell_kept a2 hm2 (World.block_lt_of_cell? _ _ a2) (not_nil _)
  clear a2
  have a2 := a2'
  clear a2'
  have a3' := cell_kept a3 hm2 (World.block_lt_of_cell? _ _ a3) (not_nil _)
  clear a3
  have a3 := a3'
  clear a3'
  have a4' := cell_kept a4 hm2 (World.block_lt_of_cell? _ _ a4) (not_nil _)
  clear a4
  have a4 := a4'
  clear a4'
  have a5' := cell_kept a5 hm2 (World.block_lt_of_cell? _ _ a5) (not_nil _)
  clear a5
  have a5 := a5'
  clear a5'
  have a6' := cell_kept a6 hm2 (World.block_lt_of_cell? _ _ a6) (not_nil _)
  clear a6
  have a6 := a6'
  clear a6'
  have a7' := cell_kept a7 hm2 (World.block_lt_of_cell? _ _ a7) (not_nil _)
  clear a7
  have a7 := a7'
  clear a7'
  have b0' := cell_kept b0 hm2 (World.block_lt_of_cell? _ _ b0) (not_nil _)
  clear b0
  have b0 := b0'
  clear b0'
  have b1' := cell_kept b1 hm2 (World.block_lt_of_cell? _ _ b1) (not_nil _)
  clear b1
  have b1 := b1'
  clear b1'
  have b2' := cell_kept b2 hm2 (World.block_lt_of_cell? _ _ b2) (not_nil _)
  clear b2
  have b2 := b2'
  clear b2'
  have b3' := cell_kept b3 hm2 (World.block_lt_of_cell? _ _ b3) (not_nil _)
  clear b3
  have b3 := b3'
  clear b3'
  have b4' := cell_kept b4 hm2 (World.block_lt_of_cell? _ _ b4) (not_nil _)
  clear b4
  have b4 := b4'
  clear b4'
  have b5' := cell_kept b5 hm2 (World.block_lt_of_cell? _ _ b5) (not_nil _)
  clear b5
  have b5 := b5'
  clear b5'
  have b6' := cell_kept b6 hm2 (World.block_lt_of_cell? _ _ b6) (not_nil _)
  clear b6
  have b6 := b6'
  clear b6'
  have b7' := cell_kept b7 hm2 (World.block_lt_of_cell? _ _ b7) (not_nil _)
  clear b7
  have b7 := b7'
  clear b7'
  have HMw2 := Lib.hid (HM1.out.thenNil hm2)
  clear hm2 HC1
  have HC2 := Lib.hid (refSameLegs _ _ p2a p2b n2a c2a n2b c2b lsa lsb w2 (HLA.out.modNil HMw2.out) (HLB.out.modNil HMw2.out) hn2 HLS.out)
  by_cases h2 : lsa = lsb
  case neg =>
    rw [decide_eq_false h2] at HC2
    have HNEQ := Lib.hid (fun e => h2 (congrArg Pl.ls e) : ¬ Pl.mk da psa lsa ha sa ea ta dla = Pl.mk db psb lsb hb sb eb tb dlb)
    clear h2
    go_wp2_with fail
    refine HC2.out.mono ?_
    rintro e w3 ⟨rfl, hm2⟩
    skip
    have HE := Lib.hid (HNE.out w3 (HMw2.out.thenNil hm2) HNEQ.out)
    clear hm2
    go_wp2_with fail
    exact HE.out
  rw [decide_eq_true h2] at HC2
  have HH2 := Lib.hid h2
  clear h2
  go_wp2_with fail
  refine HC2.out.mono ?_
  rintro e w3 ⟨rfl, hm2⟩
  skip
  have a0' := cell_kept a0 hm2 (World.block_lt_of_cell? _ _ a0) (not_nil _)
  clear a0
  have a0 := a0'
  clear a0'
  have a1' := cell_kept a1 hm2 (World.block_lt_of_cell? _ _ a1) (not_nil _)
  clear a1
  have a1 := a1'
  clear a1'
  have a2' := cell_kept a2 hm2 (World.block_lt_of_cell? _ _ a2) (not_nil _)
  clear a2
  have a2 := a2'
  clear a2'
  have a3' := cell_kept a3 hm2 (World.block_lt_of_cell? _ _ a3) (not_nil _)
  clear a3
  have a3 := a3'
  clear a3'
  have a4' := cell_kept a4 hm2 (World.block_lt_of_cell? _ _ a4) (not_nil _)
  clear a4
  have a4 := a4'
  clear a4'
  have a5' := cell_kept a5 hm2 (World.block_lt_of_cell? _ _ a5) (not_nil _)
  clear a5
  have a5 := a5'
  clear a5'
  have a6' := cell_kept a6 hm2 (World.block_lt_of_cell? _ _ a6) (not_nil _)
  clear a6
  have a6 := a6'
  clear a6'
  have a7' := cell_kept a7 hm2 (World.block_lt_of_cell? _ _ a7) (not_nil _)
  clear a7
  have a7 := a7'
  clear a7'
  have b0' := cell_kept b0 hm2 (World.block_lt_of_cell? _ _ b0) (not_nil _)
  clear b0
  have b0 := b0'
  clear b0'
  have b1' := cell_kept b1 hm2 (World.block_lt_of_cell? _ _ b1) (not_nil _)
  clear b1
  have b1 := b1'
  clear b1'
  have b2' := cell_kept b2 hm2 (World.block_lt_of_cell? _ _ b2) (not_nil _)
  clear b2
  have b2 := b2'
  clear b2'
  have b3' := cell_kept b3 hm2 (World.block_lt_of_cell? _ _ b3) (not_nil _)
  clear b3
  have b3 := b3'
  clear b3'
  have b4' := cell_kept b4 hm2 (World.block_lt_of_cell? _ _ b4) (not_nil _)
  clear b4
  have b4 := b4'
  clear b4'
  have b5' := cell_kept b5 hm2 (World.block_lt_of_cell? _ _ b5) (not_nil _)
  clear b5
  have b5 := b5'
  clear b5'
  have b6' := cell_kept b6 hm2 (World.block_lt_of_cell? _ _ b6) (not_nil _)
  clear b6
  have b6 := b6'
  clear b6'
  have b7' := cell_kept b7 hm2 (World.block_lt_of_cell? _ _ b7) (not_nil _)
  clear b7
  have b7 := b7'
  clear b7'
  have HMw3 := Lib.hid (HMw2.out.thenNil hm2)
  clear hm2 HC2
  by_cases h3 : ha = hb
  case neg =>
    have q3 : (ha == hb) = false := by simpa using h3
    have HE := Lib.hid (HNE.out w3 HMw3.out (fun e => h3 (congrArg Pl.hash e)))
    go_wp2_with fail
    exact HE.out
  have q3 : (ha == hb) = true := by simpa using h3
  by_cases h4 : sa = sb
  case neg =>
    have q4 : (sa == sb) = false := by simpa using h4
    have HE := Lib.hid (HNE.out w3 HMw3.out (fun e => h4 (congrArg Pl.start e)))
    go_wp2_with fail
    exact HE.out
  have q4 : (sa == sb) = true := by simpa using h4
  by_cases h5 : ea = eb
  case neg =>
    have q5 : (ea == eb) = false := by simpa using h5
    have HE := Lib.hid (HNE.out w3 HMw3.out (fun e => h5 (congrArg Pl.eps e)))
    go_wp2_with fail
    exact HE.out
  have q5 : (ea == eb) = true := by simpa using h5
  by_cases h6 : ta = tb
  case neg =>
    have q6 : (ta == tb) = false := by simpa using h6
    have HE := Lib.hid (HNE.out w3 HMw3.out (fun e => h6 (congrArg Pl.wait e)))
    go_wp2_with fail
    exact HE.out
  have q6 : (ta == tb) = true := by simpa using h6
  have HC7 := Lib.hid (refInts _ _ _ _ dla dlb w3 (HDA.out.modNil HMw3.out) (HDB.out.modNil HMw3.out) (by have := HN7.out; omega))
  have HEQ : Hid (decide (Pl.mk da psa lsa ha sa ea ta dla = Pl.mk db psb lsb hb sb eb tb dlb) = decide (dla = dlb)) := Lib.hid (by congr 1; have := HH1.out; have := HH2.out; simp [*])
  clear h0 h3 h4 h5 h6
  go_wp2_with fail
  refine HC7.out.mono ?_
  rintro e w4 ⟨rfl, n4, rfl⟩
  have HE := Lib.hid (HPOST.out (.returned (.bool (decide (dla = dlb)))) (w3.drewN n4) ⟨by rw [HEQ.out], HMw3.out.drewN n4⟩)
  go_wp2_with fail
  exact HE.out
end Go.Proofs.YtdfpmlfdmhlhcaaGreat

/- Package plan: Same, End. (Printed by wip/tools/gen_planh.py.) -/
import Derived.Test.YtdfpmlfdmhlhcaaGreatPlanG
namespace Go.Proofs.YtdfpmlfdmhlhcaaGreat
open Go.RowKit
def Pl.few (P : Pl) : Prop := P.ps.length ≤ 1000000 ∧ P.ls.length ≤ 1000000 ∧ P.dl.length ≤ 1000000 ∧ ∀ l ∈ P.ls, l.length ≤ 1000000
set_option maxRecDepth 100000 in
set_option maxHeartbeats 8000000 in
theorem planSame (S T : Nat → Prop) (va vb : Value) (P Q : Pl) (w : World) (hp : IsPl S w va P) (hq : IsPl T w vb Q) (hf : P.few) :
    Calls Tryz.prog 70 #[va, vb] w fun e w' => e = .returned (.bool (decide (P = Q))) ∧ Mod nil w w' := by
  refine (?_ : ∀ Post : Ending → World → Prop, Hid (∀ e w', (e = .returned (.bool (decide (P = Q))) ∧ Mod nil w w') → Post e w') → Calls Tryz.prog 70 #[va, vb] w Post) _ (Lib.hid (fun _ _ h => h))
  intro Post HPOST
  obtain ⟨p1a, c1a, p2a, c2a, p7a, c7a, rfl, hpa, hla, hda⟩ := hp
  obtain ⟨p1b, c1b, p2b, c2b, p7b, c7b, rfl, hpb, hlb, hdb⟩ := hq
  obtain ⟨da, psa, lsa, ha, sa, ea, ta, dla⟩ := P
  obtain ⟨db, psb, lsb, hb, sb, eb, tb, dlb⟩ := Q
  obtain ⟨hn1, hn2, hn7, hls⟩ := hf
  simp only at *
  obtain ⟨n1a, e1⟩ : ∃ n, psa.length = n := ⟨_, rfl⟩
  obtain ⟨n1b, e2⟩ : ∃ n, psb.length = n := ⟨_, rfl⟩
  obtain ⟨n2a, e3⟩ : ∃ n, lsa.length = n := ⟨_, rfl⟩
  obtain ⟨n2b, e4⟩ : ∃ n, lsb.length = n := ⟨_, rfl⟩
  obtain ⟨n7a, e5⟩ : ∃ n, dla.length = n := ⟨_, rfl⟩
  obtain ⟨n7b, e6⟩ : ∃ n, dlb.length = n := ⟨_, rfl⟩
  rw [e1] at hpa hn1 ⊢
  rw [e2] at hpb ⊢
  rw [e3] at hla hn2 ⊢
  rw [e4] at hlb ⊢
  rw [e5] at hda hn7 ⊢
  rw [e6] at hdb ⊢
  have HPA := Lib.hid hpa
  have HPB := Lib.hid hpb
  have HLA := Lib.hid hla
  have HLB := Lib.hid hlb
  have HDA := Lib.hid hda
  have HDB := Lib.hid hdb
  have HLS := Lib.hid hls
  clear hpa hpb hla hlb hda hdb hls e1 e2 e3 e4 e5 e6
  have HNE : Hid (∀ W, Mod nil w W → ¬ Pl.mk da psa lsa ha sa ea ta dla = Pl.mk db psb lsb hb sb eb tb dlb → Post (.returned (.bool false)) W) := Lib.hid (fun W m h => HPOST.out _ _ ⟨by rw [decide_eq_false h], m⟩)
  obtain ⟨r1, hr1⟩ : ∃ r, w.heap.size = r := ⟨_, rfl⟩
  obtain ⟨r2, hr2⟩ : ∃ r, r1 + 1 = r := ⟨_, rfl⟩
  go_enter Tryz.func70, Tryz.ntmps70
  go_upto_region 1 with (fail)
  (try rw [hr1])
  (try rw [hr2])
  generalize hw1 : World.alloc (World.alloc w _) _ = w1
  have hm1 : Mod nil w w1 := by rw [← hw1]; exact ((Mod.refl _ _).alloc _).alloc _
  have hbl1 : w1.heap[r1]? = some (.cells #[.int .i64 da, .slice p1a n1a c1a, .slice p2a n2a c2a, .string ⟨ha.toArray⟩, .int .i64 sa, .int .i64 ea, .int .i64 ta, .slice p7a n7a c7a] 25 (0, 0)) := by rw [← hw1]; exact heap_alloc_old (by rw [← hr1]; exact heap_alloc_new _ _)
  have hbl2 : w1.heap[r2]? = some (.cells #[.int .i64 db, .slice p1b n1b c1b, .slice p2b n2b c2b, .string ⟨hb.toArray⟩, .int .i64 sb, .int .i64 eb, .int .i64 tb, .slice p7b n7b c7b] 25 (0, 0)) := by
    rw [← hw1]
    have := heap_alloc_new (w.alloc (.cells #[.int .i64 da, .slice p1a n1a c1a, .slice p2a n2a c2a, .string ⟨ha.toArray⟩, .int .i64 sa, .int .i64 ea, .int .i64 ta, .slice p7a n7a c7a] 25)) (.cells #[.int .i64 db, .slice p1b n1b c1b, .slice p2b n2b c2b, .string ⟨hb.toArray⟩, .int .i64 sb, .int .i64 eb, .int .i64 tb, .slice p7b n7b c7b] 25)
    rw [World.size_alloc, hr1, hr2] at this
    exact this
  have a0 := cell_of hbl1 0
  have b0 := cell_of hbl2 0
  have a1 := cell_of hbl1 1
  have b1 := cell_of hbl2 1
  have a2 := cell_of hbl1 2
  have b2 := cell_of hbl2 2
  have a3 := cell_of hbl1 3
  have b3 := cell_of hbl2 3
  have a4 := cell_of hbl1 4
  have b4 := cell_of hbl2 4
  have a5 := cell_of hbl1 5
  have b5 := cell_of hbl2 5
  have a6 := cell_of hbl1 6
  have b6 := cell_of hbl2 6
  have a7 := cell_of hbl1 7
  have b7 := cell_of hbl2 7
  simp only [List.getElem?_toArray, List.getElem?_cons_zero, List.getElem?_cons_succ] at a0 a1 a2 a3 a4 a5 a6 a7 b0 b1 b2 b3 b4 b5 b6 b7
  have HM1 := Lib.hid hm1
  clear hw1 hm1 hbl1 hbl2 hr1 hr2
  by_cases h0 : da = db
  case neg =>
    have q0 : (da == db) = false := by simpa using h0
    have HE := Lib.hid (HNE.out w1 HM1.out (fun e => h0 (congrArg Pl.deal e)))
    go_wp2_with fail
    exact HE.out
  have q0 : (da == db) = true := by simpa using h0
  by_cases h1 : ha = hb
  case neg =>
    have q1 : (ha == hb) = false := by simpa using h1
    have HE := Lib.hid (HNE.out w1 HM1.out (fun e => h1 (congrArg Pl.hash e)))
    go_wp2_with fail
    exact HE.out
  have q1 : (ha == hb) = true := by simpa using h1
  by_cases h2 : sa = sb
  case neg =>
    have q2 : (sa == sb) = false := by simpa using h2
    have HE := Lib.hid (HNE.out w1 HM1.out (fun e => h2 (congrArg Pl.start e)))
    go_wp2_with fail
    exact HE.out
  have q2 : (sa == sb) = true := by simpa using h2
  by_cases h3 : ea = eb
  case neg =>
    have q3 : (ea == eb) = false := by simpa using h3
    have HE := Lib.hid (HNE.out w1 HM1.out (fun e => h3 (congrArg Pl.eps e)))
    go_wp2_with fail
    exact HE.out
  have q3 : (ea == eb) = true := by simpa using h3
  by_cases h4 : ta = tb
  case neg =>
    have q4 : (ta == tb) = false := by simpa using h4
    have HE := Lib.hid (HNE.out w1 HM1.out (fun e => h4 (congrArg Pl.wait e)))
    go_wp2_with fail
    exact HE.out
  have q4 : (ta == tb) = true := by simpa using h4
  have HC1 := Lib.hid (equalInts _ _ p7a p7b n7a c7a n7b c7b dla dlb w1 (HDA.out.modNil HM1.out) (HDB.out.modNil HM1.out) hn7)
  by_cases h5 : dla = dlb
  case neg =>
    rw [decide_eq_false h5] at HC1
    have HNEQ := Lib.hid (fun e => h5 (congrArg Pl.dl e) : ¬ Pl.mk da psa lsa ha sa ea ta dla = Pl.mk db psb lsb hb sb eb tb dlb)
    clear h5
    go_wp2_with fail
    refine HC1.out.mono ?_
    rintro e w2 ⟨rfl, hm2⟩
    have HE := Lib.hid (HNE.out w2 (HM1.out.thenNil hm2) HNEQ.out)
    clear hm2
    go_wp2_with fail
    exact HE.out
  rw [decide_eq_true h5] at HC1
  have HEQ : Hid (decide (Pl.mk da psa lsa ha sa ea ta dla = Pl.mk db psb lsb hb sb eb tb dlb) = (decide (psa = psb) && decide (lsa = lsb))) := Lib.hid (by rw [← Bool.decide_and]; congr 1; simp [h0, h1, h2, h3, h4, h5])
  clear h0 h1 h2 h3 h4 h5
  go_wp2_with fail
  refine HC1.out.mono ?_
  rintro e w2 ⟨rfl, hm2⟩
  have x1 := cell_kept a1 hm2 (World.block_lt_of_cell? _ _ a1) (not_nil _)
  have x2 := cell_kept a2 hm2 (World.block_lt_of_cell? _ _ a2) (not_nil _)
  have y1 := cell_kept b1 hm2 (World.block_lt_of_cell? _ _ b1) (not_nil _)
  have y2 := cell_kept b2 hm2 (World.block_lt_of_cell? _ _ b2) (not_nil _)
  have HM2 := Lib.hid (HM1.out.thenNil hm2)
  have HC2 := Lib.hid (ringSame _ _ p1a p1b p2a p2b n1a c1a n1b c1b n2a c2a n2b c2b psa psb lsa lsb w2 (HPA.out.modNil HM2.out) (HPB.out.modNil HM2.out) (HLA.out.modNil HM2.out) (HLB.out.modNil HM2.out) hn1 hn2 HLS.out)
  clear hm2 a0 a1 a2 a3 a4 a5 a6 a7 b0 b1 b2 b3 b4 b5 b6 b7
  go_wp2_with fail
  refine HC2.out.mono ?_
  rintro e w3 ⟨rfl, hm3⟩
  have HE := Lib.hid (HPOST.out _ _ ⟨by rw [HEQ.out], HM2.out.thenNil hm3⟩)
  clear hm3
  go_wp2_with fail
  exact HE.out
end Go.Proofs.YtdfpmlfdmhlhcaaGreat

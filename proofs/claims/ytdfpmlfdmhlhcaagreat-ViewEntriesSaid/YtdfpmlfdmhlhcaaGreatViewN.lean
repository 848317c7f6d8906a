/- Package sha: NewTable, One. -/
import Derived.Test.YtdfpmlfdmhlhcaaGreatShaSum
import Derived.Test.YtdfpmlfdmhlhcaaGreatViewS
namespace Go.Proofs.YtdfpmlfdmhlhcaaGreat
open Go.RowKit

/-- the hash of a text -/
def shaOf (m : List UInt8) : List UInt8 := sumOf (m.drop (64 * (m.length / 64))) m.length (mixK m hV (m.length / 64))
theorem shaOf_length (m : List UInt8) : (shaOf m).length = 32 := sumOf_length _ _ _
theorem shaNewTable (w : World) : Calls Tryz.prog 22 #[] w fun e w' => ∃ tb, e = .returned (.pointer (some ⟨tb, 0, none⟩)) ∧ IsTab w' tb ∧ w.heap.size ≤ tb ∧ Mod nil w w' := by
  go_enter Tryz.func22, Tryz.ntmps22
  go_wp2_with fail
  go_ret
  refine ⟨w.heap.size, rfl, .inr ⟨List.replicate 64 0#32, List.replicate 8 0#32, by simp, by simp, ?_⟩, Nat.le_refl _, (Mod.refl _ _).alloc _⟩
  rw [heap_alloc_new]
  rfl
theorem shaOne (tb : Nat) (T : Nat → Prop) (vb : Value) (m : List UInt8) (w : World) (ht : IsTab w tb) (hrow : IsRow T w vb (bys m)) (hTt : ∀ k, T k → k < w.heap.size ∧ k ≠ tb) (hm : m.length ≤ 1099511627000) :
    Calls Tryz.prog 29 #[.pointer (some ⟨tb, 0, none⟩), vb] w fun e w' => ∃ v', e = .returned v' ∧ IsVec (fun k => w.heap.size ≤ k) w' 5 1 v' 32 (bys (shaOf m)) ∧ IsTab w' tb ∧ Mod (· = tb) w w' := by
  refine (?_ : ∀ Post : Ending → World → Prop, Hid (∀ e w', (∃ v', e = .returned v' ∧ IsVec (fun k => w.heap.size ≤ k) w' 5 1 v' 32 (bys (shaOf m)) ∧ IsTab w' tb ∧ Mod (· = tb) w w') → Post e w') → Calls Tryz.prog 29 #[.pointer (some ⟨tb, 0, none⟩), vb] w Post) _ (Lib.hid (fun _ _ h => h))
  intro Post HPOST
  have HT := Lib.hid ht
  have HR := Lib.hid hrow
  have HTT := Lib.hid hTt
  obtain ⟨pm, cm, rfl, _⟩ := id hrow
  obtain ⟨M, hM⟩ : ∃ M, m.length = M := ⟨_, rfl⟩
  rw [bys_length, hM] at HR ⊢
  have HML := Lib.hid hM
  clear ht hrow hTt hM
  go_enter Tryz.func29, Tryz.ntmps29
  go_wp2_with fail
  refine (shaNew tb w HT.out).mono ?_
  rintro e w1 ⟨b, rfl, hh1, hb1, hf1, hm1⟩
  have htl := HT.out.lt
  have HH1 := Lib.hid hh1
  have HF1 := Lib.hid hf1
  have HM1 := Lib.hid hm1
  clear hh1 hf1 hm1
  go_wp2_with fail
  refine (shaWrite b tb hV (fun _ => False) T (.slice none 0 0) (.slice pm M cm) [] m 0 w1 HH1.out (IsVec.nil _ _ _ _) id id (by omega) (full_tab HF1.out) (HR.out.mod HM1.out (fun k _ hk e => (HTT.out k hk).2 e)) (fun h => by have := (HTT.out b h).1; omega) (by simp; omega) (by omega)).mono ?_
  rintro e w2 ⟨rfl, ⟨rv, hh2, hv2⟩, ht2, hm2⟩
  rw [List.nil_append, Nat.zero_add] at hh2
  rw [List.nil_append] at hv2
  have HH2 := Lib.hid hh2
  have HV2 := Lib.hid hv2
  have HT2 := Lib.hid ht2
  have HM2 := Lib.hid hm2
  clear hh2 hv2 ht2 hm2
  go_wp2_with fail
  refine (shaSum b tb _ _ rv (m.drop (64 * (m.length / 64))) m.length w2 HH2.out HV2.out (by omega) HT2.out (by simp; omega) (by omega)).mono ?_
  rintro e w3 ⟨v3, rfl, hv3, ht3, hm3⟩
  have hmf : Mod (· = tb) w w3 := (HM1.out.trans HM2.out (fun k hk h => h.elim id (fun h => h.elim (fun h => by omega) (fun h => h.elim)))).trans hm3 (fun _ _ h => h)
  have hvf : IsVec (fun k => w.heap.size ≤ k) w3 5 1 v3 32 (bys (shaOf m)) := hv3.mono (fun k _ hk => by have := HM1.out.size; have := HM2.out.size; omega)
  have HF := Lib.hid (And.intro hvf (And.intro ht3 hmf))
  clear hv3 ht3 hmf hvf
  go_wp2_with fail
  exact HPOST.out _ _ ⟨v3, rfl, HF.out.1, HF.out.2.1, HF.out.2.2⟩
end Go.Proofs.YtdfpmlfdmhlhcaaGreat

/- view: one that knows nothing; cfllaw24.first. -/
namespace Go.Proofs.YtdfpmlfdmhlhcaaGreat
open Go.RowKit
def view0 (tb : Nat) (party : Int) : Array Value := #[.pointer (some ⟨tb, 0, none⟩), .int .i64 party, .slice none 0 0, .int .i64 0, .int .i64 0, .slice none 0 0, .slice none 0 0, .bool false, .int .i64 0, .slice none 0 0, .int .i64 0, .int .i64 0, .slice none 0 0, .slice none 0 0, .bool false, .int .i64 0, .slice none 0 0]
theorem viewNew (tb : Nat) (party : Int) (w : World) : Calls Tryz.prog 31 #[.pointer (some ⟨tb, 0, none⟩), .int .i64 party] w fun e w' => ∃ vb, e = .returned (.pointer (some ⟨vb, 0, none⟩)) ∧ w.heap.size ≤ vb ∧ w'.heap[vb]? = some (.cells (view0 tb party) 142 (0, 0)) ∧ Mod nil w w' := by
  go_enter Tryz.func31, Tryz.ntmps31
  go_wp2_with fail
  go_ret
  exact ⟨_, rfl, Nat.le_refl _, heap_alloc_new _ _, (Mod.refl _ _).alloc _⟩
set_option maxRecDepth 100000 in
theorem viewAll0 (tb vb : Nat) (party : Int) (w : World) (h : w.heap[vb]? = some (.cells (view0 tb party) 142 (0, 0))) :
    Calls Tryz.prog 74 #[.pointer (some ⟨vb, 0, none⟩)] w fun e w' => e = .returned (.slice none 0 0) ∧ Mod nil w w' := by
  have hl := heap_lt h
  have H : Hid (∀ W, Mod nil w W → W.cell? ⟨vb, 2, none⟩ = some (.slice none 0 0)) := Lib.hid (fun W m => cell_of (m.keep h) 2)
  have hmm := @run_makeMap Tryz.prog
  clear h
  go_enter Tryz.func74, Tryz.ntmps74
  go_upto_region 2 with (fail)
  generalize hw1 : World.alloc (World.alloc (World.alloc w _) _) _ = w1
  have hm1 : Mod nil w w1 := by rw [← hw1]; exact (((Mod.refl _ _).alloc _).alloc _).alloc _
  have c2 := H.out w1 hm1
  have HM1 := Lib.hid hm1
  clear hw1 hm1 hmm
  go_wp2_with fail
  refine wp_loop_once ?_
  go_wp2_with fail
  go_ret
  exact ⟨rfl, HM1.out⟩
theorem viewSide0 (vb : Nat) (w : World) : Calls Tryz.prog 73 #[.pointer (some ⟨vb, 0, none⟩), .int .i64 0] w fun e w' => e = .returned (.pointer (some ⟨vb, 3, none⟩)) ∧ w' = w := by
  go_enter Tryz.func73, Tryz.ntmps73
  go_wp2_with fail
  go_ret
  exact ⟨rfl, rfl⟩
theorem info_batch : (Tryz.prog.info? 65).map (·.size) = some 2 := by kernel_rfl
set_option maxRecDepth 100000 in
set_option maxHeartbeats 1000000 in
theorem viewWant0 (tb vb : Nat) (party : Int) (w : World) (h : w.heap[vb]? = some (.cells (view0 tb party) 142 (0, 0))) :
    Calls Tryz.prog 32 #[.pointer (some ⟨vb, 0, none⟩), .int .i64 0, .int .i64 5] w fun e w' => e = .returned (.tuple #[.agg #[.int .i64 0, .slice none 0 0], .slice none 0 0]) ∧ Mod nil w w' := by
  refine (?_ : ∀ Post : Ending → World → Prop, Hid (∀ e w', (e = .returned (.tuple #[.agg #[.int .i64 0, .slice none 0 0], .slice none 0 0]) ∧ Mod nil w w') → Post e w') → Calls Tryz.prog 32 #[.pointer (some ⟨vb, 0, none⟩), .int .i64 0, .int .i64 5] w Post) _ (Lib.hid (fun _ _ h => h))
  intro Post HPOST
  have hl := heap_lt h
  have H := Lib.hid h
  clear h
  go_enter Tryz.func32, Tryz.ntmps32
  go_wp2_with fail
  obtain ⟨G, hG⟩ : ∃ g, w.heap.size = g := ⟨_, rfl⟩
  (try rw [hG])
  generalize hw1 : World.alloc w _ = w1
  have hm1 : Mod nil w w1 := by rw [← hw1]; exact (Mod.refl _ _).alloc _
  have HB1 : Hid (w1.heap[G]? = some (.cells #[.int .i64 0, .slice none 0 0] 65 (0, 0))) := Lib.hid (by rw [← hw1, ← hG]; exact heap_alloc_new _ _)
  have HG : Hid (w.heap.size ≤ G) := Lib.hid (by omega)
  have HM1 := Lib.hid hm1
  have c3 := cell_of (hm1.keep H.out) 3
  simp only [view0, List.getElem?_toArray, List.getElem?_cons_zero, List.getElem?_cons_succ] at c3
  clear hw1 hm1 hG
  refine (viewSide0 vb w1).mono ?_
  rintro e w2 ⟨rfl, rfl⟩
  go_wp2_with fail
  obtain ⟨g, hg⟩ : ∃ g, w2.heap.size = g := ⟨_, rfl⟩
  (try rw [hg])
  generalize hw3 : World.alloc w2 _ = w3
  have hm3 : Mod nil w2 w3 := by rw [← hw3]; exact (Mod.refl _ _).alloc _
  have hbg : w3.heap[g]? = some (.cells #[.int .i64 0, .slice none 0 0] 65 (0, 0)) := by rw [← hw3, ← hg]; exact heap_alloc_new _ _
  have HA := Lib.hid (viewAll0 tb vb party w3 ((HM1.out.thenNil hm3).keep H.out))
  have HB3 := Lib.hid (hm3.keep HB1.out)
  have HGg : Hid (G < g) := Lib.hid (by have := heap_lt HB1.out; omega)
  have HM3 := Lib.hid (HM1.out.thenNil hm3)
  clear hw3 hm3 hg c3
  refine HA.out.mono ?_
  rintro e w4 ⟨rfl, hm4⟩
  have hbg4 := hm4.keep hbg
  have d0 := cell_of hbg4 0
  have d1 := cell_of hbg4 1
  have z1 := free_of hbg4 1
  simp only [List.getElem?_toArray, List.getElem?_cons_zero, List.getElem?_cons_succ] at d0 d1
  have HM4 := Lib.hid (HM3.out.thenNil hm4)
  have ms : Mod (· = g) w4 (w4.setCell ⟨g, 1, none⟩ (.slice none 0 0)) := (Mod.refl _ _).setCell _ _ (fun _ => rfl)
  have HB5 := Lib.hid ((ms.block G (heap_lt (hm4.keep HB3.out)) (fun e => by have := HGg.out; omega)).trans (hm4.keep HB3.out))
  have HE := Lib.hid (HPOST.out (.returned (.tuple #[.agg #[.int .i64 0, .slice none 0 0], .slice none 0 0])) ((w4.setCell ⟨g, 1, none⟩ (.slice none 0 0)).setRow G #[.int .i64 0, .slice none 0 0]) ⟨rfl, (HM4.out.new ms (fun k e => by have := HGg.out; have := HG.out; omega)).new ((Mod.refl (· = G) _).rowSet G _ (fun _ => rfl)) (fun k e => by have := HG.out; omega)⟩)
  clear hm4 hbg hbg4 ms
  go_wp2_with fail
  refine wp_loop_once ?_
  go_wp2_with (refine wpList_store_row rfl _ _ _ rfl G #[.int .i64 0, .slice none 0 0] rfl rfl 65 _ HB5.out info_batch rfl (by simp [Value.oneCell']) ?_)
  refine bodyPost_ret (results_cell_row2 rfl _ _ G 65 #[.int .i64 0, .slice none 0 0] (0, 0) rfl (setRow_heap _ G _ #[.int .i64 0, .slice none 0 0] _ _ HB5.out) Tryz.underlying65 info_batch) rfl ?_
  exact HE.out
theorem viewStatuses0 (tb vb : Nat) (party : Int) (w : World) (h : w.heap[vb]? = some (.cells (view0 tb party) 142 (0, 0))) :
    Calls Tryz.prog 33 #[.pointer (some ⟨vb, 0, none⟩)] w fun e w' => e = .returned (.slice none 0 0) ∧ Mod nil w w' := by
  have H := Lib.hid (viewAll0 tb vb party w h)
  clear h
  go_enter Tryz.func33, Tryz.ntmps33
  go_wp2_with fail
  refine H.out.mono ?_
  rintro e w1 ⟨rfl, hm⟩
  have HM := Lib.hid hm
  clear hm
  go_wp2_with fail
  refine wp_loop_once ?_
  go_wp2_with fail
  go_ret
  exact ⟨rfl, HM.out⟩
theorem viewSeq0 (tb vb : Nat) (party : Int) (w : World) (h : w.heap[vb]? = some (.cells (view0 tb party) 142 (0, 0))) :
    Calls Tryz.prog 34 #[.pointer (some ⟨vb, 0, none⟩), .int .i64 0] w fun e w' => e = .returned (.int .i64 0) ∧ w = w' := by
  have c := cell_of h 4
  simp only [view0, List.getElem?_toArray, List.getElem?_cons_zero, List.getElem?_cons_succ] at c
  clear h
  go_enter Tryz.func34, Tryz.ntmps34
  go_wp2_with fail
  refine (viewSide0 vb w).mono ?_
  rintro e w2 ⟨rfl, rfl⟩
  go_wp2_with fail
  go_ret
  exact ⟨rfl, rfl⟩
set_option maxRecDepth 100000 in
theorem vFirst (w : World) : Calls Tryz.prog 6 #[] w fun e w' => e = .returned (.bool true) ∧ Mod nil w w' := by
  refine (?_ : ∀ Post : Ending → World → Prop, Hid (∀ e w', (e = .returned (.bool true) ∧ Mod nil w w') → Post e w') → Calls Tryz.prog 6 #[] w Post) _ (Lib.hid (fun _ _ h => h))
  intro Post HPOST
  go_enter Tryz.func6, Tryz.ntmps6
  go_wp2_with fail
  refine (shaNewTable w).mono ?_
  rintro e w1 ⟨tb, rfl, ht, htb, hm1⟩
  have HM1 := Lib.hid hm1
  clear hm1 ht htb
  go_wp2_with fail
  refine (viewNew tb 1 w1).mono ?_
  rintro e w2 ⟨vb, rfl, -, hv, hm2⟩
  have HV := Lib.hid hv
  have HM2 := Lib.hid (HM1.out.thenNil hm2)
  clear hv hm2
  go_wp2_with fail
  refine (viewWant0 tb vb 1 w2 HV.out).mono ?_
  rintro e w3 ⟨rfl, hm3⟩
  obtain ⟨g, hg⟩ : ∃ g, w3.heap.size = g := ⟨_, rfl⟩
  have c0 := HV.out
  go_wp2_with fail
  (try rw [hg])
  generalize hw4 : World.alloc w3 _ = w4
  have hm4 : Mod nil w3 w4 := by rw [← hw4]; exact (Mod.refl _ _).alloc _
  have hbg : w4.heap[g]? = some (.cells #[.int .i64 0, .slice none 0 0] 65 (0, 0)) := by rw [← hw4, ← hg]; exact heap_alloc_new _ _
  have HM4 := Lib.hid ((HM2.out.thenNil hm3).thenNil hm4)
  have HV4 := Lib.hid ((hm3.thenNil hm4).keep HV.out)
  clear hm3 hm4 hbg c0 hw4 hg
  refine (viewStatuses0 tb vb 1 w4 HV4.out).mono ?_
  rintro e w5 ⟨rfl, hm5⟩
  have HV5 := Lib.hid (hm5.keep HV4.out)
  have HM5 := Lib.hid (HM4.out.thenNil hm5)
  clear hm5
  go_wp2_with fail
  refine (viewSeq0 tb vb 1 w5 HV5.out).mono ?_
  rintro e w6 ⟨rfl, rfl⟩
  have HE := Lib.hid (HPOST.out _ _ ⟨rfl, HM5.out⟩)
  go_wp2_with fail
  exact HE.out
theorem entSame (S T : Nat → Prop) (k : Int) (pa pb : Option Addr) (n ca m cb : Nat) (l : List UInt8) (w : World) (ha : IsRow S w (.slice pa n ca) (bys l)) (hb : IsRow T w (.slice pb m cb) (bys l)) :
    Calls Tryz.prog 16 #[.agg #[.int .i64 k, .slice pa n ca], .agg #[.int .i64 k, .slice pb m cb]] w fun e w' => e = .returned (.bool true) ∧ Mod nil w w' := by
  refine (?_ : ∀ Post : Ending → World → Prop, Hid (∀ e w', (e = .returned (.bool true) ∧ Mod nil w w') → Post e w') → Calls Tryz.prog 16 #[.agg #[.int .i64 k, .slice pa n ca], .agg #[.int .i64 k, .slice pb m cb]] w Post) _ (Lib.hid (fun _ _ h => h))
  intro Post HPOST
  obtain ⟨g, hg⟩ : ∃ g, w.heap.size = g := ⟨_, rfl⟩
  obtain ⟨w1, hw1⟩ : ∃ W, (w.alloc (.cells #[.int .i64 k, .slice pa n ca] 32)).alloc (.cells #[.int .i64 k, .slice pb m cb] 32) = W := ⟨_, rfl⟩
  have hm1 : Mod nil w w1 := by rw [← hw1]; exact ((Mod.refl _ _).alloc _).alloc _
  have hb1 : w1.heap[g]? = some (.cells #[.int .i64 k, .slice pa n ca] 32 (0, 0)) := by rw [← hw1, ← hg]; exact heap_alloc_old (heap_alloc_new _ _)
  have hb2 : w1.heap[g + 1]? = some (.cells #[.int .i64 k, .slice pb m cb] 32 (0, 0)) := by
    rw [← hw1, ← hg]
    have := heap_alloc_new (w.alloc (.cells #[.int .i64 k, .slice pa n ca] 32)) (.cells #[.int .i64 k, .slice pb m cb] 32)
    rw [World.size_alloc] at this
    exact this
  have x0 := cell_of hb1 0
  have x1 := cell_of hb1 1
  have y0 := cell_of hb2 0
  have y1 := cell_of hb2 1
  simp only [List.getElem?_toArray, List.getElem?_cons_zero, List.getElem?_cons_succ] at x0 x1 y0 y1
  have hc := refBytesW _ _ _ _ _ _ w1 (ha.modNil hm1) (hb.modNil hm1)
  rw [decide_eq_true rfl] at hc
  have HC := Lib.hid hc
  have HE := Lib.hid (HPOST.out (.returned (.bool true)) w1 ⟨rfl, hm1⟩)
  clear hb1 hb2 hm1 ha hb hc
  go_enter Tryz.func16, Tryz.ntmps16
  go_wp2_with fail
  refine HC.out.mono ?_
  rintro e w2 ⟨rfl, rfl⟩
  clear hw1 hg
  go_wp2_with fail
  exact HE.out
end Go.Proofs.YtdfpmlfdmhlhcaaGreat

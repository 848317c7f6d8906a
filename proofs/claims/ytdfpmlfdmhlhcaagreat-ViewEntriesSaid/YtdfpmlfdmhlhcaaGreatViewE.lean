/- view's entries: entry, bound, Sends, Receipts, Reveals. -/
import Derived.Test.YtdfpmlfdmhlhcaaGreatWireE
import Derived.Test.YtdfpmlfdmhlhcaaGreatPlanE
namespace Go.Proofs.YtdfpmlfdmhlhcaaGreat
open Go.RowKit
theorem info_ent : (Tryz.prog.info? 32).map (·.size) = some 2 := by kernel_rfl
/-- what entry makes of a writer and what stands behind it -/
def entF (kind : Int) (w : List UInt8 × Int) (rest : List UInt8) : (Int × List UInt8) × Int := if w.2 ≠ 0 ∨ 60000 < w.1.length + rest.length then ((0, []), 2) else ((kind, w.1 ++ rest), 0)
theorem row_none (S : Nat → Prop) (w : World) (c : Nat) : IsRow S w (.slice none 0 c) (bys []) := ⟨none, c, rfl, fun i hi => by simp [bys] at hi⟩
set_option maxRecDepth 100000 in
set_option maxHeartbeats 1000000 in
theorem viewEntry (S T : Nat → Prop) (kind er : Int) (b nr cr : Nat) (pr : Option Addr) (l rest : List UInt8) (w : World) (h : IsEncE S w b l er) (hr : IsRow T w (.slice pr nr cr) (bys rest)) (hl : l.length ≤ 1000000) (hrl : nr ≤ 1000000000) :
    Calls Tryz.prog 41 #[.int .i64 kind, .pointer (some ⟨b, 0, none⟩), .slice pr nr cr] w fun e w' => ∃ p n c, e = .returned (.tuple #[.agg #[.int .i64 (entF kind (l, er) rest).1.1, .slice p n c], .int .i64 (entF kind (l, er) rest).2]) ∧ IsRow (fun k => w.heap.size ≤ k) w' (.slice p n c) (bys (entF kind (l, er) rest).1.2) ∧ Mod nil w w' := by
  refine (?_ : ∀ Post : Ending → World → Prop, Hid (∀ e w', (∃ p n c, e = .returned (.tuple #[.agg #[.int .i64 (entF kind (l, er) rest).1.1, .slice p n c], .int .i64 (entF kind (l, er) rest).2]) ∧ IsRow (fun k => w.heap.size ≤ k) w' (.slice p n c) (bys (entF kind (l, er) rest).1.2) ∧ Mod nil w w') → Post e w') → Calls Tryz.prog 41 #[.int .i64 kind, .pointer (some ⟨b, 0, none⟩), .slice pr nr cr] w Post) _ (Lib.hid (fun _ _ h => h))
  intro Post HPOST
  have hrn : rest.length = nr := by
    obtain ⟨_, _, h, _⟩ := hr
    simp only [Value.slice.injEq, bys_length] at h
    exact h.2.1.symm
  have HRN := Lib.hid hrn
  have H := Lib.hid h
  have HR := Lib.hid hr
  clear h hr hrn
  go_enter Tryz.func41, Tryz.ntmps41
  go_wp2_with fail
  obtain ⟨G, hG⟩ : ∃ g, w.heap.size = g := ⟨_, rfl⟩
  (try rw [hG])
  generalize hw1 : World.alloc w _ = w1
  have hm1 : Mod nil w w1 := by rw [← hw1]; exact (Mod.refl _ _).alloc _
  have HB1 : Hid (w1.heap[G]? = some (.cells #[.int .i64 0, .slice none 0 0] 32 (0, 0))) := Lib.hid (by rw [← hw1, ← hG]; exact heap_alloc_new _ _)
  have HG := Lib.hid hG
  have HM1 := Lib.hid hm1
  have HD := Lib.hid (encDoneE S b l er w1 (H.out.modNil hm1) (by omega))
  have HZ : Hid (∀ W, Mod nil w1 W → (entF kind (l, er) rest) = ((0, []), 2) → Post (.returned (.tuple #[.agg #[.int .i64 0, .slice none 0 0], .int .i64 2])) (W.setRow G #[.int .i64 0, .slice none 0 0])) := Lib.hid (fun W m hf => by
    have mr : Mod (· = G) W (W.setRow G #[.int .i64 0, .slice none 0 0]) := (Mod.refl _ _).rowSet G _ (fun _ => rfl)
    exact HPOST.out _ _ ⟨none, 0, 0, by rw [hf], by rw [hf]; exact row_none _ _ _, (HM1.out.thenNil m).new mr (fun k e => by have := HG.out; omega)⟩)
  clear hw1 hm1 hG
  refine HD.out.mono ?_
  rintro e w2 ⟨v2, rfl, hv2, hm2⟩
  have HB2 := Lib.hid (hm2.keep HB1.out)
  have HM2 := Lib.hid hm2
  clear hm2
  by_cases he : er = 0
  · subst he
    rw [if_pos rfl] at hv2
    obtain ⟨p2, c2, rfl⟩ := hv2.form
    obtain ⟨nl, hnl⟩ : ∃ n, l.length = n := ⟨_, rfl⟩
    have HNL := Lib.hid hnl
    by_cases hlong : 60000 < nl + nr
    · have HF := Lib.hid (show entF kind (l, 0) rest = ((0, []), 2) from if_pos (.inr (by rw [HRN.out]; simp only; omega)))
      have hlong' : (60000 : Int) < (nl : Int) + (nr : Int) := by omega
      rw [hnl]
      have hnlb : nl ≤ 1000000 := by omega
      clear hlong hnl hl hv2
      go_wp2_with (refine wpList_store_row rfl _ _ _ rfl G #[.int .i64 0, .slice none 0 0] rfl rfl 32 _ HB2.out info_ent rfl (by simp [Value.oneCell']) ?_)
      refine bodyPost_ret (results_cell_row2 rfl _ _ G 32 #[.int .i64 0, .slice none 0 0] (0, 0) rfl (setRow_heap w2 G _ #[.int .i64 0, .slice none 0 0] _ _ HB2.out) Tryz.underlying32 info_ent) rfl ?_
      exact HZ.out _ HM2.out HF.out
    · have hf : entF kind (l, 0) rest = ((kind, l ++ rest), 0) := if_neg (by rw [HRN.out]; simp only; omega)
      have hlong' : ¬ (60000 : Int) < (nl : Int) + (nr : Int) := by omega
      obtain ⟨v3, w3, hrun, hv3, hm3⟩ := bytes_append 26 hv2 (HR.out.modNil (HM1.out.thenNil HM2.out)) (by rw [HRN.out]; omega)
      obtain ⟨p3, c3, rfl⟩ := hv3.form
      obtain ⟨n3, hn3⟩ : ∃ n, (l ++ rest).length = n := ⟨_, rfl⟩
      rw [hn3] at hrun hv3
      rw [hnl] at hrun ⊢
      have hge1 : w.heap.size ≤ w1.heap.size := HM1.out.size
      have hge2 : w1.heap.size ≤ w2.heap.size := HM2.out.size
      have hGlt := heap_lt HB1.out
      have HB3 := Lib.hid ((hm3.block G (heap_lt HB2.out) (fun h => by omega)).trans HB2.out)
      have mr : Mod (· = G) w3 (w3.setRow G #[.int .i64 kind, .slice p3 n3 c3]) := (Mod.refl _ _).rowSet G _ (fun _ => rfl)
      have HE := Lib.hid (HPOST.out (.returned (.tuple #[.agg #[.int .i64 kind, .slice p3 n3 c3], .int .i64 0])) (w3.setRow G #[.int .i64 kind, .slice p3 n3 c3]) ⟨p3, n3, c3, by rw [hf], by
        rw [hf]
        exact (hv3.row.mod mr (fun k hk h e => by omega)).mono (fun k _ h => by omega), ((HM1.out.thenNil HM2.out).new hm3 (fun k h => by omega)).new mr (fun k e => by have := HG.out; omega)⟩)
      have hnlb : nl ≤ 1000000 := by omega
      have HRUN := Lib.hid hrun
      clear hlong hnl hl hv2 hrun hv3 hm3 mr hf hn3 hge1 hge2 hGlt
      go_wp2_with (first | (at_builtin; refine wpList_append_run rfl _ _ _ _ rfl rfl rfl HRUN.out ?_) | (refine wpList_store_row rfl _ _ _ rfl G #[.int .i64 kind, .slice p3 n3 c3] rfl rfl 32 _ HB3.out info_ent rfl (by simp [Value.oneCell']) ?_))
      refine bodyPost_ret (results_cell_row2 rfl _ _ G 32 #[.int .i64 kind, .slice p3 n3 c3] (0, 0) rfl (setRow_heap w3 G _ #[.int .i64 kind, .slice p3 n3 c3] _ _ HB3.out) Tryz.underlying32 info_ent) rfl ?_
      exact HE.out
  · rw [if_neg he] at hv2
    obtain ⟨p2, c2, rfl⟩ := hv2.form
    have HF := Lib.hid (show entF kind (l, er) rest = ((0, []), 2) from if_pos (.inl he))
    have hne : (er != 0) = true := by simpa using he
    rw [show ([] : List UInt8).length = 0 from rfl]
    clear he hv2
    go_wp2_with (refine wpList_store_row rfl _ _ _ rfl G #[.int .i64 0, .slice none 0 0] rfl rfl 32 _ HB2.out info_ent rfl (by simp [Value.oneCell']) ?_)
    refine bodyPost_ret (results_cell_row2 rfl _ _ G 32 #[.int .i64 0, .slice none 0 0] (0, 0) rfl (setRow_heap w2 G _ #[.int .i64 0, .slice none 0 0] _ _ HB2.out) Tryz.underlying32 info_ent) rfl ?_
    exact HZ.out _ HM2.out HF.out
end Go.Proofs.YtdfpmlfdmhlhcaaGreat

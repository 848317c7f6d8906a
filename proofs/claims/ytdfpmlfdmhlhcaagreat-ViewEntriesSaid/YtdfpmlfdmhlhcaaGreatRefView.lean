/- cflref22: the entries that are made. (Printed by wip/tools/gen_refview.py.) -/
import Derived.Test.YtdfpmlfdmhlhcaaGreatViewF
import Derived.Test.YtdfpmlfdmhlhcaaGreatRefEncF
namespace Go.Proofs.YtdfpmlfdmhlhcaaGreat
open Go.RowKit
def EntIn (S : Nat → Prop) (w : World) (x : (Int × List UInt8) × Int) (e : Ending) (w' : World) : Prop := ∃ p n c, e = .returned (.tuple #[.agg #[.int .i64 x.1.1, .slice p n c], .int .i64 x.2]) ∧ IsRow S w' (.slice p n c) (bys x.1.2) ∧ Mod nil w w'
theorem entF_nil (kind : Int) (l : List UInt8) : entF kind (l, 0) [] = if 60000 < l.length then ((0, []), 2) else ((kind, l), 0) := by
  unfold entF
  by_cases h : 60000 < l.length
  · rw [if_pos h, if_pos (.inr (by simpa using h))]
  · rw [if_neg h, if_neg (by rintro (h' | h'); exact h' rfl; simp at h'; omega)]; simp
theorem entF_err (kind er : Int) (l rest : List UInt8) (h : er ≠ 0) : entF kind (l, er) rest = ((0, []), 2) := if_pos (.inl h)
theorem entF_app (kind : Int) (l rest : List UInt8) : entF kind (l ++ rest, 0) [] = entF kind (l, 0) rest := by unfold entF; simp
set_option maxHeartbeats 1000000 in
theorem refEntry (S : Nat → Prop) (kind er : Int) (b : Nat) (l : List UInt8) (w : World) (h : IsREncE S w b l er) (hl : l.length ≤ 1000000) :
    Calls Tryz.prog 46 #[.int .i64 kind, .pointer (some ⟨b, 0, none⟩)] w (EntIn S w (entF kind (l, er) [])) := by
  refine (?_ : ∀ Post : Ending → World → Prop, Hid (∀ e w', EntIn S w (entF kind (l, er) []) e w' → Post e w') → Calls Tryz.prog 46 #[.int .i64 kind, .pointer (some ⟨b, 0, none⟩)] w Post) _ (Lib.hid (fun _ _ h => h))
  intro Post HPOST
  obtain ⟨p, q, hb, hv⟩ := h.ex
  have hbl := heap_lt hb
  obtain ⟨w1, hw1⟩ : ∃ W, w.alloc (.cells #[.int .i64 0, .slice none 0 0] 32) = W := ⟨_, rfl⟩
  obtain ⟨G, hG⟩ : ∃ g, w.heap.size = g := ⟨_, rfl⟩
  have hm1 : Mod nil w w1 := by rw [← hw1]; exact (Mod.refl _ _).alloc _
  have HB1 : Hid (w1.heap[G]? = some (.cells #[.int .i64 0, .slice none 0 0] 32 (0, 0))) := Lib.hid (by rw [← hw1, ← hG]; exact heap_alloc_new _ _)
  obtain ⟨nl, hnl⟩ : ∃ n, l.length = n := ⟨_, rfl⟩
  rw [hnl] at hb hv
  have hb1 := hm1.keep hb
  have c0 := cell_of hb1 0
  have c1 := cell_of hb1 1
  simp only [List.getElem?_toArray, List.getElem?_cons_zero, List.getElem?_cons_succ] at c0 c1
  have HZ : Hid ((entF kind (l, er) []) = ((0, []), 2) → Post (.returned (.tuple #[.agg #[.int .i64 0, .slice none 0 0], .int .i64 2])) (w1.setRow G #[.int .i64 0, .slice none 0 0])) := Lib.hid (fun hf => by
    have mr : Mod (· = G) w1 (w1.setRow G #[.int .i64 0, .slice none 0 0]) := (Mod.refl _ _).rowSet G _ (fun _ => rfl)
    exact HPOST.out _ _ ⟨none, 0, 0, by rw [hf], by rw [hf]; exact row_none _ _ _, hm1.new mr (fun k e => by omega)⟩)
  by_cases he : er = 0
  · subst he
    by_cases hlong : 60000 < nl
    · have HF := Lib.hid (show entF kind (l, 0) [] = ((0, []), 2) from by rw [entF_nil, if_pos (by omega)])
      have hlong' : (60000 : Int) < (nl : Int) := by omega
      clear hlong hl hnl hm1 hb hv hb1 h
      go_enter Tryz.func46, Tryz.ntmps46
      go_wp2_with (refine wpList_store_row rfl _ _ _ rfl G #[.int .i64 0, .slice none 0 0] rfl rfl 32 _ HB1.out info_ent rfl (by simp [Value.oneCell']) ?_)
      refine bodyPost_ret (results_cell_row2 rfl _ _ G 32 #[.int .i64 0, .slice none 0 0] (0, 0) rfl (setRow_heap w1 G _ #[.int .i64 0, .slice none 0 0] _ _ HB1.out) Tryz.underlying32 info_ent) rfl ?_
      exact HZ.out HF.out
    · have HF := Lib.hid (show entF kind (l, 0) [] = ((kind, l), 0) from by rw [entF_nil, if_neg (by omega)])
      have hlong' : ¬ (60000 : Int) < (nl : Int) := by omega
      have mr : Mod (· = G) w1 (w1.setRow G #[.int .i64 kind, .slice p nl q]) := (Mod.refl _ _).rowSet G _ (fun _ => rfl)
      have HE := Lib.hid (HPOST.out (.returned (.tuple #[.agg #[.int .i64 kind, .slice p nl q], .int .i64 0])) (w1.setRow G #[.int .i64 kind, .slice p nl q]) ⟨p, nl, q, by rw [HF.out], by
        rw [HF.out]
        exact (((hv.row.here.modNil hm1).mod mr (fun k _ h e => by have := h.2; omega)).mono (fun k _ h => h.1.1)), hm1.new mr (fun k e => by omega)⟩)
      clear hlong hl hnl hm1 hb hv hb1 h mr
      go_enter Tryz.func46, Tryz.ntmps46
      go_wp2_with (refine wpList_store_row rfl _ _ _ rfl G #[.int .i64 kind, .slice p nl q] rfl rfl 32 _ HB1.out info_ent rfl (by simp [Value.oneCell']) ?_)
      refine bodyPost_ret (results_cell_row2 rfl _ _ G 32 #[.int .i64 kind, .slice p nl q] (0, 0) rfl (setRow_heap w1 G _ #[.int .i64 kind, .slice p nl q] _ _ HB1.out) Tryz.underlying32 info_ent) rfl ?_
      exact HE.out
  · have HF := Lib.hid (entF_err kind er l [] he)
    have hne : (er != 0) = true := by simpa using he
    clear he hl hnl hm1 hb hv hb1 h
    go_enter Tryz.func46, Tryz.ntmps46
    go_wp2_with (refine wpList_store_row rfl _ _ _ rfl G #[.int .i64 0, .slice none 0 0] rfl rfl 32 _ HB1.out info_ent rfl (by simp [Value.oneCell']) ?_)
    refine bodyPost_ret (results_cell_row2 rfl _ _ G 32 #[.int .i64 0, .slice none 0 0] (0, 0) rfl (setRow_heap w1 G _ #[.int .i64 0, .slice none 0 0] _ _ HB1.out) Tryz.underlying32 info_ent) rfl ?_
    exact HZ.out HF.out
theorem ref_bound (kind which seq : Int) (rest : List UInt8) (h : ¬ (which < 0 ∨ 1 < which)) : entF kind ((rencN (nb which 1) 0 seq 4).1 ++ rest, (rencN (nb which 1) 0 seq 4).2) [] = boundF kind which seq rest := by
  unfold boundF
  rw [if_neg h]
  by_cases hf : fitsN seq 4
  · rw [show rencN (nb which 1) 0 seq 4 = (nb which 1 ++ nb seq 4, 0) from if_pos hf, show encN (nb which 1) 0 seq 4 = (nb which 1 ++ nb seq 4, 0) from by unfold encN; rw [if_neg (by simp), if_pos hf]]
    exact entF_app _ _ _
  · rw [show rencN (nb which 1) 0 seq 4 = (nb which 1, 1) from by unfold rencN; rw [if_neg hf]; simp, show encN (nb which 1) 0 seq 4 = (nb which 1, 1) from by unfold encN; rw [if_neg (by simp), if_neg hf]]
    exact (entF_err _ 1 _ _ (by decide)).trans (entF_err _ 1 _ _ (by decide)).symm
set_option maxRecDepth 100000 in
set_option maxHeartbeats 1000000 in
theorem refPart (T : Nat → Prop) (kind which seq : Int) (nr cr : Nat) (pr : Option Addr) (rest : List UInt8) (w : World) (hr : IsRow T w (.slice pr nr cr) (bys rest)) (hT : ∀ k, T k → k < w.heap.size) (hrl : nr ≤ 100000) :
    Calls Tryz.prog 48 #[.int .i64 kind, .int .i64 which, .int .i64 seq, .slice pr nr cr] w (EntOut w (boundF kind which seq rest)) := by
  refine (?_ : ∀ Post : Ending → World → Prop, Hid (∀ e w', EntOut w (boundF kind which seq rest) e w' → Post e w') → Calls Tryz.prog 48 #[.int .i64 kind, .int .i64 which, .int .i64 seq, .slice pr nr cr] w Post) _ (Lib.hid (fun _ _ h => h))
  intro Post HPOST
  have hrn : rest.length = nr := by
    obtain ⟨_, _, h, _⟩ := hr
    simp only [Value.slice.injEq, bys_length] at h
    exact h.2.1.symm
  have HRN := Lib.hid hrn
  have HR := Lib.hid hr
  have HT := Lib.hid hT
  clear hr hT hrn
  by_cases hw : which < 0 ∨ 1 < which
  · have HZ : Hid (Post (.returned (.tuple #[.agg #[.int .i64 0, .slice none 0 0], .int .i64 2])) ((w.alloc (.cells #[.int .i64 0, .slice none 0 0] 32)).setRow w.heap.size #[.int .i64 0, .slice none 0 0])) := Lib.hid (HPOST.out _ _ (ent_zero (Nat.le_refl _) (if_pos hw) ((Mod.refl _ _).alloc _)))
    have h1 : (which != 0) = true := by rw [bne_iff_ne]; omega
    have h2 : (which != 1) = true := by rw [bne_iff_ne]; omega
    clear hw
    go_enter Tryz.func48, Tryz.ntmps48
    go_wp2_with (refine wpList_store_row rfl _ _ _ rfl w.heap.size #[.int .i64 0, .slice none 0 0] rfl rfl 32 _ (heap_alloc_new _ _) info_ent rfl (by simp [Value.oneCell']) ?_)
    refine bodyPost_ret (results_cell_row2 rfl _ _ w.heap.size 32 #[.int .i64 0, .slice none 0 0] (0, 0) rfl (setRow_heap _ w.heap.size _ #[.int .i64 0, .slice none 0 0] _ _ (heap_alloc_new _ _)) Tryz.underlying32 info_ent) rfl ?_
    exact HZ.out
  · have HX := Lib.hid (ref_bound kind which seq rest hw)
    have hfit : fitsN which 1 := ⟨by omega, by omega, by simp; omega⟩
    have HN1 : Hid (rencN [] 0 which 1 = (nb which 1, 0)) := Lib.hid (by unfold rencN; rw [if_pos hfit]; rfl)
    have h01 : which = 0 ∨ which = 1 := by omega
    clear hw hfit
    rcases h01 with h01 | h01
    · have h1 : (which != 0) = false := by simp [h01]
      clear h01
      go_enter Tryz.func48, Tryz.ntmps48
      go_wp2_with fail
      obtain ⟨G, hG⟩ : ∃ g, w.heap.size = g := ⟨_, rfl⟩
      (try rw [hG])
      generalize hw1 : World.alloc w _ = w1
      have hm1 : Mod nil w w1 := by rw [← hw1]; exact (Mod.refl _ _).alloc _
      have hb1 : w1.heap[G]? = some (.cells #[.int .i64 0, .slice none 0 0] 32 (0, 0)) := by rw [← hw1, ← hG]; exact heap_alloc_new _ _
      obtain ⟨b, hb⟩ : ∃ g, w1.heap.size = g := ⟨_, rfl⟩
      have hGb : G + 1 = b := by rw [← hb, ← hw1, World.size_alloc, hG]
      (try rw [hGb])
      (try rw [hb])
      generalize hw2 : World.alloc w1 _ = w2
      have hm2 : Mod nil w1 w2 := by rw [← hw2]; exact (Mod.refl _ _).alloc _
      have hb2 : w2.heap[b]? = some (.cells #[.slice none 0 0, .int .i64 0] 84 (0, 0)) := by rw [← hw2, ← hb]; exact heap_alloc_new _ _
      have HE2 : Hid (IsREncE (fun k => w1.heap.size ≤ k) w2 b [] 0) := Lib.hid ⟨by omega, none, 0, hb2, IsVec.nil _ _ _ _⟩
      have HB2 : Hid (w2.heap[G]? = some (.cells #[.int .i64 0, .slice none 0 0] 32 (0, 0))) := Lib.hid (hm2.keep hb1)
      have HG : Hid (w.heap.size ≤ G) := Lib.hid (by omega)
      have HGL : Hid (G < w1.heap.size) := Lib.hid (heap_lt hb1)
      have HM1 := Lib.hid hm1
      have HM2 := Lib.hid (hm1.thenNil hm2)
      have hs2 := hm2.size
      clear hw1 hm1 hb1 hG hw2 hm2 hb2 hGb hb
      refine (refNumE 0 _ b [] which 1 1 w2 HE2.out (fun k hk => by omega) rfl (.inl rfl) (by simp)).mono ?_
      rw [HN1.out]
      rintro e w3 ⟨rfl, he, hm⟩
      have HE3 := Lib.hid he
      have HB3 := Lib.hid ((hm.block G (heap_lt HB2.out) (fun h => by have := HGL.out; omega)).trans HB2.out)
      have HM3 : Hid (Mod nil w w3) := Lib.hid (HM2.out.new hm (fun k hk => by have := HM1.out.size; omega))
      have hs3 := hm.size
      clear he hm
      go_wp2_with fail
      refine (refNumE 0 _ b (nb which 1) seq 4 4 w3 HE3.out (fun k hk => by omega) rfl (.inr (.inr (.inr rfl))) (by rw [nb_length]; omega)).mono ?_
      have hx4 := HX.out
      obtain ⟨⟨l4, e4⟩, h4⟩ : ∃ x, rencN (nb which 1) 0 seq 4 = x := ⟨_, rfl⟩
      have hl4 : l4.length ≤ 5 := by have := rencN_len (nb which 1) 0 seq 4; rw [h4, nb_length] at this; simpa using this
      rw [h4] at hx4 ⊢
      simp only at hx4
      rw [← hx4] at HPOST
      rintro e w4 ⟨rfl, he, hm⟩
      simp only at he
      have HE4 := Lib.hid he
      have HB4 := Lib.hid ((hm.block G (heap_lt HB3.out) (fun h => by have := HGL.out; omega)).trans HB3.out)
      have HM4 : Hid (Mod nil w w4) := Lib.hid (HM3.out.new hm (fun k hk => by have := HM1.out.size; omega))
      have hs4 := hm.size
      clear he hm
      clear h4 hx4 HX
      go_wp2_with fail
      refine (refRawE e4 _ T b l4 rest _ w4 HE4.out (fun k hk => by omega) (HR.out.modNil HM4.out) (by rw [HRN.out]; omega)).mono ?_
      rintro e w5 ⟨rfl, he, hm⟩
      have HE5 := Lib.hid he
      have HB5 := Lib.hid ((hm.block G (heap_lt HB4.out) (fun h => by have := HGL.out; omega)).trans HB4.out)
      have HM5 : Hid (Mod nil w w5) := Lib.hid (HM4.out.new hm (fun k hk => by have := HM1.out.size; omega))
      have hs5 := hm.size
      clear he hm
      obtain ⟨l5, h5⟩ : ∃ x, l4 ++ rest = x := ⟨_, rfl⟩
      have hl5 : l5.length ≤ 1000000 := by rw [← h5, List.length_append, HRN.out]; omega
      rw [h5] at HE5 HPOST
      clear h5
      go_wp2_with fail
      refine (refEntry _ kind e4 b l5 w5 HE5.out hl5).mono ?_
      rintro e w6 ⟨p, n, c, rfl, hrow, hmn⟩
      obtain ⟨⟨⟨xk, xb⟩, xe⟩, hx⟩ : ∃ y, entF kind (l5, e4) [] = y := ⟨_, rfl⟩
      rw [hx] at hrow HPOST ⊢
      simp only at hrow ⊢
      have HBn := Lib.hid (hmn.keep HB5.out)
      have hle := HM1.out.size
      have hlt := HGL.out
      have HE := Lib.hid (HPOST.out _ _ (ent_fin (G := G) (B := w1.heap.size) HG.out hlt hle (hrow.mono (fun k _ h => by omega)) (HM5.out.thenNil hmn)))
      simp only at HE
      clear hrow hmn hx hle hlt
      go_wp2_with (refine wpList_store_row rfl _ _ _ rfl G #[.int .i64 xk, .slice p n c] rfl rfl 32 _ HBn.out info_ent rfl (by simp [Value.oneCell']) ?_)
      refine bodyPost_ret (results_cell_row2 rfl _ _ G 32 #[.int .i64 xk, .slice p n c] (0, 0) rfl (setRow_heap w6 G _ #[.int .i64 xk, .slice p n c] _ _ HBn.out) Tryz.underlying32 info_ent) rfl ?_
      exact HE.out
    · have h1 : (which != 0) = true := by simp [h01]
      have h2 : (which != 1) = false := by simp [h01]
      clear h01
      go_enter Tryz.func48, Tryz.ntmps48
      go_wp2_with fail
      obtain ⟨G, hG⟩ : ∃ g, w.heap.size = g := ⟨_, rfl⟩
      (try rw [hG])
      generalize hw1 : World.alloc w _ = w1
      have hm1 : Mod nil w w1 := by rw [← hw1]; exact (Mod.refl _ _).alloc _
      have hb1 : w1.heap[G]? = some (.cells #[.int .i64 0, .slice none 0 0] 32 (0, 0)) := by rw [← hw1, ← hG]; exact heap_alloc_new _ _
      obtain ⟨b, hb⟩ : ∃ g, w1.heap.size = g := ⟨_, rfl⟩
      have hGb : G + 1 = b := by rw [← hb, ← hw1, World.size_alloc, hG]
      (try rw [hGb])
      (try rw [hb])
      generalize hw2 : World.alloc w1 _ = w2
      have hm2 : Mod nil w1 w2 := by rw [← hw2]; exact (Mod.refl _ _).alloc _
      have hb2 : w2.heap[b]? = some (.cells #[.slice none 0 0, .int .i64 0] 84 (0, 0)) := by rw [← hw2, ← hb]; exact heap_alloc_new _ _
      have HE2 : Hid (IsREncE (fun k => w1.heap.size ≤ k) w2 b [] 0) := Lib.hid ⟨by omega, none, 0, hb2, IsVec.nil _ _ _ _⟩
      have HB2 : Hid (w2.heap[G]? = some (.cells #[.int .i64 0, .slice none 0 0] 32 (0, 0))) := Lib.hid (hm2.keep hb1)
      have HG : Hid (w.heap.size ≤ G) := Lib.hid (by omega)
      have HGL : Hid (G < w1.heap.size) := Lib.hid (heap_lt hb1)
      have HM1 := Lib.hid hm1
      have HM2 := Lib.hid (hm1.thenNil hm2)
      have hs2 := hm2.size
      clear hw1 hm1 hb1 hG hw2 hm2 hb2 hGb hb
      refine (refNumE 0 _ b [] which 1 1 w2 HE2.out (fun k hk => by omega) rfl (.inl rfl) (by simp)).mono ?_
      rw [HN1.out]
      rintro e w3 ⟨rfl, he, hm⟩
      have HE3 := Lib.hid he
      have HB3 := Lib.hid ((hm.block G (heap_lt HB2.out) (fun h => by have := HGL.out; omega)).trans HB2.out)
      have HM3 : Hid (Mod nil w w3) := Lib.hid (HM2.out.new hm (fun k hk => by have := HM1.out.size; omega))
      have hs3 := hm.size
      clear he hm
      go_wp2_with fail
      refine (refNumE 0 _ b (nb which 1) seq 4 4 w3 HE3.out (fun k hk => by omega) rfl (.inr (.inr (.inr rfl))) (by rw [nb_length]; omega)).mono ?_
      have hx4 := HX.out
      obtain ⟨⟨l4, e4⟩, h4⟩ : ∃ x, rencN (nb which 1) 0 seq 4 = x := ⟨_, rfl⟩
      have hl4 : l4.length ≤ 5 := by have := rencN_len (nb which 1) 0 seq 4; rw [h4, nb_length] at this; simpa using this
      rw [h4] at hx4 ⊢
      simp only at hx4
      rw [← hx4] at HPOST
      rintro e w4 ⟨rfl, he, hm⟩
      simp only at he
      have HE4 := Lib.hid he
      have HB4 := Lib.hid ((hm.block G (heap_lt HB3.out) (fun h => by have := HGL.out; omega)).trans HB3.out)
      have HM4 : Hid (Mod nil w w4) := Lib.hid (HM3.out.new hm (fun k hk => by have := HM1.out.size; omega))
      have hs4 := hm.size
      clear he hm
      clear h4 hx4 HX
      go_wp2_with fail
      refine (refRawE e4 _ T b l4 rest _ w4 HE4.out (fun k hk => by omega) (HR.out.modNil HM4.out) (by rw [HRN.out]; omega)).mono ?_
      rintro e w5 ⟨rfl, he, hm⟩
      have HE5 := Lib.hid he
      have HB5 := Lib.hid ((hm.block G (heap_lt HB4.out) (fun h => by have := HGL.out; omega)).trans HB4.out)
      have HM5 : Hid (Mod nil w w5) := Lib.hid (HM4.out.new hm (fun k hk => by have := HM1.out.size; omega))
      have hs5 := hm.size
      clear he hm
      obtain ⟨l5, h5⟩ : ∃ x, l4 ++ rest = x := ⟨_, rfl⟩
      have hl5 : l5.length ≤ 1000000 := by rw [← h5, List.length_append, HRN.out]; omega
      rw [h5] at HE5 HPOST
      clear h5
      go_wp2_with fail
      refine (refEntry _ kind e4 b l5 w5 HE5.out hl5).mono ?_
      rintro e w6 ⟨p, n, c, rfl, hrow, hmn⟩
      obtain ⟨⟨⟨xk, xb⟩, xe⟩, hx⟩ : ∃ y, entF kind (l5, e4) [] = y := ⟨_, rfl⟩
      rw [hx] at hrow HPOST ⊢
      simp only at hrow ⊢
      have HBn := Lib.hid (hmn.keep HB5.out)
      have hle := HM1.out.size
      have hlt := HGL.out
      have HE := Lib.hid (HPOST.out _ _ (ent_fin (G := G) (B := w1.heap.size) HG.out hlt hle (hrow.mono (fun k _ h => by omega)) (HM5.out.thenNil hmn)))
      simp only at HE
      clear hrow hmn hx hle hlt
      go_wp2_with (refine wpList_store_row rfl _ _ _ rfl G #[.int .i64 xk, .slice p n c] rfl rfl 32 _ HBn.out info_ent rfl (by simp [Value.oneCell']) ?_)
      refine bodyPost_ret (results_cell_row2 rfl _ _ G 32 #[.int .i64 xk, .slice p n c] (0, 0) rfl (setRow_heap w6 G _ #[.int .i64 xk, .slice p n c] _ _ HBn.out) Tryz.underlying32 info_ent) rfl ?_
      exact HE.out
theorem refSends (T : Nat → Prop) (which seq : Int) (nr cr : Nat) (pr : Option Addr) (rest : List UInt8) (w : World) (hr : IsRow T w (.slice pr nr cr) (bys rest)) (hT : ∀ k, T k → k < w.heap.size) (hrl : nr ≤ 100000) :
    Calls Tryz.prog 11 #[.int .i64 which, .int .i64 seq, .slice pr nr cr] w (EntOut w (boundF 2 which seq rest)) := by
  refine (?_ : ∀ Post : Ending → World → Prop, Hid (∀ e w', EntOut w (boundF 2 which seq rest) e w' → Post e w') → Calls Tryz.prog 11 #[.int .i64 which, .int .i64 seq, .slice pr nr cr] w Post) _ (Lib.hid (fun _ _ h => h))
  intro Post HPOST
  have HR := Lib.hid hr
  have HT := Lib.hid hT
  clear hr hT
  go_enter Tryz.func11, Tryz.ntmps11
  go_wp2_with fail
  obtain ⟨G, hG⟩ : ∃ g, w.heap.size = g := ⟨_, rfl⟩
  (try rw [hG])
  generalize hw1 : World.alloc w _ = w1
  have hm1 : Mod nil w w1 := by rw [← hw1]; exact (Mod.refl _ _).alloc _
  have HB1 : Hid (w1.heap[G]? = some (.cells #[.int .i64 0, .slice none 0 0] 32 (0, 0))) := Lib.hid (by rw [← hw1, ← hG]; exact heap_alloc_new _ _)
  have HG : Hid (w.heap.size ≤ G) := Lib.hid (by omega)
  have HM1 := Lib.hid hm1
  clear hw1 hm1 hG
  refine (refPart T 2 which seq nr cr pr rest w1 (HR.out.modNil HM1.out) (fun k hk => Nat.lt_of_lt_of_le (HT.out k hk) HM1.out.size) hrl).mono ?_
  rintro e w2 ⟨p, n, c, rfl, hrow, hmn⟩
  obtain ⟨⟨⟨xk, xb⟩, xe⟩, hx⟩ : ∃ y, boundF 2 which seq rest = y := ⟨_, rfl⟩
  rw [hx] at hrow HPOST ⊢
  simp only at hrow ⊢
  have HBn := Lib.hid (hmn.keep HB1.out)
  have hle := HM1.out.size
  have hlt := heap_lt HB1.out
  have HE := Lib.hid (HPOST.out _ _ (ent_fin (G := G) (B := w1.heap.size) HG.out hlt hle hrow (HM1.out.thenNil hmn)))
  simp only at HE
  clear hrow hmn hx hle hlt
  go_wp2_with (refine wpList_store_row rfl _ _ _ rfl G #[.int .i64 xk, .slice p n c] rfl rfl 32 _ HBn.out info_ent rfl (by simp [Value.oneCell']) ?_)
  refine bodyPost_ret (results_cell_row2 rfl _ _ G 32 #[.int .i64 xk, .slice p n c] (0, 0) rfl (setRow_heap w2 G _ #[.int .i64 xk, .slice p n c] _ _ HBn.out) Tryz.underlying32 info_ent) rfl ?_
  exact HE.out
theorem refReceipts (T : Nat → Prop) (which seq : Int) (nr cr : Nat) (pr : Option Addr) (rest : List UInt8) (w : World) (hr : IsRow T w (.slice pr nr cr) (bys rest)) (hT : ∀ k, T k → k < w.heap.size) (hrl : nr ≤ 100000) :
    Calls Tryz.prog 13 #[.int .i64 which, .int .i64 seq, .slice pr nr cr] w (EntOut w (boundF 3 which seq rest)) := by
  refine (?_ : ∀ Post : Ending → World → Prop, Hid (∀ e w', EntOut w (boundF 3 which seq rest) e w' → Post e w') → Calls Tryz.prog 13 #[.int .i64 which, .int .i64 seq, .slice pr nr cr] w Post) _ (Lib.hid (fun _ _ h => h))
  intro Post HPOST
  have HR := Lib.hid hr
  have HT := Lib.hid hT
  clear hr hT
  go_enter Tryz.func13, Tryz.ntmps13
  go_wp2_with fail
  obtain ⟨G, hG⟩ : ∃ g, w.heap.size = g := ⟨_, rfl⟩
  (try rw [hG])
  generalize hw1 : World.alloc w _ = w1
  have hm1 : Mod nil w w1 := by rw [← hw1]; exact (Mod.refl _ _).alloc _
  have HB1 : Hid (w1.heap[G]? = some (.cells #[.int .i64 0, .slice none 0 0] 32 (0, 0))) := Lib.hid (by rw [← hw1, ← hG]; exact heap_alloc_new _ _)
  have HG : Hid (w.heap.size ≤ G) := Lib.hid (by omega)
  have HM1 := Lib.hid hm1
  clear hw1 hm1 hG
  refine (refPart T 3 which seq nr cr pr rest w1 (HR.out.modNil HM1.out) (fun k hk => Nat.lt_of_lt_of_le (HT.out k hk) HM1.out.size) hrl).mono ?_
  rintro e w2 ⟨p, n, c, rfl, hrow, hmn⟩
  obtain ⟨⟨⟨xk, xb⟩, xe⟩, hx⟩ : ∃ y, boundF 3 which seq rest = y := ⟨_, rfl⟩
  rw [hx] at hrow HPOST ⊢
  simp only at hrow ⊢
  have HBn := Lib.hid (hmn.keep HB1.out)
  have hle := HM1.out.size
  have hlt := heap_lt HB1.out
  have HE := Lib.hid (HPOST.out _ _ (ent_fin (G := G) (B := w1.heap.size) HG.out hlt hle hrow (HM1.out.thenNil hmn)))
  simp only at HE
  clear hrow hmn hx hle hlt
  go_wp2_with (refine wpList_store_row rfl _ _ _ rfl G #[.int .i64 xk, .slice p n c] rfl rfl 32 _ HBn.out info_ent rfl (by simp [Value.oneCell']) ?_)
  refine bodyPost_ret (results_cell_row2 rfl _ _ G 32 #[.int .i64 xk, .slice p n c] (0, 0) rfl (setRow_heap w2 G _ #[.int .i64 xk, .slice p n c] _ _ HBn.out) Tryz.underlying32 info_ent) rfl ?_
  exact HE.out
theorem ref_reveal (n : Int) : entF 4 (rencN [] 0 n 2) [] = entF 4 (encN [] 0 n 2) [] := by
  by_cases hf : fitsN n 2
  · rw [show rencN [] 0 n 2 = ([] ++ nb n 2, 0) from if_pos hf, show encN [] 0 n 2 = ([] ++ nb n 2, 0) from by unfold encN; rw [if_neg (by simp), if_pos hf]]
  · rw [show rencN [] 0 n 2 = ([], 1) from by unfold rencN; rw [if_neg hf]; simp, show encN [] 0 n 2 = ([], 1) from by unfold encN; rw [if_neg (by simp), if_neg hf]]
theorem refReveals (n : Int) (w : World) : Calls Tryz.prog 15 #[.int .i64 n] w (EntOut w (entF 4 (encN [] 0 n 2) [])) := by
  rw [← ref_reveal]
  refine (?_ : ∀ Post : Ending → World → Prop, Hid (∀ e w', EntOut w (entF 4 (rencN [] 0 n 2) []) e w' → Post e w') → Calls Tryz.prog 15 #[.int .i64 n] w Post) _ (Lib.hid (fun _ _ h => h))
  intro Post HPOST
  go_enter Tryz.func15, Tryz.ntmps15
  go_wp2_with fail
  obtain ⟨G, hG⟩ : ∃ g, w.heap.size = g := ⟨_, rfl⟩
  (try rw [hG])
  generalize hw1 : World.alloc w _ = w1
  have hm1 : Mod nil w w1 := by rw [← hw1]; exact (Mod.refl _ _).alloc _
  have hb1 : w1.heap[G]? = some (.cells #[.int .i64 0, .slice none 0 0] 32 (0, 0)) := by rw [← hw1, ← hG]; exact heap_alloc_new _ _
  obtain ⟨b, hb⟩ : ∃ g, w1.heap.size = g := ⟨_, rfl⟩
  have hGb : G + 1 = b := by rw [← hb, ← hw1, World.size_alloc, hG]
  (try rw [hGb])
  (try rw [hb])
  generalize hw2 : World.alloc w1 _ = w2
  have hm2 : Mod nil w1 w2 := by rw [← hw2]; exact (Mod.refl _ _).alloc _
  have hb2 : w2.heap[b]? = some (.cells #[.slice none 0 0, .int .i64 0] 84 (0, 0)) := by rw [← hw2, ← hb]; exact heap_alloc_new _ _
  have HE2 : Hid (IsREncE (fun k => w1.heap.size ≤ k) w2 b [] 0) := Lib.hid ⟨by omega, none, 0, hb2, IsVec.nil _ _ _ _⟩
  have HB2 : Hid (w2.heap[G]? = some (.cells #[.int .i64 0, .slice none 0 0] 32 (0, 0))) := Lib.hid (hm2.keep hb1)
  have HG : Hid (w.heap.size ≤ G) := Lib.hid (by omega)
  have HGL : Hid (G < w1.heap.size) := Lib.hid (heap_lt hb1)
  have HM1 := Lib.hid hm1
  have HM2 := Lib.hid (hm1.thenNil hm2)
  have hs2 := hm2.size
  clear hw1 hm1 hb1 hG hw2 hm2 hb2 hGb hb
  refine (refNumE 0 _ b [] n 2 2 w2 HE2.out (fun k hk => by omega) rfl (.inr (.inl rfl)) (by simp)).mono ?_
  obtain ⟨⟨l4, e4⟩, h4⟩ : ∃ x, rencN [] 0 n 2 = x := ⟨_, rfl⟩
  have hl4 : l4.length ≤ 1000000 := by have := rencN_len [] 0 n 2; rw [h4] at this; simp at this; omega
  rw [h4] at HPOST ⊢
  rintro e w4 ⟨rfl, he, hm⟩
  simp only at he
  have HE4 := Lib.hid he
  have HB4 := Lib.hid ((hm.block G (heap_lt HB2.out) (fun h => by have := HGL.out; omega)).trans HB2.out)
  have HM4 : Hid (Mod nil w w4) := Lib.hid (HM2.out.new hm (fun k hk => by have := HM1.out.size; omega))
  have hs4 := hm.size
  clear he hm
  clear h4
  go_wp2_with fail
  refine (refEntry _ 4 e4 b l4 w4 HE4.out hl4).mono ?_
  rintro e w5 ⟨p, n, c, rfl, hrow, hmn⟩
  obtain ⟨⟨⟨xk, xb⟩, xe⟩, hx⟩ : ∃ y, entF 4 (l4, e4) [] = y := ⟨_, rfl⟩
  rw [hx] at hrow HPOST ⊢
  simp only at hrow ⊢
  have HBn := Lib.hid (hmn.keep HB4.out)
  have hle := HM1.out.size
  have hlt := HGL.out
  have HE := Lib.hid (HPOST.out _ _ (ent_fin (G := G) (B := w1.heap.size) HG.out hlt hle (hrow.mono (fun k _ h => by omega)) (HM4.out.thenNil hmn)))
  simp only at HE
  clear hrow hmn hx hle hlt
  go_wp2_with (refine wpList_store_row rfl _ _ _ rfl G #[.int .i64 xk, .slice p n c] rfl rfl 32 _ HBn.out info_ent rfl (by simp [Value.oneCell']) ?_)
  refine bodyPost_ret (results_cell_row2 rfl _ _ G 32 #[.int .i64 xk, .slice p n c] (0, 0) rfl (setRow_heap w5 G _ #[.int .i64 xk, .slice p n c] _ _ HBn.out) Tryz.underlying32 info_ent) rfl ?_
  exact HE.out
end Go.Proofs.YtdfpmlfdmhlhcaaGreat

/- view: the entries that are made. (Printed by wip/tools/gen_viewf.py.) -/
import Derived.Test.YtdfpmlfdmhlhcaaGreatViewE
import Derived.Test.YtdfpmlfdmhlhcaaGreatPlanK
import Derived.Lib.ConvBytes
namespace Go.Proofs.YtdfpmlfdmhlhcaaGreat
open Go.RowKit
/-- an entry and an error, as a function returns them -/
def EntOut (w : World) (x : (Int × List UInt8) × Int) (e : Ending) (w' : World) : Prop := ∃ p n c, e = .returned (.tuple #[.agg #[.int .i64 x.1.1, .slice p n c], .int .i64 x.2]) ∧ IsRow (fun k => w.heap.size ≤ k) w' (.slice p n c) (bys x.1.2) ∧ Mod nil w w'
theorem ent_fin {w w3 : World} {x : (Int × List UInt8) × Int} {p : Option Addr} {n c G B : Nat} (hG : w.heap.size ≤ G) (hGB : G < B) (hB : w.heap.size ≤ B) (hr : IsRow (fun k => B ≤ k) w3 (.slice p n c) (bys x.1.2)) (hm : Mod nil w w3) :
    EntOut w x (.returned (.tuple #[.agg #[.int .i64 x.1.1, .slice p n c], .int .i64 x.2])) (w3.setRow G #[.int .i64 x.1.1, .slice p n c]) := by
  have mr : Mod (· = G) w3 (w3.setRow G #[.int .i64 x.1.1, .slice p n c]) := (Mod.refl _ _).rowSet G _ (fun _ => rfl)
  exact ⟨p, n, c, rfl, (hr.mod mr (fun k _ h e => by omega)).mono (fun k _ h => by omega), hm.new mr (fun k e => by rw [e]; exact hG)⟩
theorem ent_zero {w w3 : World} {x : (Int × List UInt8) × Int} {G : Nat} (hG : w.heap.size ≤ G) (hx : x = ((0, []), 2)) (hm : Mod nil w w3) : EntOut w x (.returned (.tuple #[.agg #[.int .i64 0, .slice none 0 0], .int .i64 2])) (w3.setRow G #[.int .i64 0, .slice none 0 0]) := by
  have mr : Mod (· = G) w3 (w3.setRow G #[.int .i64 0, .slice none 0 0]) := (Mod.refl _ _).rowSet G _ (fun _ => rfl)
  subst hx
  exact ⟨none, 0, 0, rfl, row_none _ _ _, hm.new mr (fun k e => by rw [e]; exact hG)⟩
def boundF (kind which seq : Int) (rest : List UInt8) : (Int × List UInt8) × Int := if which < 0 ∨ 1 < which then ((0, []), 2) else entF kind (encN (nb which 1) 0 seq 4) rest
set_option maxRecDepth 100000 in
set_option maxHeartbeats 1000000 in
theorem viewBound (T : Nat → Prop) (kind which seq : Int) (nr cr : Nat) (pr : Option Addr) (rest : List UInt8) (w : World) (hr : IsRow T w (.slice pr nr cr) (bys rest)) (hT : ∀ k, T k → k < w.heap.size) (hrl : nr ≤ 1000000000) :
    Calls Tryz.prog 47 #[.int .i64 kind, .int .i64 which, .int .i64 seq, .slice pr nr cr] w (EntOut w (boundF kind which seq rest)) := by
  refine (?_ : ∀ Post : Ending → World → Prop, Hid (∀ e w', EntOut w (boundF kind which seq rest) e w' → Post e w') → Calls Tryz.prog 47 #[.int .i64 kind, .int .i64 which, .int .i64 seq, .slice pr nr cr] w Post) _ (Lib.hid (fun _ _ h => h))
  intro Post HPOST
  have HR := Lib.hid hr
  have HT := Lib.hid hT
  clear hr hT
  by_cases hw : which < 0 ∨ 1 < which
  · have HZ : Hid (Post (.returned (.tuple #[.agg #[.int .i64 0, .slice none 0 0], .int .i64 2])) ((w.alloc (.cells #[.int .i64 0, .slice none 0 0] 32)).setRow w.heap.size #[.int .i64 0, .slice none 0 0])) := Lib.hid (HPOST.out _ _ (ent_zero (Nat.le_refl _) (if_pos hw) ((Mod.refl _ _).alloc _)))
    rcases (show which < 0 ∨ (0 ≤ which ∧ 2 ≤ which) by omega) with h1 | h1
    all_goals
      clear hw
      go_enter Tryz.func47, Tryz.ntmps47
      go_wp2_with (refine wpList_store_row rfl _ _ _ rfl w.heap.size #[.int .i64 0, .slice none 0 0] rfl rfl 32 _ (heap_alloc_new _ _) info_ent rfl (by simp [Value.oneCell']) ?_)
      refine bodyPost_ret (results_cell_row2 rfl _ _ w.heap.size 32 #[.int .i64 0, .slice none 0 0] (0, 0) rfl (setRow_heap _ w.heap.size _ #[.int .i64 0, .slice none 0 0] _ _ (heap_alloc_new _ _)) Tryz.underlying32 info_ent) rfl ?_
      exact HZ.out
  · have hf : boundF kind which seq rest = entF kind (encN (nb which 1) 0 seq 4) rest := if_neg hw
    rw [hf] at HPOST
    have hfit : fitsN which 1 := ⟨by omega, by omega, by simp; omega⟩
    have HN1 : Hid (encN [] 0 which 1 = (nb which 1, 0)) := Lib.hid (by unfold encN; rw [if_neg (by simp), if_pos hfit]; rfl)
    have h0 : 0 ≤ which ∧ ¬ 2 ≤ which := by omega
    clear hf hw hfit
    go_enter Tryz.func47, Tryz.ntmps47
    go_wp2_with fail
    obtain ⟨G, hG⟩ : ∃ g, w.heap.size = g := ⟨_, rfl⟩
    (try rw [hG])
    generalize hw1 : World.alloc w _ = w1
    have hm1 : Mod nil w w1 := by rw [← hw1]; exact (Mod.refl _ _).alloc _
    have HB1 : Hid (w1.heap[G]? = some (.cells #[.int .i64 0, .slice none 0 0] 32 (0, 0))) := Lib.hid (by rw [← hw1, ← hG]; exact heap_alloc_new _ _)
    have HG : Hid (w.heap.size ≤ G) := Lib.hid (by omega)
    have HM1 := Lib.hid hm1
    clear hw1 hm1 hG
    refine (wireNewEnc w1).mono ?_
    rintro e w2 ⟨b, rfl, he2, hm2⟩
    have HE2 := Lib.hid he2.e
    have HM2 := Lib.hid (HM1.out.thenNil hm2)
    have HB2 := Lib.hid (hm2.keep HB1.out)
    have hs2 := hm2.size
    clear he2 hm2
    go_wp2_with fail
    refine (encNumE _ b [] 0 which 1 1 w2 HE2.out (fun k hk => by omega) rfl (by omega) (by omega) (by simp)).mono ?_
    rw [HN1.out]
    rintro e w3 ⟨rfl, he3, hm3⟩
    have HE3 := Lib.hid he3
    have HGL : Hid (G < w1.heap.size) := Lib.hid (heap_lt HB1.out)
    have HB3 := Lib.hid ((hm3.block G (heap_lt HB2.out) (fun h => by have := HGL.out; omega)).trans HB2.out)
    have HM3 : Hid (Mod nil w w3) := Lib.hid (HM2.out.new hm3 (fun k hk => by have := HM1.out.size; omega))
    have hs3 := hm3.size
    clear he3 hm3
    go_wp2_with fail
    refine (encNumE _ b (nb which 1) 0 seq 4 4 w3 HE3.out (fun k hk => by omega) rfl (by omega) (by omega) (by rw [nb_length]; omega)).mono ?_
    obtain ⟨⟨l4, e4⟩, h4⟩ : ∃ x, encN (nb which 1) 0 seq 4 = x := ⟨_, rfl⟩
    have hl4 : l4.length ≤ 5 := by have := encN_len (nb which 1) 0 seq 4; rw [h4, nb_length] at this; simpa using this
    rw [h4] at HPOST ⊢
    rintro e w4 ⟨rfl, he4, hm4⟩
    simp only at he4
    have HE4 := Lib.hid he4
    have HB4 := Lib.hid ((hm4.block G (heap_lt HB3.out) (fun h => by have := HGL.out; omega)).trans HB3.out)
    have HM4 : Hid (Mod nil w w4) := Lib.hid (HM3.out.new hm4 (fun k hk => by have := HM1.out.size; omega))
    clear he4 hm4 h4
    go_wp2_with fail
    refine (viewEntry _ T kind e4 b nr cr pr l4 rest w4 HE4.out (HR.out.modNil HM4.out) (by omega) hrl).mono ?_
    rintro e w5 ⟨p, n, c, rfl, hrow, hmn⟩
    obtain ⟨⟨⟨xk, xb⟩, xe⟩, hx⟩ : ∃ y, entF kind (l4, e4) rest = y := ⟨_, rfl⟩
    rw [hx] at hrow HPOST ⊢
    simp only at hrow ⊢
    have HBn := Lib.hid (hmn.keep HB4.out)
    have hle := HM4.out.size
    have hlt := heap_lt HB4.out
    have HE := Lib.hid (HPOST.out _ _ (ent_fin (G := G) (B := w4.heap.size) HG.out hlt hle hrow (HM4.out.thenNil hmn)))
    simp only at HE
    clear hrow hmn hx hle hlt
    go_wp2_with (refine wpList_store_row rfl _ _ _ rfl G #[.int .i64 xk, .slice p n c] rfl rfl 32 _ HBn.out info_ent rfl (by simp [Value.oneCell']) ?_)
    refine bodyPost_ret (results_cell_row2 rfl _ _ G 32 #[.int .i64 xk, .slice p n c] (0, 0) rfl (setRow_heap w5 G _ #[.int .i64 xk, .slice p n c] _ _ HBn.out) Tryz.underlying32 info_ent) rfl ?_
    exact HE.out
theorem viewSends (T : Nat → Prop) (which seq : Int) (nr cr : Nat) (pr : Option Addr) (rest : List UInt8) (w : World) (hr : IsRow T w (.slice pr nr cr) (bys rest)) (hT : ∀ k, T k → k < w.heap.size) (hrl : nr ≤ 1000000000) :
    Calls Tryz.prog 10 #[.int .i64 which, .int .i64 seq, .slice pr nr cr] w (EntOut w (boundF 2 which seq rest)) := by
  refine (?_ : ∀ Post : Ending → World → Prop, Hid (∀ e w', EntOut w (boundF 2 which seq rest) e w' → Post e w') → Calls Tryz.prog 10 #[.int .i64 which, .int .i64 seq, .slice pr nr cr] w Post) _ (Lib.hid (fun _ _ h => h))
  intro Post HPOST
  have HR := Lib.hid hr
  have HT := Lib.hid hT
  clear hr hT
  go_enter Tryz.func10, Tryz.ntmps10
  go_wp2_with fail
  obtain ⟨G, hG⟩ : ∃ g, w.heap.size = g := ⟨_, rfl⟩
  (try rw [hG])
  generalize hw1 : World.alloc w _ = w1
  have hm1 : Mod nil w w1 := by rw [← hw1]; exact (Mod.refl _ _).alloc _
  have HB1 : Hid (w1.heap[G]? = some (.cells #[.int .i64 0, .slice none 0 0] 32 (0, 0))) := Lib.hid (by rw [← hw1, ← hG]; exact heap_alloc_new _ _)
  have HG : Hid (w.heap.size ≤ G) := Lib.hid (by omega)
  have HM1 := Lib.hid hm1
  clear hw1 hm1 hG
  refine (viewBound T 2 which seq nr cr pr rest w1 (HR.out.modNil HM1.out) (fun k hk => Nat.lt_of_lt_of_le (HT.out k hk) HM1.out.size) hrl).mono ?_
  rintro e w2 ⟨p, n, c, rfl, hrow, hmn⟩
  obtain ⟨⟨⟨xk, xb⟩, xe⟩, hx⟩ : ∃ y, boundF 2 which seq rest = y := ⟨_, rfl⟩
  rw [hx] at hrow HPOST ⊢
  simp only at hrow ⊢
  have HBn := Lib.hid (hmn.keep HB1.out)
  have hle := HM1.out.size
  have hlt := heap_lt HB1.out
  have HE := Lib.hid (HPOST.out _ _ (ent_fin (G := G) (B := w1.heap.size) HG.out hlt hle hrow (HM1.out.thenNil hmn)))
  simp only at HE
  clear hrow hmn hx hle hlt
  go_wp2_with (refine wpList_store_row rfl _ _ _ rfl G #[.int .i64 xk, .slice p n c] rfl rfl 32 _ HBn.out info_ent rfl (by simp [Value.oneCell']) ?_)
  refine bodyPost_ret (results_cell_row2 rfl _ _ G 32 #[.int .i64 xk, .slice p n c] (0, 0) rfl (setRow_heap w2 G _ #[.int .i64 xk, .slice p n c] _ _ HBn.out) Tryz.underlying32 info_ent) rfl ?_
  exact HE.out
theorem viewReceipts (T : Nat → Prop) (which seq : Int) (nr cr : Nat) (pr : Option Addr) (rest : List UInt8) (w : World) (hr : IsRow T w (.slice pr nr cr) (bys rest)) (hT : ∀ k, T k → k < w.heap.size) (hrl : nr ≤ 1000000000) :
    Calls Tryz.prog 12 #[.int .i64 which, .int .i64 seq, .slice pr nr cr] w (EntOut w (boundF 3 which seq rest)) := by
  refine (?_ : ∀ Post : Ending → World → Prop, Hid (∀ e w', EntOut w (boundF 3 which seq rest) e w' → Post e w') → Calls Tryz.prog 12 #[.int .i64 which, .int .i64 seq, .slice pr nr cr] w Post) _ (Lib.hid (fun _ _ h => h))
  intro Post HPOST
  have HR := Lib.hid hr
  have HT := Lib.hid hT
  clear hr hT
  go_enter Tryz.func12, Tryz.ntmps12
  go_wp2_with fail
  obtain ⟨G, hG⟩ : ∃ g, w.heap.size = g := ⟨_, rfl⟩
  (try rw [hG])
  generalize hw1 : World.alloc w _ = w1
  have hm1 : Mod nil w w1 := by rw [← hw1]; exact (Mod.refl _ _).alloc _
  have HB1 : Hid (w1.heap[G]? = some (.cells #[.int .i64 0, .slice none 0 0] 32 (0, 0))) := Lib.hid (by rw [← hw1, ← hG]; exact heap_alloc_new _ _)
  have HG : Hid (w.heap.size ≤ G) := Lib.hid (by omega)
  have HM1 := Lib.hid hm1
  clear hw1 hm1 hG
  refine (viewBound T 3 which seq nr cr pr rest w1 (HR.out.modNil HM1.out) (fun k hk => Nat.lt_of_lt_of_le (HT.out k hk) HM1.out.size) hrl).mono ?_
  rintro e w2 ⟨p, n, c, rfl, hrow, hmn⟩
  obtain ⟨⟨⟨xk, xb⟩, xe⟩, hx⟩ : ∃ y, boundF 3 which seq rest = y := ⟨_, rfl⟩
  rw [hx] at hrow HPOST ⊢
  simp only at hrow ⊢
  have HBn := Lib.hid (hmn.keep HB1.out)
  have hle := HM1.out.size
  have hlt := heap_lt HB1.out
  have HE := Lib.hid (HPOST.out _ _ (ent_fin (G := G) (B := w1.heap.size) HG.out hlt hle hrow (HM1.out.thenNil hmn)))
  simp only at HE
  clear hrow hmn hx hle hlt
  go_wp2_with (refine wpList_store_row rfl _ _ _ rfl G #[.int .i64 xk, .slice p n c] rfl rfl 32 _ HBn.out info_ent rfl (by simp [Value.oneCell']) ?_)
  refine bodyPost_ret (results_cell_row2 rfl _ _ G 32 #[.int .i64 xk, .slice p n c] (0, 0) rfl (setRow_heap w2 G _ #[.int .i64 xk, .slice p n c] _ _ HBn.out) Tryz.underlying32 info_ent) rfl ?_
  exact HE.out
theorem viewReveals (n : Int) (w : World) : Calls Tryz.prog 14 #[.int .i64 n] w (EntOut w (entF 4 (encN [] 0 n 2) [])) := by
  refine (?_ : ∀ Post : Ending → World → Prop, Hid (∀ e w', EntOut w (entF 4 (encN [] 0 n 2) []) e w' → Post e w') → Calls Tryz.prog 14 #[.int .i64 n] w Post) _ (Lib.hid (fun _ _ h => h))
  intro Post HPOST
  go_enter Tryz.func14, Tryz.ntmps14
  go_wp2_with fail
  obtain ⟨G, hG⟩ : ∃ g, w.heap.size = g := ⟨_, rfl⟩
  (try rw [hG])
  generalize hw1 : World.alloc w _ = w1
  have hm1 : Mod nil w w1 := by rw [← hw1]; exact (Mod.refl _ _).alloc _
  have HB1 : Hid (w1.heap[G]? = some (.cells #[.int .i64 0, .slice none 0 0] 32 (0, 0))) := Lib.hid (by rw [← hw1, ← hG]; exact heap_alloc_new _ _)
  have HG : Hid (w.heap.size ≤ G) := Lib.hid (by omega)
  have HM1 := Lib.hid hm1
  clear hw1 hm1 hG
  refine (wireNewEnc w1).mono ?_
  rintro e w2 ⟨b, rfl, he2, hm2⟩
  have HE2 := Lib.hid he2.e
  have HM2 := Lib.hid (HM1.out.thenNil hm2)
  have HB2 := Lib.hid (hm2.keep HB1.out)
  have hs2 := hm2.size
  clear he2 hm2
  go_wp2_with fail
  refine (encNumE _ b [] 0 n 2 2 w2 HE2.out (fun k hk => by omega) rfl (by omega) (by omega) (by simp)).mono ?_
  obtain ⟨⟨l4, e4⟩, h4⟩ : ∃ x, encN [] 0 n 2 = x := ⟨_, rfl⟩
  have hl4 : l4.length ≤ 2 := by have := encN_len [] 0 n 2; rw [h4] at this; simpa using this
  rw [h4] at HPOST ⊢
  rintro e w4 ⟨rfl, he4, hm4⟩
  simp only at he4
  have HE4 := Lib.hid he4
  have HGL : Hid (G < w1.heap.size) := Lib.hid (heap_lt HB1.out)
  have HB4 := Lib.hid ((hm4.block G (heap_lt HB2.out) (fun h => by have := HGL.out; omega)).trans HB2.out)
  have HM4 : Hid (Mod nil w w4) := Lib.hid (HM2.out.new hm4 (fun k hk => by have := HM1.out.size; omega))
  clear he4 hm4 h4
  go_wp2_with fail
  refine (viewEntry _ (fun _ => False) 4 e4 b 0 0 none l4 [] w4 HE4.out (row_none _ _ _) (by omega) (by omega)).mono ?_
  rintro e w5 ⟨p, n, c, rfl, hrow, hmn⟩
  obtain ⟨⟨⟨xk, xb⟩, xe⟩, hx⟩ : ∃ y, entF 4 (l4, e4) [] = y := ⟨_, rfl⟩
  rw [hx] at hrow HPOST ⊢
  simp only at hrow ⊢
  have HBn := Lib.hid (hmn.keep HB4.out)
  have hle := HM4.out.size
  have hlt := heap_lt HB4.out
  have HE := Lib.hid (HPOST.out _ _ (ent_fin (G := G) (B := w4.heap.size) HG.out hlt hle hrow (HM4.out.thenNil hmn)))
  simp only at HE
  clear hrow hmn hx hle hlt
  go_wp2_with (refine wpList_store_row rfl _ _ _ rfl G #[.int .i64 xk, .slice p n c] rfl rfl 32 _ HBn.out info_ent rfl (by simp [Value.oneCell']) ?_)
  refine bodyPost_ret (results_cell_row2 rfl _ _ G 32 #[.int .i64 xk, .slice p n c] (0, 0) rfl (setRow_heap w5 G _ #[.int .i64 xk, .slice p n c] _ _ HBn.out) Tryz.underlying32 info_ent) rfl ?_
  exact HE.out
end Go.Proofs.YtdfpmlfdmhlhcaaGreat

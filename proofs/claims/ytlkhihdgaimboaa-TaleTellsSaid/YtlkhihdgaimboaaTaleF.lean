/- cfllaw28.first. -/
import Derived.Test.YtlkhihdgaimboaaTaleE
namespace Go.Proofs.Ytlkhihdgaimboaa
open Go.RowKit

set_option maxRecDepth 100000 in
theorem taleFirst (w : World) : Calls Try.prog 6 #[] w fun e w' => e = .returned (.bool true) ∧ Mod nil w w' := by
  refine (?_ : ∀ Post : Ending → World → Prop, Hid (∀ e w', (e = .returned (.bool true) ∧ Mod nil w w') → Post e w') → Calls Try.prog 6 #[] w Post) _ (Lib.hid (fun _ _ h => h))
  intro Post HPOST
  go_enter Try.func6, Try.ntmps6
  go_wp2_with fail
  obtain ⟨g, hg⟩ : ∃ g, w.heap.size = g := ⟨_, rfl⟩
  rw [hg]
  generalize hw1 : w.alloc _ = w1
  have hm1 : Mod nil w w1 := by rw [← hw1]; exact (Mod.refl _ _).alloc _
  have hb1 : w1.heap[g]? = some (.cells (bys [1, 2, 3, 4]).toArray 5 (0, 0)) := by rw [← hw1, ← hg]; exact heap_alloc_new _ _
  have e4 : (tradesAll [1, 2, 3, 4] 3).length = 0 := by decide
  have e5 : (tradesAll [1, 2, 3, 4, 5] 3).length = 1 := by decide
  refine (taleTrades (fun k => g = k) _ 4 4 [1, 2, 3, 4] 3 w1 (IsRow.ofBlock hb1 rfl 4 4 rfl) (by omega) (by simp)).mono ?_
  rw [e4]
  rintro e w2 ⟨v', rfl, hv, hm2⟩
  obtain ⟨p, c, rfl⟩ := hv.form
  have HM2 := Lib.hid (hm1.thenNil hm2)
  clear hv hm2 hb1 hm1 hw1 hg e4
  go_wp2_with fail
  obtain ⟨g2, hg2⟩ : ∃ g2, w2.heap.size = g2 := ⟨_, rfl⟩
  rw [hg2]
  generalize hw3 : w2.alloc _ = w3
  have hm3 : Mod nil w2 w3 := by rw [← hw3]; exact (Mod.refl _ _).alloc _
  have hb3 : w3.heap[g2]? = some (.cells (bys [1, 2, 3, 4, 5]).toArray 5 (0, 0)) := by rw [← hw3, ← hg2]; exact heap_alloc_new _ _
  refine (taleTrades (fun k => g2 = k) _ 5 5 [1, 2, 3, 4, 5] 3 w3 (IsRow.ofBlock hb3 rfl 5 5 rfl) (by omega) (by simp)).mono ?_
  rw [e5]
  rintro e w4 ⟨v', rfl, hv, hm4⟩
  obtain ⟨p2, c2, rfl⟩ := hv.form
  have HM4 := Lib.hid ((HM2.out.thenNil hm3).thenNil hm4)
  clear hv hm4 hb3 hm3 hw3 hg2 e5
  go_wp2_with fail
  have e0 : (min (max 0 2) 16 : Int).toNat = 2 := by decide
  refine (taleSmall 0 w4).mono ?_
  rw [e0]
  rintro e w5 ⟨v0, v1, gs, rfl, hs0, hs1, hgs, hbs, hm5⟩
  obtain ⟨p5, c5, rfl⟩ := hs0.form
  have HM5 := Lib.hid (HM4.out.thenNil hm5)
  have hfd : (Instr.field 44 (.agg #[.slice p5 2 c5, v1, .int .i64 400, .int .i64 4096, .int .i64 2048, .int .i64 200, .slice (some ⟨gs, 0, none⟩) 8 8]) 0).run Try.prog w5 = .ok (.agg #[.slice p5 2 c5, v1]) w5 := by kernel_rfl
  have hix : (Instr.index 42 (.agg #[.slice p5 2 c5, v1]) (.int .i64 0)).run Try.prog w5 = .ok (.slice p5 2 c5) w5 := by kernel_rfl
  clear hs0 hs1 hgs hbs hm5 e0
  go_wp2_with fail
  refine (shaNewTable w5).mono ?_
  rintro e w6 ⟨tb, rfl, ht, htb, hm6⟩
  have HM6 := Lib.hid (HM5.out.thenNil hm6)
  have hsec := (taleSecret tb 3 w6 ht (by omega))
  have hlen : (textOf (shaOf (secretMsg 3))).size = 32 := by rw [← shaOf_length (secretMsg 3)]; rfl
  obtain ⟨tx, htx⟩ : ∃ tx, textOf (shaOf (secretMsg 3)) = tx := ⟨_, rfl⟩
  rw [htx] at hsec hlen
  have HSEC := Lib.hid hsec
  have HTB : Hid (w.heap.size ≤ tb) := Lib.hid (by have := HM5.out.size; omega)
  clear hsec ht htb hm6 htx
  go_wp2_with fail
  refine HSEC.out.mono ?_
  rintro e w7 ⟨rfl, ht7, hm7⟩
  have HF : Hid (Post (.returned (.bool true)) w7) := Lib.hid (HPOST.out _ _ ⟨rfl, HM6.out.trans hm7 (fun k hk h => by have := HTB.out; omega)⟩)
  clear ht7 hm7
  go_wp2_with fail
  exact HF.out
end Go.Proofs.Ytlkhihdgaimboaa

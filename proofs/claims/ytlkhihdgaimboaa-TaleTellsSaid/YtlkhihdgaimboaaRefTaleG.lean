/- cfllaw28.same at two small worlds. -/
import Derived.Test.YtlkhihdgaimboaaRefTaleF
import Derived.Test.YtlkhihdgaimboaaLawTale
import Derived.Test.YtlkhihdgaimboaaSame
import Derived.Test.YtlkhihdgaimboaaText
import Derived.Deep.QuietTactic
import Derived.BigQuiet
namespace Go.Proofs.Ytlkhihdgaimboaa
open Go.RowKit
theorem starts_at {S : Nat → Prop} {w : World} {p : Option Addr} {c N : Nat} (h : Starts S w (.slice p N c) N) (i : Nat) (hi : i < N) :
    ∃ g gr, p = some ⟨g, 0, none⟩ ∧ w.cell? ⟨g, i, none⟩ = some (.slice (some ⟨gr, 0, none⟩) 2 2) ∧ w.heap[gr]? = some (.cells (ints [1000, 1000]) 3 (0, 0)) := by
  obtain ⟨xs, h1, h2⟩ := h
  have hl : xs.length = N := by have := h1.len; omega
  obtain ⟨g, rfl, _, _, hc⟩ := vec_block h1 (by omega)
  have hx : xs.getD i undef ∈ xs := by
    rw [List.getD_eq_getElem?_getD, List.getElem?_eq_getElem (by omega)]
    exact List.getElem_mem _
  obtain ⟨gr, h3, h4, _⟩ := h2 _ hx
  refine ⟨g, gr, rfl, ?_, h4⟩
  rw [hc i (by omega), h3]
/-- both lists of rows of two small worlds: the law's inner loop -/
def Same2 (w : World) (N : Nat) (x y : Value) : Prop := ∃ p c q d, x = .slice p N c ∧ y = .slice q N d ∧ ∀ i, i < N → ∃ g gr h hr, p = some ⟨g, 0, none⟩ ∧ q = some ⟨h, 0, none⟩ ∧
  (∀ w', Mod nil w w' → w'.cell? ⟨g, i, none⟩ = some (.slice (some ⟨gr, 0, none⟩) 2 2) ∧ w'.cell? ⟨h, i, none⟩ = some (.slice (some ⟨hr, 0, none⟩) 2 2) ∧
    Calls Try.prog 23 #[.slice (some ⟨gr, 0, none⟩) 2 2, .slice (some ⟨hr, 0, none⟩) 2 2] w' fun e w'' => e = .returned (.bool true) ∧ ∃ n, w'' = w'.drewN n)
theorem same2 {S T : Nat → Prop} {w : World} {N : Nat} {x y : Value} (hx : Starts S w x N) (hy : Starts T w y N) : Same2 w N x y := by
  obtain ⟨p, c, rfl⟩ := hx.form
  obtain ⟨q, d, rfl⟩ := hy.form
  refine ⟨p, c, q, d, rfl, rfl, fun i hi => ?_⟩
  obtain ⟨g, gr, h1, h2, h3⟩ := starts_at hx i hi
  obtain ⟨h, hr, k1, k2, k3⟩ := starts_at hy i hi
  exact ⟨g, gr, h, hr, h1, k1, fun w' m => ⟨cell_kept h2 m (World.block_lt_of_cell? _ _ h2) (not_nil _), cell_kept k2 m (World.block_lt_of_cell? _ _ k2) (not_nil _),
    (refInts (fun _ => True) (fun _ => True) _ _ [1000, 1000] [1000, 1000] w' (.ofBlock (m.keep h3) trivial _ _ rfl) (.ofBlock (m.keep k3) trivial _ _ rfl) (by simp)).mono (fun e w'' ⟨h1, h2⟩ => ⟨by rw [h1]; rfl, h2⟩)⟩⟩
set_option maxRecDepth 100000 in
set_option maxHeartbeats 1000000 in
theorem lawSame (S T : Nat → Prop) (N : Nat) (x0 x1 y0 y1 sx sy : Value) (hN : N ≤ 16) (l : List UInt8) (w : World) (h0 : Same2 w N x0 y0) (h1 : Same2 w N x1 y1) (hx : IsRow S w sx (bys l)) (hy : IsRow T w sy (bys l)) :
    Calls Try.prog 11 #[.agg #[x0, x1, .int .i64 400, .int .i64 4096, .int .i64 2048, .int .i64 200, sx], .agg #[y0, y1, .int .i64 400, .int .i64 4096, .int .i64 2048, .int .i64 200, sy]] w fun e w' => e = .returned (.bool true) ∧ Mod nil w w' := by
  refine (?_ : ∀ Post : Ending → World → Prop, Hid (∀ e w', (e = .returned (.bool true) ∧ Mod nil w w') → Post e w') → Calls Try.prog 11 #[.agg #[x0, x1, .int .i64 400, .int .i64 4096, .int .i64 2048, .int .i64 200, sx], .agg #[y0, y1, .int .i64 400, .int .i64 4096, .int .i64 2048, .int .i64 200, sy]] w Post) _ (Lib.hid (fun _ _ h => h))
  intro Post HPOST
  obtain ⟨p0, c0, q0, d0, rfl, rfl, h0⟩ := h0
  obtain ⟨p1, c1, q1, d1, rfl, rfl, h1⟩ := h1
  obtain ⟨ps, cs, rfl, hx'⟩ := id hx
  obtain ⟨pt, ct, rfl, hy'⟩ := id hy
  have H0 := Lib.hid h0
  have H1 := Lib.hid h1
  have HX := Lib.hid hx
  have HY := Lib.hid hy
  clear h0 h1 hx hy hx' hy'
  obtain ⟨G, hG⟩ : ∃ G, w.heap.size = G := ⟨_, rfl⟩
  have HG := Lib.hid hG
  clear hG
  go_enter Try.func11, Try.ntmps11
  go_wp2_with fail
  rw [show w.heap.size = G from HG.out]
  generalize hw1 : World.alloc (World.alloc w _) _ = w1
  have hb2 : w1.heap[G]? = some (.cells #[.slice p0 N c0, .slice p1 N c1, .int .i64 400, .int .i64 4096, .int .i64 2048, .int .i64 200, .slice ps (bys l).length cs] 44 (0, 0)) := by rw [← hw1, ← HG.out]; exact heap_alloc_old (heap_alloc_new _ _)
  have hb3 : w1.heap[G + 1]? = some (.cells #[.slice q0 N d0, .slice q1 N d1, .int .i64 400, .int .i64 4096, .int .i64 2048, .int .i64 200, .slice pt (bys l).length ct] 44 (0, 0)) := by rw [← hw1, ← HG.out]; exact heap_alloc2_new _ _ _
  have hm1 : Mod nil w w1 := by rw [← hw1]; exact ((Mod.refl _ _).alloc _).alloc _
  have HB2 := Lib.hid hb2
  have HB3 := Lib.hid hb3
  have HM1 := Lib.hid hm1
  clear hb2 hb3 hm1 hw1
  go_loopw [5] (fun v5 wr => ∃ k : Nat, v5 = .int .i64 k ∧ k ≤ 2 ∧ Hid (Mod nil w1 wr)) (fun v _ => 2 - (intOf v).toNat)
  case atStart => exact ⟨0, rfl, by omega, Lib.hid (Mod.refl _ _)⟩
  case round =>
    obtain ⟨k, rfl, hk, HMR⟩ := hrel
    rcases (show k = 0 ∨ k = 1 ∨ k = 2 by omega) with rfl | rfl | rfl
    · rw [show ((0 : Nat) : Int) = (0 : Int) from rfl]
      have g2 := cell_of (HMR.out.keep HB2.out) 0
      have g3 := cell_of (HMR.out.keep HB3.out) 0
      simp only [List.getElem?_toArray, List.getElem?_cons_zero, List.getElem?_cons_succ] at g2 g3
      go_wp2_with fail
      go_quiet (fail)
      clear g2 g3
      go_wp2_with fail
      go_loopw [6] (fun v6 wx => ∃ i : Nat, v6 = .int .i64 i ∧ i ≤ N ∧ Hid (Mod nil w1 wx)) (fun v _ => N - (intOf v).toNat)
      case atStart => exact ⟨0, rfl, by omega, Lib.hid (HMR.out.drewN _)⟩
      case round =>
        obtain ⟨i, rfl, hi, HMX⟩ := hrel
        rename World => wx
        have g2 := cell_of (HMX.out.keep HB2.out) 0
        have g3 := cell_of (HMX.out.keep HB3.out) 0
        simp only [List.getElem?_toArray, List.getElem?_cons_zero, List.getElem?_cons_succ] at g2 g3
        by_cases hlt : i < N
        · obtain ⟨g, gr, h, hr, rfl, rfl, hf⟩ := H0.out i hlt
          have hm := HM1.out.thenNil HMX.out
          have e1 := (hf wx hm).1
          have e2 := (hf wx hm).2.1
          have HC : Hid (∀ n, Calls Try.prog 23 #[.slice (some ⟨gr, 0, none⟩) 2 2, .slice (some ⟨hr, 0, none⟩) 2 2] (wx.drewN n) fun e w'' => e = .returned (.bool true) ∧ ∃ m, w'' = (wx.drewN n).drewN m) := Lib.hid (fun n => (hf _ (hm.drewN n)).2.2)
          clear hf hm
          go_wp2_with fail
          go_quiet (first | (go_at_call 23; exact Calls.quiet_of (HC.out _)))
          go_wp2_with fail
          exact ⟨⟨i + 1, by go_num, by omega, Lib.hid (HMX.out.drewN _)⟩, by simp [intOf]; omega⟩
        · obtain rfl : i = N := by omega
          go_wp2_with fail
          exact ⟨⟨1, rfl, by omega, HMX⟩, by simp [intOf]⟩
    · rw [show ((1 : Nat) : Int) = (1 : Int) from rfl]
      have g2 := cell_of (HMR.out.keep HB2.out) 1
      have g3 := cell_of (HMR.out.keep HB3.out) 1
      simp only [List.getElem?_toArray, List.getElem?_cons_zero, List.getElem?_cons_succ] at g2 g3
      go_wp2_with fail
      go_quiet (fail)
      clear g2 g3
      go_wp2_with fail
      go_loopw [6] (fun v6 wx => ∃ i : Nat, v6 = .int .i64 i ∧ i ≤ N ∧ Hid (Mod nil w1 wx)) (fun v _ => N - (intOf v).toNat)
      case atStart => exact ⟨0, rfl, by omega, Lib.hid (HMR.out.drewN _)⟩
      case round =>
        obtain ⟨i, rfl, hi, HMX⟩ := hrel
        rename World => wx
        have g2 := cell_of (HMX.out.keep HB2.out) 1
        have g3 := cell_of (HMX.out.keep HB3.out) 1
        simp only [List.getElem?_toArray, List.getElem?_cons_zero, List.getElem?_cons_succ] at g2 g3
        by_cases hlt : i < N
        · obtain ⟨g, gr, h, hr, rfl, rfl, hf⟩ := H1.out i hlt
          have hm := HM1.out.thenNil HMX.out
          have e1 := (hf wx hm).1
          have e2 := (hf wx hm).2.1
          have HC : Hid (∀ n, Calls Try.prog 23 #[.slice (some ⟨gr, 0, none⟩) 2 2, .slice (some ⟨hr, 0, none⟩) 2 2] (wx.drewN n) fun e w'' => e = .returned (.bool true) ∧ ∃ m, w'' = (wx.drewN n).drewN m) := Lib.hid (fun n => (hf _ (hm.drewN n)).2.2)
          clear hf hm
          go_wp2_with fail
          go_quiet (first | (go_at_call 23; exact Calls.quiet_of (HC.out _)))
          go_wp2_with fail
          exact ⟨⟨i + 1, by go_num, by omega, Lib.hid (HMX.out.drewN _)⟩, by simp [intOf]; omega⟩
        · obtain rfl : i = N := by omega
          go_wp2_with fail
          exact ⟨⟨2, rfl, by omega, HMX⟩, by simp [intOf]⟩
    · rw [show ((2 : Nat) : Int) = (2 : Int) from rfl]
      have g1 := cell_of (HMR.out.keep HB2.out) 2
      have g2 := cell_of (HMR.out.keep HB2.out) 3
      have g3 := cell_of (HMR.out.keep HB2.out) 4
      have g4 := cell_of (HMR.out.keep HB2.out) 5
      have g5 := cell_of (HMR.out.keep HB2.out) 6
      have k1 := cell_of (HMR.out.keep HB3.out) 2
      have k2 := cell_of (HMR.out.keep HB3.out) 3
      have k3 := cell_of (HMR.out.keep HB3.out) 4
      have k4 := cell_of (HMR.out.keep HB3.out) 5
      have k5 := cell_of (HMR.out.keep HB3.out) 6
      simp only [List.getElem?_toArray, List.getElem?_cons_zero, List.getElem?_cons_succ] at g1 g2 g3 g4 g5 k1 k2 k3 k4 k5
      have HF := Lib.hid (HM1.out.thenNil HMR.out)
      go_wp2_with fail
      refine (refBytesSame S T _ _ l l _ (HX.out.modNil HF.out) (HY.out.modNil HF.out)).mono ?_
      rintro e w' ⟨rfl, rfl⟩
      rw [decide_eq_true rfl]
      go_wp2_with fail
      exact HPOST.out _ _ ⟨rfl, HF.out⟩
end Go.Proofs.Ytlkhihdgaimboaa

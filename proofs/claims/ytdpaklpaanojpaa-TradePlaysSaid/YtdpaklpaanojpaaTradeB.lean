/- The walks over package trade: New, Put, both. -/
import Derived.Test.YtdpaklpaanojpaaTrade
namespace Go.Proofs.Ytdpaklpaanojpaa
open Go.RowKit

/-- a desk: its object in block b, its confirmations in blocks of S -/
structure IsDesk (w : World) (b : Nat) (S : Nat → Prop) (p c a : Int) (l : List Said) : Prop where
  ex : ∃ v, w.heap[b]? = some (.cells #[.int .i64 p, .int .i64 c, .int .i64 a, v] 53 (0, 0)) ∧ IsVec S w 56 8 v l.length (saids l)
  nb : ¬ S b
  top : ∀ k, S k → k < w.heap.size
theorem IsDesk.mod {w w' : World} {b : Nat} {S T : Nat → Prop} {p c a : Int} {l : List Said} (h : IsDesk w b S p c a l) (m : Mod T w w') (hs : ∀ k, k < w.heap.size → (k = b ∨ S k) → ¬ T k) : IsDesk w' b S p c a l := by
  obtain ⟨v, h1, h2⟩ := h.ex
  exact ⟨⟨v, (m.block b (heap_lt h1) (hs b (heap_lt h1) (.inl rfl))).trans h1, h2.mod m (fun k hk hp => hs k hk (.inr hp))⟩, h.nb, fun k hk => Nat.lt_of_lt_of_le (h.top k hk) m.size⟩
theorem IsDesk.modNil {w w' : World} {b : Nat} {S : Nat → Prop} {p c a : Int} {l : List Said} (h : IsDesk w b S p c a l) (m : Mod nil w w') : IsDesk w' b S p c a l := h.mod m (fun _ _ _ f => f)
def newOk (p c a : Int) : Prop := 2 ≤ p ∧ p ≤ 16 ∧ 1 ≤ c ∧ c ≤ 4 ∧ 1 ≤ a ∧ a ≤ 4
theorem tradeNew_bad (p c a : Int) (w : World) (h : ¬ newOk p c a) :
    Calls Try.prog 8 #[.int .i64 p, .int .i64 c, .int .i64 a] w fun e w' => e = .returned (.tuple #[.pointer none, .int .i64 1]) ∧ w = w' := by
  have hc : p < 2 ∨ (2 ≤ p ∧ 16 < p) ∨ (2 ≤ p ∧ p ≤ 16 ∧ c < 1) ∨ (2 ≤ p ∧ p ≤ 16 ∧ 1 ≤ c ∧ 4 < c) ∨ (2 ≤ p ∧ p ≤ 16 ∧ 1 ≤ c ∧ c ≤ 4 ∧ a < 1) ∨ (2 ≤ p ∧ p ≤ 16 ∧ 1 ≤ c ∧ c ≤ 4 ∧ 1 ≤ a ∧ 4 < a) := by unfold newOk at h; omega
  clear h
  rcases hc with h1 | ⟨h1, h2⟩ | ⟨h1, h2, h3⟩ | ⟨h1, h2, h3, h4⟩ | ⟨h1, h2, h3, h4, h5⟩ | ⟨h1, h2, h3, h4, h5, h6⟩
  all_goals
    go_enter Try.func8, Try.ntmps8
    go_wp2
    go_ret2
    exact ⟨rfl, rfl⟩
theorem tradeNew (p c a : Int) (w : World) (h : newOk p c a) :
    Calls Try.prog 8 #[.int .i64 p, .int .i64 c, .int .i64 a] w fun e w' => ∃ b, e = .returned (.tuple #[.pointer (some ⟨b, 0, none⟩), .int .i64 0]) ∧ IsDesk w' b (fun _ => False) p c a [] ∧ w.heap.size ≤ b ∧ Mod nil w w' := by
  obtain ⟨h1, h2, h3, h4, h5, h6⟩ := h
  go_enter Try.func8, Try.ntmps8
  go_wp2_with fail
  go_ret2
  exact ⟨_, rfl, ⟨⟨_, heap_alloc_new _ _, IsVec.nil _ _ _ _⟩, id, fun _ h => h.elim⟩, Nat.le_refl _, (Mod.refl nil w).alloc _⟩
theorem tradeLen (b : Nat) (S : Nat → Prop) (p c a : Int) (l : List Said) (w : World) (h : IsDesk w b S p c a l) :
    Calls Try.prog 17 #[.pointer (some ⟨b, 0, none⟩)] w fun e w' => e = .returned (.int .i64 l.length) ∧ w = w' := by
  obtain ⟨v, h1, h2⟩ := h.ex
  obtain ⟨q, d, rfl⟩ := h2.form
  have c3 : w.cell? ⟨b, 3, none⟩ = some (.slice q l.length d) := cell_of h1 3
  clear h h1 h2
  go_enter Try.func17, Try.ntmps17
  go_wp2
  go_ret
  exact ⟨rfl, rfl⟩
/-- did another one say the same -/
def bothB (l : List Said) (x : Said) : Bool := l.any (fun y : Said => decide (y.who ≠ x.who) && decide (y.t = x.t))
theorem tradeBothB (b : Nat) (S : Nat → Prop) (p c a : Int) (l : List Said) (x : Said) (w : World) (h : IsDesk w b S p c a l) (hl : l.length ≤ 400) :
    Calls Try.prog 32 #[.pointer (some ⟨b, 0, none⟩), x.val] w fun e w' => e = .returned (.bool (bothB l x)) ∧ Mod nil w w' := by
  obtain ⟨r, hr⟩ : ∃ r, bothB l x = r := ⟨_, rfl⟩
  rw [hr]
  have HR := Lib.hid hr
  clear hr
  obtain ⟨v, h1, h2⟩ := h.ex
  obtain ⟨xw, ⟨t1, t2, t3, t4, t5, t6, t7⟩⟩ := x
  have ha : Mod nil w (w.alloc (.cells #[.int .i64 xw, .int .i64 t1, .int .i64 t2, .int .i64 t3, .int .i64 t4, .int .i64 t5, .int .i64 t6, .int .i64 t7] 56)) := (Mod.refl nil w).alloc _
  have c3 := cell_kept (cell_of h1 3) ha (heap_lt h1) (not_nil _)
  have hv := (h2.modNil ha).cells
  have hx : (w.alloc (.cells #[.int .i64 xw, .int .i64 t1, .int .i64 t2, .int .i64 t3, .int .i64 t4, .int .i64 t5, .int .i64 t6, .int .i64 t7] 56)).heap[w.heap.size]? = some (.cells (Said.vals ⟨xw, ⟨t1, t2, t3, t4, t5, t6, t7⟩⟩).toArray 56 (0, 0)) := heap_alloc_new _ _
  simp only [Said.val]
  have HA := Lib.hid ha
  have HV := Lib.hid hv
  have HX := Lib.hid hx
  clear h h1 h2 ha hv hx
  go_enter Try.func32, Try.ntmps32
  go_wp2_with fail
  refine (containsBoth S v l ⟨xw, ⟨t1, t2, t3, t4, t5, t6, t7⟩⟩ w.heap.size _ HV.out (by omega) HX.out).mono ?_
  rw [show l.any _ = r from HR.out]
  rintro e w2 ⟨rfl, hm2⟩
  go_wp2_with fail
  go_ret
  exact ⟨rfl, HA.out.thenNil hm2⟩
theorem IsVec.trim {S : Nat → Prop} {w : World} {E : TypeId} {sz n : Nat} {v : Value} {xs : List Value} (h : IsVec S w E sz v n xs) : IsVec (fun k => S k ∧ k < w.heap.size) w E sz v n xs := h.mono (fun _ hk hs => ⟨hs, hk⟩)
theorem cells_at (w : World) (E : TypeId) (xs : List Value) (n c g : Nat) (hg : w.heap.size = g) : IsCells (· = g) (w.alloc (.cells xs.toArray E)) (.slice (some ⟨g, 0, none⟩) n c) n xs := by
  subst hg
  refine ⟨_, c, rfl, fun i hi => ⟨w.heap.size, 0, rfl, rfl, by simp, ?_⟩⟩
  rw [Nat.zero_add, cell_of (heap_alloc_new w (.cells xs.toArray E))]
  simp [hi]
def putR (p c a : Int) (l : List Said) (who : Int) (t : T7) : List Said × Int :=
  if mayT t p c a ≠ 0 then (l, mayT t p c a) else if who ≠ t.buyer ∧ who ≠ t.seller then (l, 14) else if l.any (fun x : Said => decide (x.who = who) && decide (x.t.id = t.id)) then (l, 15) else if 400 ≤ l.length then (l, 12) else (l ++ [⟨who, t⟩], 0)
theorem info_said : (Try.prog.info? 56).map (fun i => (i.zero, i.size, i.bytes)) = some (some (.agg #[.int .i64 0, .int .i64 0, .int .i64 0, .int .i64 0, .int .i64 0, .int .i64 0, .int .i64 0, .int .i64 0]), 8, 64) := by kernel_rfl
set_option maxRecDepth 100000 in
set_option maxHeartbeats 2000000 in
theorem tradePut (b : Nat) (S : Nat → Prop) (p c a : Int) (l : List Said) (who : Int) (t : T7) (w : World) (h : IsDesk w b S p c a l) (hl : l.length ≤ 400) :
    Calls Try.prog 9 #[.pointer (some ⟨b, 0, none⟩), .int .i64 who, t.val] w fun e w' => e = .returned (.int .i64 (putR p c a l who t).2) ∧ (∃ S', IsDesk w' b S' p c a (putR p c a l who t).1 ∧ ∀ k, S' k → S k ∨ w.heap.size ≤ k) ∧ Mod (fun k => k = b ∨ S k) w w' := by
  obtain ⟨R, hR⟩ : ∃ R, putR p c a l who t = R := ⟨_, rfl⟩
  rw [hR]
  have HR := Lib.hid hR
  clear hR
  obtain ⟨t1, t2, t3, t4, t5, t6, t7⟩ := t
  have H := Lib.hid h
  obtain ⟨v, h1, h2⟩ := h.ex
  have hnb := h.nb
  obtain ⟨m, hm⟩ : ∃ m, l.length = m := ⟨_, rfl⟩
  obtain ⟨pv, cv, rfl⟩ := h2.form
  rw [hm] at hl h1 h2
  have HM := Lib.hid hm
  clear hm
  have ha : Mod nil w ((w.alloc (.cells #[.int .i64 who] 3)).alloc (.cells #[.int .i64 t1, .int .i64 t2, .int .i64 t3, .int .i64 t4, .int .i64 t5, .int .i64 t6, .int .i64 t7] 31)) := ((Mod.refl nil w).alloc _).alloc _
  have hw1 : ((w.alloc (.cells #[.int .i64 who] 3)).alloc (.cells #[.int .i64 t1, .int .i64 t2, .int .i64 t3, .int .i64 t4, .int .i64 t5, .int .i64 t6, .int .i64 t7] 31)).heap[w.heap.size]? = some (.cells #[.int .i64 who] 3 (0, 0)) := heap_alloc_old (heap_alloc_new _ _)
  have hw2 : ((w.alloc (.cells #[.int .i64 who] 3)).alloc (.cells #[.int .i64 t1, .int .i64 t2, .int .i64 t3, .int .i64 t4, .int .i64 t5, .int .i64 t6, .int .i64 t7] 31)).heap[w.heap.size + 1]? = some (.cells #[.int .i64 t1, .int .i64 t2, .int .i64 t3, .int .i64 t4, .int .i64 t5, .int .i64 t6, .int .i64 t7] 31 (0, 0)) := by
    have h := heap_alloc_new (w.alloc (.cells #[.int .i64 who] 3)) (.cells #[.int .i64 t1, .int .i64 t2, .int .i64 t3, .int .i64 t4, .int .i64 t5, .int .i64 t6, .int .i64 t7] 31)
    rwa [show (w.alloc (.cells #[.int .i64 who] 3)).heap.size = w.heap.size + 1 from by simp] at h
  have ho1 := ha.keep h1
  simp only [T7.val]
  go_enter Try.func9, Try.ntmps9
  have HA := Lib.hid ha
  have HW1 := Lib.hid hw1
  have HW2 := Lib.hid hw2
  have HO1 := Lib.hid ho1
  clear ha hw1 hw2 ho1 h h1
  go_upto_region 1 with (fail)
  generalize (w.alloc (.cells #[.int .i64 who] 3)).alloc (.cells #[.int .i64 t1, .int .i64 t2, .int .i64 t3, .int .i64 t4, .int .i64 t5, .int .i64 t6, .int .i64 t7] 31) = w1 at HA HW1 HW2 HO1 ⊢
  generalize hbw : w.heap.size = bw at HW1 HW2 ⊢
  have HBW := Lib.hid hbw
  clear hbw
  have hbb : b < bw := by have := heap_lt (H.out.ex.choose_spec.1); have := HBW.out; omega
  have d0 : w1.cell? ⟨b, 0, none⟩ = some (.int .i64 p) := cell_of HO1.out 0
  have d1 : w1.cell? ⟨b, 1, none⟩ = some (.int .i64 c) := cell_of HO1.out 1
  have d2 : w1.cell? ⟨b, 2, none⟩ = some (.int .i64 a) := cell_of HO1.out 2
  have d3 : w1.cell? ⟨b, 3, none⟩ = some (.slice pv m cv) := cell_of HO1.out 3
  have q0 : w1.cell? ⟨bw, 0, none⟩ = some (.int .i64 who) := cell_of HW1.out 0
  have q1 : w1.cell? ⟨bw + 1, 0, none⟩ = some (.int .i64 t1) := cell_of HW2.out 0
  have q2 : w1.cell? ⟨bw + 1, 1, none⟩ = some (.int .i64 t2) := cell_of HW2.out 1
  have q3 : w1.cell? ⟨bw + 1, 2, none⟩ = some (.int .i64 t3) := cell_of HW2.out 2
  have q4 : w1.cell? ⟨bw + 1, 3, none⟩ = some (.int .i64 t4) := cell_of HW2.out 3
  have q5 : w1.cell? ⟨bw + 1, 4, none⟩ = some (.int .i64 t5) := cell_of HW2.out 4
  have q6 : w1.cell? ⟨bw + 1, 5, none⟩ = some (.int .i64 t6) := cell_of HW2.out 5
  have q7 : w1.cell? ⟨bw + 1, 6, none⟩ = some (.int .i64 t7) := cell_of HW2.out 6
  go_region_held3 (fun w' => w'.cell? ⟨b, 0, none⟩ = some (.int .i64 p) ∧ w'.cell? ⟨b, 1, none⟩ = some (.int .i64 c) ∧ w'.cell? ⟨b, 2, none⟩ = some (.int .i64 a) ∧ w'.cell? ⟨bw + 1, 0, none⟩ = some (.int .i64 t1) ∧ w'.cell? ⟨bw + 1, 1, none⟩ = some (.int .i64 t2) ∧ w'.cell? ⟨bw + 1, 2, none⟩ = some (.int .i64 t3) ∧ w'.cell? ⟨bw + 1, 3, none⟩ = some (.int .i64 t4) ∧ w'.cell? ⟨bw + 1, 4, none⟩ = some (.int .i64 t5) ∧ w'.cell? ⟨bw + 1, 5, none⟩ = some (.int .i64 t6) ∧ w'.cell? ⟨bw + 1, 6, none⟩ = some (.int .i64 t7)) (first | exact ⟨d0, d1, d2, q1, q2, q3, q4, q5, q6, q7⟩) (first
    | (go_at_call 14; refine (lawMay ⟨t1, t2, t3, t4, t5, t6, t7⟩ p c a _).mono ?_; rintro e w2 ⟨rfl, hm2⟩; replace d0 := cell_kept (w := w1.drew) d0 hm2 (World.block_lt_of_cell? _ _ d0) (not_nil _); replace d1 := cell_kept (w := w1.drew) d1 hm2 (World.block_lt_of_cell? _ _ d1) (not_nil _); replace d2 := cell_kept (w := w1.drew) d2 hm2 (World.block_lt_of_cell? _ _ d2) (not_nil _); replace d3 := cell_kept (w := w1.drew) d3 hm2 (World.block_lt_of_cell? _ _ d3) (not_nil _); replace q0 := cell_kept (w := w1.drew) q0 hm2 (World.block_lt_of_cell? _ _ q0) (not_nil _); replace q1 := cell_kept (w := w1.drew) q1 hm2 (World.block_lt_of_cell? _ _ q1) (not_nil _); replace q2 := cell_kept (w := w1.drew) q2 hm2 (World.block_lt_of_cell? _ _ q2) (not_nil _); replace q3 := cell_kept (w := w1.drew) q3 hm2 (World.block_lt_of_cell? _ _ q3) (not_nil _); replace q4 := cell_kept (w := w1.drew) q4 hm2 (World.block_lt_of_cell? _ _ q4) (not_nil _); replace q5 := cell_kept (w := w1.drew) q5 hm2 (World.block_lt_of_cell? _ _ q5) (not_nil _); replace q6 := cell_kept (w := w1.drew) q6 hm2 (World.block_lt_of_cell? _ _ q6) (not_nil _); replace q7 := cell_kept (w := w1.drew) q7 hm2 (World.block_lt_of_cell? _ _ q7) (not_nil _)))
  generalize hr0 : mayT ⟨t1, t2, t3, t4, t5, t6, t7⟩ p c a = r0
  have HR0 := Lib.hid hr0
  have hM2 : Mod nil w w2 := HA.out.thenNil ((Mod.refl nil w1).drew.trans hm2 (fun _ _ f => f))
  have HM2 := Lib.hid hM2
  have HW12 := Lib.hid ((Mod.refl nil w1).drew.trans hm2 (fun _ _ f => f))
  clear hr0 hM2 hm2
  have same : ∀ w', Mod nil w w' → ∃ S', IsDesk w' b S' p c a l ∧ ∀ k, S' k → S k ∨ w.heap.size ≤ k := fun w' hw => ⟨S, H.out.modNil hw, fun k hk => .inl hk⟩
  have HSAME := Lib.hid same
  clear same
  by_cases hz : r0 = 0
  · subst hz
    rcases (show (who ≠ t2 ∧ who ≠ t3) ∨ who = t2 ∨ (who ≠ t2 ∧ who = t3) by omega) with ⟨hw1, hw2⟩ | hw | ⟨hw1, hw2⟩
    · have hb1 : (who != t2) = true := by simpa using hw1
      have hb2 : (who != t3) = true := by simpa using hw2
      go_wp2_with fail
      go_ret
      have hR := HR.out
      rw [putR, if_neg (by rw [HR0.out]; simp), if_pos ⟨hw1, hw2⟩] at hR
      rw [← hR]
      exact ⟨rfl, HSAME.out _ HM2.out, HM2.out.ofNil⟩
    · have hb1 : (who != t2) = false := by simpa using hw
      have HWB : Hid (¬ (who ≠ t2 ∧ who ≠ t3)) := Lib.hid (fun h => h.1 hw)
      clear hw
      have hv2 := (h2.modNil HM2.out).cells
      rw [← HM.out] at hv2
      go_wp2_with fail
      have hcp := containsPut S (.slice pv l.length cv) l who t1 bw (bw + 1) w2 (by rw [HM.out] at hv2 ⊢; exact hv2) (by rw [HM.out]; omega) q0 q1
      rw [HM.out] at hcp
      refine hcp.mono ?_
      generalize hany : l.any (fun x : Said => decide (x.who = who) && decide (x.t.id = t1)) = r
      have HANY := Lib.hid hany
      clear hany hcp hv2
      rintro e w3 ⟨rfl, hm3⟩
      have HM3 := Lib.hid (HM2.out.thenNil hm3)
      have HW13 := Lib.hid (HW12.out.thenNil hm3)
      cases r
      · replace d3 := cell_kept d3 hm3 (World.block_lt_of_cell? _ _ d3) (not_nil _)
        replace q0 := cell_kept q0 hm3 (World.block_lt_of_cell? _ _ q0) (not_nil _)
        replace q1 := cell_kept q1 hm3 (World.block_lt_of_cell? _ _ q1) (not_nil _)
        replace q2 := cell_kept q2 hm3 (World.block_lt_of_cell? _ _ q2) (not_nil _)
        replace q3 := cell_kept q3 hm3 (World.block_lt_of_cell? _ _ q3) (not_nil _)
        replace q4 := cell_kept q4 hm3 (World.block_lt_of_cell? _ _ q4) (not_nil _)
        replace q5 := cell_kept q5 hm3 (World.block_lt_of_cell? _ _ q5) (not_nil _)
        replace q6 := cell_kept q6 hm3 (World.block_lt_of_cell? _ _ q6) (not_nil _)
        replace q7 := cell_kept q7 hm3 (World.block_lt_of_cell? _ _ q7) (not_nil _)
        clear d0 d1 d2 hm3
        rcases (show m = 400 ∨ m < 400 by omega) with h4 | h4
        · subst h4
          go_wp2_with fail
          go_ret
          have hR := HR.out
          rw [putR, if_neg (by rw [HR0.out]; simp), if_neg HWB.out, HANY.out, if_neg (by simp), if_pos (by rw [HM.out]; omega)] at hR
          rw [← hR]
          exact ⟨rfl, HSAME.out _ HM3.out, HM3.out.ofNil⟩
        · have HV3 := Lib.hid (h2.modNil HM3.out)
          have HO3 := Lib.hid (HW13.out.keep HO1.out)
          have hbw3 : b < w3.heap.size := heap_lt HO3.out
          have HNS : Hid (∀ j, bw ≤ j → ¬ S j) := Lib.hid (fun j hj h => by have := H.out.top j h; have := HBW.out; omega)
          obtain ⟨i0, hi, hz0, hz1, hz2⟩ := info_parts info_said
          go_wp2_with fail
          refine region_till (fun w' => w'.cell? ⟨b, 3, none⟩ = some (.slice pv m cv) ∧ w'.cell? ⟨bw, 0, none⟩ = some (.int .i64 who) ∧ w'.cell? ⟨bw + 1, 0, none⟩ = some (.int .i64 t1) ∧ w'.cell? ⟨bw + 1, 1, none⟩ = some (.int .i64 t2) ∧ w'.cell? ⟨bw + 1, 2, none⟩ = some (.int .i64 t3) ∧ w'.cell? ⟨bw + 1, 3, none⟩ = some (.int .i64 t4) ∧ w'.cell? ⟨bw + 1, 4, none⟩ = some (.int .i64 t5) ∧ w'.cell? ⟨bw + 1, 5, none⟩ = some (.int .i64 t6) ∧ w'.cell? ⟨bw + 1, 6, none⟩ = some (.int .i64 t7)) 12 (by kernel_rfl) ?_
          refine till_take (i := 0) (v := ?_) rfl (by kernel_rfl) (by kernel_rfl) (by kernel_rfl) (by kernel_rfl) (by kernel_rfl) (by kernel_rfl) (fun _ _ _ h => h) (Or.inl ⟨by rfl, ?_⟩) (⟨d3, q0, q1, q2, q3, q4, q5, q6, q7⟩) ?_
          rotate_left
          · intro w hSw; (try dsimp only at hSw); (first | (go_simp; done) | (go_simp; with_reducible rfl))
          (try simp only [Act.put]); (try simp only [List.setIfInBounds_toArray])
          refine till_take (i := 1) (v := ?_) rfl (by kernel_rfl) (by kernel_rfl) (by kernel_rfl) (by kernel_rfl) (by kernel_rfl) (by kernel_rfl) (fun _ _ _ h => h) (Or.inl ⟨by rfl, ?_⟩) (⟨d3, q0, q1, q2, q3, q4, q5, q6, q7⟩) ?_
          rotate_left
          · intro w hSw; (try dsimp only at hSw); (first | (go_simp; done) | (go_simp; with_reducible rfl))
          (try simp only [Act.put]); (try simp only [List.setIfInBounds_toArray])
          refine till_take (i := 2) (v := ?_) rfl (by kernel_rfl) (by kernel_rfl) (by kernel_rfl) (by kernel_rfl) (by kernel_rfl) (by kernel_rfl) (fun _ _ _ h => h) (Or.inl ⟨by rfl, ?_⟩) (⟨d3, q0, q1, q2, q3, q4, q5, q6, q7⟩) ?_
          rotate_left
          · intro w hSw; (try dsimp only at hSw); (first | (go_simp; done) | (go_simp; with_reducible rfl))
          (try simp only [Act.put]); (try simp only [List.setIfInBounds_toArray])
          refine till_take (i := 3) (v := ?_) rfl (by kernel_rfl) (by kernel_rfl) (by kernel_rfl) (by kernel_rfl) (by kernel_rfl) (by kernel_rfl) (fun _ _ _ h => h) (Or.inl ⟨by rfl, ?_⟩) (⟨d3, q0, q1, q2, q3, q4, q5, q6, q7⟩) ?_
          rotate_left
          · intro w hSw; (try dsimp only at hSw); (first | (go_simp; done) | (go_simp; with_reducible rfl))
          (try simp only [Act.put]); (try simp only [List.setIfInBounds_toArray])
          refine till_take (i := 4) (v := ?_) rfl (by kernel_rfl) (by kernel_rfl) (by kernel_rfl) (by kernel_rfl) (by kernel_rfl) (by kernel_rfl) (fun _ _ _ h => h) (Or.inl ⟨by rfl, ?_⟩) (⟨d3, q0, q1, q2, q3, q4, q5, q6, q7⟩) ?_
          rotate_left
          · intro w hSw; (try dsimp only at hSw); (first | (go_simp; done) | (go_simp; with_reducible rfl))
          (try simp only [Act.put]); (try simp only [List.setIfInBounds_toArray])
          refine till_take (i := 5) (v := ?_) rfl (by kernel_rfl) (by kernel_rfl) (by kernel_rfl) (by kernel_rfl) (by kernel_rfl) (by kernel_rfl) (fun _ _ _ h => h) (Or.inl ⟨by rfl, ?_⟩) (⟨d3, q0, q1, q2, q3, q4, q5, q6, q7⟩) ?_
          rotate_left
          · intro w hSw; (try dsimp only at hSw); (first | (go_simp; done) | (go_simp; with_reducible rfl))
          (try simp only [Act.put]); (try simp only [List.setIfInBounds_toArray])
          refine till_take (i := 6) (v := ?_) rfl (by kernel_rfl) (by kernel_rfl) (by kernel_rfl) (by kernel_rfl) (by kernel_rfl) (by kernel_rfl) (fun _ _ _ h => h) (Or.inl ⟨by rfl, ?_⟩) (⟨d3, q0, q1, q2, q3, q4, q5, q6, q7⟩) ?_
          rotate_left
          · intro w hSw; (try dsimp only at hSw); (first | (go_simp; done) | (go_simp; with_reducible rfl))
          (try simp only [Act.put]); (try simp only [List.setIfInBounds_toArray])
          refine till_take (i := 7) (v := ?_) rfl (by kernel_rfl) (by kernel_rfl) (by kernel_rfl) (by kernel_rfl) (by kernel_rfl) (by kernel_rfl) (fun _ _ _ h => h) (Or.inl ⟨by rfl, ?_⟩) (⟨d3, q0, q1, q2, q3, q4, q5, q6, q7⟩) ?_
          rotate_left
          · intro w hSw; (try dsimp only at hSw); (first | (go_simp; done) | (go_simp; with_reducible rfl))
          (try simp only [Act.put]); (try simp only [List.setIfInBounds_toArray])
          have HMC := Lib.hid (((Mod.refl nil w3).alloc (.cells #[.int .i64 who, .int .i64 t1, .int .i64 t2, .int .i64 t3, .int .i64 t4, .int .i64 t5, .int .i64 t6, .int .i64 t7] 56)).drew)
          have HVC := Lib.hid (HV3.out.modNil HMC.out)
          have HEC := Lib.hid (((cells_at w3 56 [.int .i64 who, .int .i64 t1, .int .i64 t2, .int .i64 t3, .int .i64 t4, .int .i64 t5, .int .i64 t6, .int .i64 t7] 1 1 _ rfl).modNil (Mod.refl nil _).drew))
          refine till_ready (rs := [8]) (by kernel_rfl) (by simp) ?_
          refine till_cons (i := 8) rfl (fun K hK => ?_) till_nil
          (try dsimp (config := { proj := false }) only [List.getElem_toArray, List.getElem_cons_succ, List.getElem_cons_zero])
          go_simp
          refine hK.out _ _ (fun _ => ⟨cell_kept d3 HMC.out hbw3 (not_nil _), cell_kept q0 HMC.out (World.block_lt_of_cell? _ _ q0) (not_nil _), cell_kept q1 HMC.out (World.block_lt_of_cell? _ _ q1) (not_nil _), cell_kept q2 HMC.out (World.block_lt_of_cell? _ _ q2) (not_nil _), cell_kept q3 HMC.out (World.block_lt_of_cell? _ _ q3) (not_nil _), cell_kept q4 HMC.out (World.block_lt_of_cell? _ _ q4) (not_nil _), cell_kept q5 HMC.out (World.block_lt_of_cell? _ _ q5) (not_nil _), cell_kept q6 HMC.out (World.block_lt_of_cell? _ _ q6) (not_nil _), cell_kept q7 HMC.out (World.block_lt_of_cell? _ _ q7) (not_nil _)⟩) ?_
          clear hK K
          (try simp only [Act.put, List.setIfInBounds_toArray, List.set_cons_zero, List.set_cons_succ])
          refine till_ready (rs := [9]) (by kernel_rfl) (by simp) ?_
          refine till_cons (i := 9) rfl (fun K hK => ?_) till_nil
          (try dsimp (config := { proj := false }) only [List.getElem_toArray, List.getElem_cons_succ, List.getElem_cons_zero])
          refine step_append_vec (S := S) rfl _ _ _ rfl 56 i0 (.agg #[.int .i64 0, .int .i64 0, .int .i64 0, .int .i64 0, .int .i64 0, .int .i64 0, .int .i64 0, .int .i64 0]) 8 64 Try.underlying51 hi hz0 hz1 hz2 rfl (by omega) _ m (saids l) rfl HVC.out _ 1 [.int .i64 who, .int .i64 t1, .int .i64 t2, .int .i64 t3, .int .i64 t4, .int .i64 t5, .int .i64 t6, .int .i64 t7] rfl HEC.out rfl (by intro u hu; exact said_one ⟨who, ⟨t1, t2, t3, t4, t5, t6, t7⟩⟩ u hu) (by unfold maxLen; omega) (by omega) ?_
          intro v6 w6 hv6 hm6
          obtain ⟨p6, c6, rfl⟩ := hv6.form
          have hmS := HMC.out.ofNil.trans hm6 (fun j _ h => h)
          have HV6 := Lib.hid hv6
          have HMS := Lib.hid hmS
          have e3 := cell_kept d3 hmS hbw3 (fun h => hnb h)
          have ef : w6.frozen? ⟨b, 3, none⟩ = false := free_of ((hmS.block b hbw3 (fun h => hnb h)).trans HO3.out) 3
          replace q0 := cell_kept q0 hmS (World.block_lt_of_cell? _ _ q0) (HNS.out bw (by omega))
          replace q1 := cell_kept q1 hmS (World.block_lt_of_cell? _ _ q1) (HNS.out (bw + 1) (by omega))
          replace q2 := cell_kept q2 hmS (World.block_lt_of_cell? _ _ q2) (HNS.out (bw + 1) (by omega))
          replace q3 := cell_kept q3 hmS (World.block_lt_of_cell? _ _ q3) (HNS.out (bw + 1) (by omega))
          replace q4 := cell_kept q4 hmS (World.block_lt_of_cell? _ _ q4) (HNS.out (bw + 1) (by omega))
          replace q5 := cell_kept q5 hmS (World.block_lt_of_cell? _ _ q5) (HNS.out (bw + 1) (by omega))
          replace q6 := cell_kept q6 hmS (World.block_lt_of_cell? _ _ q6) (HNS.out (bw + 1) (by omega))
          replace q7 := cell_kept q7 hmS (World.block_lt_of_cell? _ _ q7) (HNS.out (bw + 1) (by omega))
          clear hv6 hm6 hmS
          refine hK.out _ _ (fun _ => ⟨e3, q0, q1, q2, q3, q4, q5, q6, q7⟩) ?_
          clear hK K
          (try simp only [Act.put, List.setIfInBounds_toArray, List.set_cons_zero, List.set_cons_succ])
          refine till_ready (rs := [10]) (by kernel_rfl) (by simp) ?_
          refine till_cons (i := 10) rfl (fun K hK => ?_) till_nil
          (try dsimp (config := { proj := false }) only [List.getElem_toArray, List.getElem_cons_succ, List.getElem_cons_zero])
          go_simp
          refine hK.out _ _ (fun _ => ⟨e3, q0, q1, q2, q3, q4, q5, q6, q7⟩) ?_
          clear hK K
          (try simp only [Act.put, List.setIfInBounds_toArray, List.set_cons_zero, List.set_cons_succ])
          refine till_ready (rs := [11]) (by kernel_rfl) (by simp) ?_
          refine till_cons (i := 11) rfl (fun K hK => ?_) till_nil
          (try dsimp (config := { proj := false }) only [List.getElem_toArray, List.getElem_cons_succ, List.getElem_cons_zero])
          go_simp
          refine hK.out _ _ (fun _ => ⟨e3, q0, q1, q2, q3, q4, q5, q6, q7⟩) ?_
          clear hK K
          (try simp only [Act.put, List.setIfInBounds_toArray, List.set_cons_zero, List.set_cons_succ])
          refine till_ready (rs := [12]) (by kernel_rfl) (by simp) ?_
          refine till_cons (i := 12) rfl (fun K hK => ?_) till_nil
          (try dsimp (config := { proj := false }) only [List.getElem_toArray, List.getElem_cons_succ, List.getElem_cons_zero])
          go_simp
          refine hK.out _ _ (fun h => (by simp at h)) ?_
          clear hK K
          (try simp only [Act.put, List.setIfInBounds_toArray, List.set_cons_zero, List.set_cons_succ])
          refine till_done (by kernel_rfl) ?_ _
          go_wp2_with fail
          go_ret
          have hR := HR.out
          rw [putR, if_neg (by rw [HR0.out]; simp), if_neg HWB.out, HANY.out, if_neg (by simp), if_neg (by rw [HM.out]; omega)] at hR
          rw [← hR]
          have hms := HMS.out
          have ho6 := (hms.block b hbw3 (fun h => hnb h)).trans HO3.out
          have m7 : Mod (· = b) w6 (w6.setCell ⟨b, 3, none⟩ (.slice p6 (m + 1) c6)) := (Mod.refl _ _).setCell _ _ (fun _ => rfl)
          have h3s := HM3.out.size
          have hal := HMC.out.size
          have hv7 := (HV6.out.mod m7 (fun j _ hj e => by
            rcases hj with hj | hj
            · exact hnb (e ▸ hj)
            · omega)).trim
          obtain ⟨S', hv8, hS8⟩ : ∃ S' : Nat → Prop, IsVec S' (w6.setCell ⟨b, 3, none⟩ (.slice p6 (m + 1) c6)) _ 8 (.slice p6 (m + 1) c6) (m + 1) (saids l ++ _) ∧ ∀ k, S' k → (S k ∨ _ ≤ k) ∧ k < (w6.setCell ⟨b, 3, none⟩ (.slice p6 (m + 1) c6)).heap.size := ⟨_, hv7, fun k h => h⟩
          refine ⟨rfl, ⟨S', ⟨⟨.slice p6 (m + 1) c6, heap_setCell_same ho6 _, ?_⟩, fun h => ?_, fun k h => (hS8 k h).2⟩, fun k h => ?_⟩, ?_⟩
          · rw [saids_append, List.length_append, HM.out]
            exact hv8
          · rcases (hS8 _ h).1 with h | h
            · exact hnb h
            · omega
          · rcases (hS8 _ h).1 with h | h
            · exact .inl h
            · exact .inr (by omega)
          · exact ((HM3.out.ofNil.trans hms (fun j _ h => .inr h)).trans m7 (fun j _ h => .inl h))
      · go_wp2_with fail
        go_ret
        have hR := HR.out
        rw [putR, if_neg (by rw [HR0.out]; simp), if_neg HWB.out, if_pos (by exact HANY.out)] at hR
        rw [← hR]
        exact ⟨rfl, HSAME.out _ HM3.out, HM3.out.ofNil⟩
    · have hb1 : (who != t2) = true := by simpa using hw1
      have hb2 : (who != t3) = false := by simpa using hw2
      have HWB : Hid (¬ (who ≠ t2 ∧ who ≠ t3)) := Lib.hid (fun h => h.2 hw2)
      clear hw1 hw2
      have hv2 := (h2.modNil HM2.out).cells
      rw [← HM.out] at hv2
      go_wp2_with fail
      have hcp := containsPut S (.slice pv l.length cv) l who t1 bw (bw + 1) w2 (by rw [HM.out] at hv2 ⊢; exact hv2) (by rw [HM.out]; omega) q0 q1
      rw [HM.out] at hcp
      refine hcp.mono ?_
      generalize hany : l.any (fun x : Said => decide (x.who = who) && decide (x.t.id = t1)) = r
      have HANY := Lib.hid hany
      clear hany hcp hv2
      rintro e w3 ⟨rfl, hm3⟩
      have HM3 := Lib.hid (HM2.out.thenNil hm3)
      have HW13 := Lib.hid (HW12.out.thenNil hm3)
      cases r
      · replace d3 := cell_kept d3 hm3 (World.block_lt_of_cell? _ _ d3) (not_nil _)
        replace q0 := cell_kept q0 hm3 (World.block_lt_of_cell? _ _ q0) (not_nil _)
        replace q1 := cell_kept q1 hm3 (World.block_lt_of_cell? _ _ q1) (not_nil _)
        replace q2 := cell_kept q2 hm3 (World.block_lt_of_cell? _ _ q2) (not_nil _)
        replace q3 := cell_kept q3 hm3 (World.block_lt_of_cell? _ _ q3) (not_nil _)
        replace q4 := cell_kept q4 hm3 (World.block_lt_of_cell? _ _ q4) (not_nil _)
        replace q5 := cell_kept q5 hm3 (World.block_lt_of_cell? _ _ q5) (not_nil _)
        replace q6 := cell_kept q6 hm3 (World.block_lt_of_cell? _ _ q6) (not_nil _)
        replace q7 := cell_kept q7 hm3 (World.block_lt_of_cell? _ _ q7) (not_nil _)
        clear d0 d1 d2 hm3
        rcases (show m = 400 ∨ m < 400 by omega) with h4 | h4
        · subst h4
          go_wp2_with fail
          go_ret
          have hR := HR.out
          rw [putR, if_neg (by rw [HR0.out]; simp), if_neg HWB.out, HANY.out, if_neg (by simp), if_pos (by rw [HM.out]; omega)] at hR
          rw [← hR]
          exact ⟨rfl, HSAME.out _ HM3.out, HM3.out.ofNil⟩
        · have HV3 := Lib.hid (h2.modNil HM3.out)
          have HO3 := Lib.hid (HW13.out.keep HO1.out)
          have hbw3 : b < w3.heap.size := heap_lt HO3.out
          have HNS : Hid (∀ j, bw ≤ j → ¬ S j) := Lib.hid (fun j hj h => by have := H.out.top j h; have := HBW.out; omega)
          obtain ⟨i0, hi, hz0, hz1, hz2⟩ := info_parts info_said
          go_wp2_with fail
          refine region_till (fun w' => w'.cell? ⟨b, 3, none⟩ = some (.slice pv m cv) ∧ w'.cell? ⟨bw, 0, none⟩ = some (.int .i64 who) ∧ w'.cell? ⟨bw + 1, 0, none⟩ = some (.int .i64 t1) ∧ w'.cell? ⟨bw + 1, 1, none⟩ = some (.int .i64 t2) ∧ w'.cell? ⟨bw + 1, 2, none⟩ = some (.int .i64 t3) ∧ w'.cell? ⟨bw + 1, 3, none⟩ = some (.int .i64 t4) ∧ w'.cell? ⟨bw + 1, 4, none⟩ = some (.int .i64 t5) ∧ w'.cell? ⟨bw + 1, 5, none⟩ = some (.int .i64 t6) ∧ w'.cell? ⟨bw + 1, 6, none⟩ = some (.int .i64 t7)) 12 (by kernel_rfl) ?_
          refine till_take (i := 0) (v := ?_) rfl (by kernel_rfl) (by kernel_rfl) (by kernel_rfl) (by kernel_rfl) (by kernel_rfl) (by kernel_rfl) (fun _ _ _ h => h) (Or.inl ⟨by rfl, ?_⟩) (⟨d3, q0, q1, q2, q3, q4, q5, q6, q7⟩) ?_
          rotate_left
          · intro w hSw; (try dsimp only at hSw); (first | (go_simp; done) | (go_simp; with_reducible rfl))
          (try simp only [Act.put]); (try simp only [List.setIfInBounds_toArray])
          refine till_take (i := 1) (v := ?_) rfl (by kernel_rfl) (by kernel_rfl) (by kernel_rfl) (by kernel_rfl) (by kernel_rfl) (by kernel_rfl) (fun _ _ _ h => h) (Or.inl ⟨by rfl, ?_⟩) (⟨d3, q0, q1, q2, q3, q4, q5, q6, q7⟩) ?_
          rotate_left
          · intro w hSw; (try dsimp only at hSw); (first | (go_simp; done) | (go_simp; with_reducible rfl))
          (try simp only [Act.put]); (try simp only [List.setIfInBounds_toArray])
          refine till_take (i := 2) (v := ?_) rfl (by kernel_rfl) (by kernel_rfl) (by kernel_rfl) (by kernel_rfl) (by kernel_rfl) (by kernel_rfl) (fun _ _ _ h => h) (Or.inl ⟨by rfl, ?_⟩) (⟨d3, q0, q1, q2, q3, q4, q5, q6, q7⟩) ?_
          rotate_left
          · intro w hSw; (try dsimp only at hSw); (first | (go_simp; done) | (go_simp; with_reducible rfl))
          (try simp only [Act.put]); (try simp only [List.setIfInBounds_toArray])
          refine till_take (i := 3) (v := ?_) rfl (by kernel_rfl) (by kernel_rfl) (by kernel_rfl) (by kernel_rfl) (by kernel_rfl) (by kernel_rfl) (fun _ _ _ h => h) (Or.inl ⟨by rfl, ?_⟩) (⟨d3, q0, q1, q2, q3, q4, q5, q6, q7⟩) ?_
          rotate_left
          · intro w hSw; (try dsimp only at hSw); (first | (go_simp; done) | (go_simp; with_reducible rfl))
          (try simp only [Act.put]); (try simp only [List.setIfInBounds_toArray])
          refine till_take (i := 4) (v := ?_) rfl (by kernel_rfl) (by kernel_rfl) (by kernel_rfl) (by kernel_rfl) (by kernel_rfl) (by kernel_rfl) (fun _ _ _ h => h) (Or.inl ⟨by rfl, ?_⟩) (⟨d3, q0, q1, q2, q3, q4, q5, q6, q7⟩) ?_
          rotate_left
          · intro w hSw; (try dsimp only at hSw); (first | (go_simp; done) | (go_simp; with_reducible rfl))
          (try simp only [Act.put]); (try simp only [List.setIfInBounds_toArray])
          refine till_take (i := 5) (v := ?_) rfl (by kernel_rfl) (by kernel_rfl) (by kernel_rfl) (by kernel_rfl) (by kernel_rfl) (by kernel_rfl) (fun _ _ _ h => h) (Or.inl ⟨by rfl, ?_⟩) (⟨d3, q0, q1, q2, q3, q4, q5, q6, q7⟩) ?_
          rotate_left
          · intro w hSw; (try dsimp only at hSw); (first | (go_simp; done) | (go_simp; with_reducible rfl))
          (try simp only [Act.put]); (try simp only [List.setIfInBounds_toArray])
          refine till_take (i := 6) (v := ?_) rfl (by kernel_rfl) (by kernel_rfl) (by kernel_rfl) (by kernel_rfl) (by kernel_rfl) (by kernel_rfl) (fun _ _ _ h => h) (Or.inl ⟨by rfl, ?_⟩) (⟨d3, q0, q1, q2, q3, q4, q5, q6, q7⟩) ?_
          rotate_left
          · intro w hSw; (try dsimp only at hSw); (first | (go_simp; done) | (go_simp; with_reducible rfl))
          (try simp only [Act.put]); (try simp only [List.setIfInBounds_toArray])
          refine till_take (i := 7) (v := ?_) rfl (by kernel_rfl) (by kernel_rfl) (by kernel_rfl) (by kernel_rfl) (by kernel_rfl) (by kernel_rfl) (fun _ _ _ h => h) (Or.inl ⟨by rfl, ?_⟩) (⟨d3, q0, q1, q2, q3, q4, q5, q6, q7⟩) ?_
          rotate_left
          · intro w hSw; (try dsimp only at hSw); (first | (go_simp; done) | (go_simp; with_reducible rfl))
          (try simp only [Act.put]); (try simp only [List.setIfInBounds_toArray])
          have HMC := Lib.hid (((Mod.refl nil w3).alloc (.cells #[.int .i64 who, .int .i64 t1, .int .i64 t2, .int .i64 t3, .int .i64 t4, .int .i64 t5, .int .i64 t6, .int .i64 t7] 56)).drew)
          have HVC := Lib.hid (HV3.out.modNil HMC.out)
          have HEC := Lib.hid (((cells_at w3 56 [.int .i64 who, .int .i64 t1, .int .i64 t2, .int .i64 t3, .int .i64 t4, .int .i64 t5, .int .i64 t6, .int .i64 t7] 1 1 _ rfl).modNil (Mod.refl nil _).drew))
          refine till_ready (rs := [8]) (by kernel_rfl) (by simp) ?_
          refine till_cons (i := 8) rfl (fun K hK => ?_) till_nil
          (try dsimp (config := { proj := false }) only [List.getElem_toArray, List.getElem_cons_succ, List.getElem_cons_zero])
          go_simp
          refine hK.out _ _ (fun _ => ⟨cell_kept d3 HMC.out hbw3 (not_nil _), cell_kept q0 HMC.out (World.block_lt_of_cell? _ _ q0) (not_nil _), cell_kept q1 HMC.out (World.block_lt_of_cell? _ _ q1) (not_nil _), cell_kept q2 HMC.out (World.block_lt_of_cell? _ _ q2) (not_nil _), cell_kept q3 HMC.out (World.block_lt_of_cell? _ _ q3) (not_nil _), cell_kept q4 HMC.out (World.block_lt_of_cell? _ _ q4) (not_nil _), cell_kept q5 HMC.out (World.block_lt_of_cell? _ _ q5) (not_nil _), cell_kept q6 HMC.out (World.block_lt_of_cell? _ _ q6) (not_nil _), cell_kept q7 HMC.out (World.block_lt_of_cell? _ _ q7) (not_nil _)⟩) ?_
          clear hK K
          (try simp only [Act.put, List.setIfInBounds_toArray, List.set_cons_zero, List.set_cons_succ])
          refine till_ready (rs := [9]) (by kernel_rfl) (by simp) ?_
          refine till_cons (i := 9) rfl (fun K hK => ?_) till_nil
          (try dsimp (config := { proj := false }) only [List.getElem_toArray, List.getElem_cons_succ, List.getElem_cons_zero])
          refine step_append_vec (S := S) rfl _ _ _ rfl 56 i0 (.agg #[.int .i64 0, .int .i64 0, .int .i64 0, .int .i64 0, .int .i64 0, .int .i64 0, .int .i64 0, .int .i64 0]) 8 64 Try.underlying51 hi hz0 hz1 hz2 rfl (by omega) _ m (saids l) rfl HVC.out _ 1 [.int .i64 who, .int .i64 t1, .int .i64 t2, .int .i64 t3, .int .i64 t4, .int .i64 t5, .int .i64 t6, .int .i64 t7] rfl HEC.out rfl (by intro u hu; exact said_one ⟨who, ⟨t1, t2, t3, t4, t5, t6, t7⟩⟩ u hu) (by unfold maxLen; omega) (by omega) ?_
          intro v6 w6 hv6 hm6
          obtain ⟨p6, c6, rfl⟩ := hv6.form
          have hmS := HMC.out.ofNil.trans hm6 (fun j _ h => h)
          have HV6 := Lib.hid hv6
          have HMS := Lib.hid hmS
          have e3 := cell_kept d3 hmS hbw3 (fun h => hnb h)
          have ef : w6.frozen? ⟨b, 3, none⟩ = false := free_of ((hmS.block b hbw3 (fun h => hnb h)).trans HO3.out) 3
          replace q0 := cell_kept q0 hmS (World.block_lt_of_cell? _ _ q0) (HNS.out bw (by omega))
          replace q1 := cell_kept q1 hmS (World.block_lt_of_cell? _ _ q1) (HNS.out (bw + 1) (by omega))
          replace q2 := cell_kept q2 hmS (World.block_lt_of_cell? _ _ q2) (HNS.out (bw + 1) (by omega))
          replace q3 := cell_kept q3 hmS (World.block_lt_of_cell? _ _ q3) (HNS.out (bw + 1) (by omega))
          replace q4 := cell_kept q4 hmS (World.block_lt_of_cell? _ _ q4) (HNS.out (bw + 1) (by omega))
          replace q5 := cell_kept q5 hmS (World.block_lt_of_cell? _ _ q5) (HNS.out (bw + 1) (by omega))
          replace q6 := cell_kept q6 hmS (World.block_lt_of_cell? _ _ q6) (HNS.out (bw + 1) (by omega))
          replace q7 := cell_kept q7 hmS (World.block_lt_of_cell? _ _ q7) (HNS.out (bw + 1) (by omega))
          clear hv6 hm6 hmS
          refine hK.out _ _ (fun _ => ⟨e3, q0, q1, q2, q3, q4, q5, q6, q7⟩) ?_
          clear hK K
          (try simp only [Act.put, List.setIfInBounds_toArray, List.set_cons_zero, List.set_cons_succ])
          refine till_ready (rs := [10]) (by kernel_rfl) (by simp) ?_
          refine till_cons (i := 10) rfl (fun K hK => ?_) till_nil
          (try dsimp (config := { proj := false }) only [List.getElem_toArray, List.getElem_cons_succ, List.getElem_cons_zero])
          go_simp
          refine hK.out _ _ (fun _ => ⟨e3, q0, q1, q2, q3, q4, q5, q6, q7⟩) ?_
          clear hK K
          (try simp only [Act.put, List.setIfInBounds_toArray, List.set_cons_zero, List.set_cons_succ])
          refine till_ready (rs := [11]) (by kernel_rfl) (by simp) ?_
          refine till_cons (i := 11) rfl (fun K hK => ?_) till_nil
          (try dsimp (config := { proj := false }) only [List.getElem_toArray, List.getElem_cons_succ, List.getElem_cons_zero])
          go_simp
          refine hK.out _ _ (fun _ => ⟨e3, q0, q1, q2, q3, q4, q5, q6, q7⟩) ?_
          clear hK K
          (try simp only [Act.put, List.setIfInBounds_toArray, List.set_cons_zero, List.set_cons_succ])
          refine till_ready (rs := [12]) (by kernel_rfl) (by simp) ?_
          refine till_cons (i := 12) rfl (fun K hK => ?_) till_nil
          (try dsimp (config := { proj := false }) only [List.getElem_toArray, List.getElem_cons_succ, List.getElem_cons_zero])
          go_simp
          refine hK.out _ _ (fun h => (by simp at h)) ?_
          clear hK K
          (try simp only [Act.put, List.setIfInBounds_toArray, List.set_cons_zero, List.set_cons_succ])
          refine till_done (by kernel_rfl) ?_ _
          go_wp2_with fail
          go_ret
          have hR := HR.out
          rw [putR, if_neg (by rw [HR0.out]; simp), if_neg HWB.out, HANY.out, if_neg (by simp), if_neg (by rw [HM.out]; omega)] at hR
          rw [← hR]
          have hms := HMS.out
          have ho6 := (hms.block b hbw3 (fun h => hnb h)).trans HO3.out
          have m7 : Mod (· = b) w6 (w6.setCell ⟨b, 3, none⟩ (.slice p6 (m + 1) c6)) := (Mod.refl _ _).setCell _ _ (fun _ => rfl)
          have h3s := HM3.out.size
          have hal := HMC.out.size
          have hv7 := (HV6.out.mod m7 (fun j _ hj e => by
            rcases hj with hj | hj
            · exact hnb (e ▸ hj)
            · omega)).trim
          obtain ⟨S', hv8, hS8⟩ : ∃ S' : Nat → Prop, IsVec S' (w6.setCell ⟨b, 3, none⟩ (.slice p6 (m + 1) c6)) _ 8 (.slice p6 (m + 1) c6) (m + 1) (saids l ++ _) ∧ ∀ k, S' k → (S k ∨ _ ≤ k) ∧ k < (w6.setCell ⟨b, 3, none⟩ (.slice p6 (m + 1) c6)).heap.size := ⟨_, hv7, fun k h => h⟩
          refine ⟨rfl, ⟨S', ⟨⟨.slice p6 (m + 1) c6, heap_setCell_same ho6 _, ?_⟩, fun h => ?_, fun k h => (hS8 k h).2⟩, fun k h => ?_⟩, ?_⟩
          · rw [saids_append, List.length_append, HM.out]
            exact hv8
          · rcases (hS8 _ h).1 with h | h
            · exact hnb h
            · omega
          · rcases (hS8 _ h).1 with h | h
            · exact .inl h
            · exact .inr (by omega)
          · exact ((HM3.out.ofNil.trans hms (fun j _ h => .inr h)).trans m7 (fun j _ h => .inl h))
      · go_wp2_with fail
        go_ret
        have hR := HR.out
        rw [putR, if_neg (by rw [HR0.out]; simp), if_neg HWB.out, if_pos (by exact HANY.out)] at hR
        rw [← hR]
        exact ⟨rfl, HSAME.out _ HM3.out, HM3.out.ofNil⟩
  · have hz' : (r0 == 0) = false := by simpa using hz
    go_wp2_with fail
    go_ret
    have hR := HR.out
    rw [putR, if_pos (by rw [HR0.out]; exact hz), HR0.out] at hR
    rw [← hR]
    exact ⟨rfl, HSAME.out _ HM2.out, HM2.out.ofNil⟩
end Go.Proofs.Ytdpaklpaanojpaa

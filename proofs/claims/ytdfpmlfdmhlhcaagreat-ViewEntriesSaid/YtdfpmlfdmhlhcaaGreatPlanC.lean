/- Package plan: ladder. -/
import Derived.Test.YtdfpmlfdmhlhcaaGreatPlanB
namespace Go.Proofs.YtdfpmlfdmhlhcaaGreat
open Go.RowKit
def ladTop (n : Nat) (start eps wait : Int) : Int := start + ((2 * n + 3) * (wait + 1) + 4 * eps)
/-- the deadline of place i, the ladder's last one d -/
def ladAt (n : Nat) (d g : Int) (i : Nat) : Int := d + ((n - 1 - i : Nat) : Int) * g
def ladderN (n : Nat) (start eps wait : Int) : Option (List Int) :=
  if ladTop n start eps wait + ((n - 1 : Nat) : Int) * gapN eps wait ≤ 1099511627776 then some ((List.range n).map (ladAt n (ladTop n start eps wait) (gapN eps wait))) else none
/-- the list behind j rounds -/
def ladTo (n : Nat) (d g : Int) (j : Nat) : List Int := (List.range n).map (fun i => if n - j ≤ i then ladAt n d g i else 0)
theorem ladTo_length (n : Nat) (d g : Int) (j : Nat) : (ladTo n d g j).length = n := by simp [ladTo]
theorem ladTo_zero (n : Nat) (d g : Int) : ladTo n d g 0 = List.replicate n 0 := by
  apply List.ext_getElem
  · simp [ladTo]
  · intro i h1 h2
    have : i < n := by simpa [ladTo] using h1
    simp [ladTo]; omega
theorem ladTo_all (n : Nat) (d g : Int) : ladTo n d g n = (List.range n).map (ladAt n d g) := by
  apply List.ext_getElem
  · simp [ladTo]
  · intro i h1 h2
    simp [ladTo]
theorem ladTo_set (n : Nat) (d g : Int) (j : Nat) (h : j < n) : (ladTo n d g j).set (n - 1 - j) (d + (j : Int) * g) = ladTo n d g (j + 1) := by
  apply List.ext_getElem
  · simp [ladTo]
  · intro i h1 h2
    have hi : i < n := by simpa [ladTo] using h2
    rw [List.getElem_set]
    by_cases he : n - 1 - j = i
    · rw [if_pos he]
      simp only [ladTo, List.getElem_map, List.getElem_range]
      rw [if_pos (by omega)]
      unfold ladAt
      rw [show n - 1 - i = j by omega]
    · rw [if_neg he]
      simp only [ladTo, List.getElem_map, List.getElem_range]
      by_cases h3 : n - j ≤ i
      · rw [if_pos h3, if_pos (by omega)]
      · rw [if_neg h3, if_neg (by omega)]
theorem vecOfInts {S : Nat → Prop} {w : World} {g : Nat} {l : List Int} (h : w.heap[g]? = some (.cells (ints l) 3 (0, 0))) (hS : S g) (hl : l.length ≤ maxLen) : IsVec S w 3 1 (.slice (some ⟨g, 0, none⟩) l.length l.length) l.length (l.map (.int .i64)) := by
  refine ⟨⟨by simp, .inr ⟨g, l.length, _, rfl, Nat.zero_le _, h, Nat.le_refl _, hl, by simp [ints], by simp [ints, List.take_of_length_le]⟩⟩, fun k hk => ?_⟩
  simp [Value.ownBlock] at hk
  exact hk ▸ hS
set_option maxRecDepth 100000 in
set_option maxHeartbeats 4000000 in
theorem planLadder (n : Nat) (start eps wait : Int) (w : World) (h1 : 1 ≤ n) (h2 : n ≤ 16) (ht : timesN eps wait) (hs : tickN start) :
    Calls Tryz.prog 100 #[.int .i64 n, .int .i64 start, .int .i64 eps, .int .i64 wait] w fun e w' =>
      ((ladderN n start eps wait = none ∧ e = .returned (.tuple #[.slice none 0 0, .bool false])) ∨
       (∃ l p c, ladderN n start eps wait = some l ∧ l.length = n ∧ e = .returned (.tuple #[.slice p n c, .bool true]) ∧ IsVec (fun k => w.heap.size ≤ k) w' 3 1 (.slice p n c) n (l.map (.int .i64)))) ∧ Mod nil w w' := by
  refine (?_ : ∀ Post : Ending → World → Prop, Hid (∀ e w', (((ladderN n start eps wait = none ∧ e = .returned (.tuple #[.slice none 0 0, .bool false])) ∨
       (∃ l p c, ladderN n start eps wait = some l ∧ l.length = n ∧ e = .returned (.tuple #[.slice p n c, .bool true]) ∧ IsVec (fun k => w.heap.size ≤ k) w' 3 1 (.slice p n c) n (l.map (.int .i64)))) ∧ Mod nil w w') → Post e w') → Calls Tryz.prog 100 #[.int .i64 n, .int .i64 start, .int .i64 eps, .int .i64 wait] w Post) _ (Lib.hid (fun _ _ h => h))
  intro Post HPOST
  obtain ⟨t1, t2, t3, t4⟩ := id ht
  obtain ⟨s1, s2⟩ := id hs
  obtain ⟨G, hG⟩ : ∃ G, gapN eps wait = G := ⟨_, rfl⟩
  have hG2 : G = 2 * eps + 2 * wait + 2 := by rw [← hG]; exact if_pos ht
  obtain ⟨X, hX⟩ : ∃ X, (2 * (n : Int) + 3) * (wait + 1) + 4 * eps = X := ⟨_, rfl⟩
  have hM : (2 * (n : Int) + 3) * (wait + 1) ≤ 35 * 1001 ∧ 0 ≤ (2 * (n : Int) + 3) * (wait + 1) := ⟨Int.mul_le_mul (by omega) (by omega) (by omega) (by omega), Int.mul_nonneg (by omega) (by omega)⟩
  obtain ⟨M, hMe⟩ : ∃ M, (2 * (n : Int) + 3) * (wait + 1) = M := ⟨_, rfl⟩
  rw [hMe] at hM hX
  have hXb : 0 ≤ X ∧ X ≤ 50000 := by omega
  have hGb : 4 ≤ G ∧ G ≤ 4002 := by omega
  have HTOP : Hid (ladTop n start eps wait = start + X) := Lib.hid (by unfold ladTop; rw [← hX, ← hMe])
  have HGAP : Hid (gapN eps wait = G) := Lib.hid hG
  have HGC := Lib.hid (fun w => planGap eps wait w)
  rw [hG] at HGC
  have HAF := Lib.hid (numAfter start X w)
  obtain ⟨D, hD⟩ : ∃ D, start + X = D := ⟨_, rfl⟩
  have hDb : 0 ≤ D := by omega
  have haf : afterN start X = if tickN D then (D, 0) else (0, 1) := by
    unfold afterN
    rw [hD]
    by_cases hd : tickN D
    · rw [if_pos ⟨hs, ⟨by omega, by omega⟩, hd⟩, if_pos hd]
    · rw [if_neg (fun h => hd h.2.2), if_neg hd]
  rw [hD] at HTOP
  have e1 : IntKind.i64.wrap (2 * (n : Int)) = 2 * (n : Int) := by rw [IntKind.wrap_i64]; omega
  have e2 : IntKind.i64.wrap (2 * (n : Int) + 3) = 2 * (n : Int) + 3 := by rw [IntKind.wrap_i64]; omega
  have e3 : IntKind.i64.wrap (wait + 1) = wait + 1 := by rw [IntKind.wrap_i64]; omega
  have e4 : IntKind.i64.wrap ((2 * (n : Int) + 3) * (wait + 1)) = M := by rw [hMe, IntKind.wrap_i64]; omega
  have e5 : IntKind.i64.wrap (4 * eps) = 4 * eps := by rw [IntKind.wrap_i64]; omega
  have e6 : IntKind.i64.wrap (M + 4 * eps) = X := by rw [hX, IntKind.wrap_i64]; omega
  have e7 : IntKind.i64.wrap ((n : Int) - 1) = (n : Int) - 1 := by rw [IntKind.wrap_i64]; omega
  have hmk : ∀ W, (Instr.makeSlice 22 (.int .i64 n) (.int .i64 n)).run Tryz.prog W = .ok (.slice (some ⟨W.heap.size, 0, none⟩) n n) (W.alloc (.cells (ints (List.replicate n 0)) 3)) := fun W => by
    obtain ⟨i0, hi0, hz0, hz1, hz2⟩ := info_parts info_int
    rw [show ints (List.replicate n 0) = (List.replicate n (Value.int .i64 0)).toArray by simp [ints]]
    exact run_make_one 22 3 i0 _ 8 Tryz.underlying22 hi0 hz0 hz1 hz2 rfl n (by omega) (by unfold maxLen; omega) W
  clear hG hG2 hX hMe ht hs
  rw [haf] at HAF
  have HD := Lib.hid hD
  clear hD haf
  go_enter Tryz.func100, Tryz.ntmps100
  go_wp2_with fail
  refine HAF.out.mono ?_
  rintro e w' ⟨rfl, rfl⟩
  have hst : ∃ d0 e0 : Int, (if tickN D then (D, (0 : Int)) else (0, 1)) = (d0, e0) ∧ ((e0 = 0 ∧ d0 = D + ((0 : Nat) : Int) * G ∧ tickN d0) ∨ (e0 = 1 ∧ ¬ tickN (D + ((0 : Nat) : Int) * G))) := by
    by_cases h : tickN D
    · exact ⟨D, 0, if_pos h, .inl ⟨rfl, by omega, h⟩⟩
    · exact ⟨0, 1, if_neg h, .inr ⟨rfl, by simpa using h⟩⟩
  obtain ⟨d0, e0, hde, hst⟩ := hst
  rw [hde]
  have HST := Lib.hid hst
  clear hst hde HAF
  go_wp2_with fail
  obtain ⟨g, hg⟩ : ∃ g, w.heap.size = g := ⟨_, rfl⟩
  (try rw [hg])
  generalize hw1 : World.alloc w _ = w1
  have hm1 : Mod nil w w1 := by rw [← hw1]; exact (Mod.refl _ _).alloc _
  have hb1 : w1.heap[g]? = some (.cells (ints (ladTo n D G 0)) 3 (0, 0)) := by rw [← hw1, ← hg, ladTo_zero]; exact heap_alloc_new _ _
  have HM1 := Lib.hid hm1
  have HG := Lib.hid hg
  have hgl : g < w1.heap.size := heap_lt hb1
  clear hw1 hm1 hg hmk e1 e2 e3 e4 e5 e6
  go_loopw [10, 11, 13] (fun v10 v11 v13 wr => ∃ (j : Nat) (x d er : Int), j ≤ n ∧ v13 = .int .i64 x ∧ v10 = .int .i64 d ∧ v11 = .int .i64 er ∧ Hid (x = (n : Int) - 1 - j) ∧ Hid ((er = 0 ∧ d = D + (j : Int) * G ∧ tickN d) ∨ (er = 1 ∧ ¬ tickN (D + (j : Int) * G))) ∧ Hid (∀ k : Nat, k < j → tickN (D + (k : Int) * G)) ∧ wr.heap[g]? = some (.cells (ints (ladTo n D G j)) 3 (0, 0)) ∧ Hid (Mod (fun k => g ≤ k) w1 wr)) (fun _ _ v _ => (intOf v + 1).toNat)
  case atStart => exact ⟨0, _, d0, e0, by omega, rfl, rfl, rfl, Lib.hid (by omega), HST, Lib.hid (fun k h => by omega), hb1, Lib.hid (Mod.refl _ _)⟩
  case round =>
    obtain ⟨j, x, d, er, hj, rfl, rfl, rfl, HX, HDE, HALL, hb, HM⟩ := hrel
    have hfin : Mod nil w wr := HM1.out.new HM.out (fun k h => by have := HG.out; omega)
    have HFIN := Lib.hid hfin
    clear hfin
    by_cases hlt : j < n
    · obtain ⟨k, hk⟩ : ∃ k : Nat, x = (k : Int) := ⟨(n - 1 - j), by have := HX.out; omega⟩
      subst hk
      have hkj : k = n - 1 - j := by have := HX.out; omega
      have hk1 : IntKind.i64.wrap ((k : Int) - 1) = (k : Int) - 1 := by rw [IntKind.wrap_i64]; omega
      have hkn : k < n := by omega
      rcases HDE.out with ⟨rfl, hd, htk⟩ | ⟨rfl, hno⟩
      · obtain ⟨L, hL⟩ : ∃ L, ints (ladTo n D G j) = L := ⟨_, rfl⟩
        have hcell : L[k]? = some (.int .i64 ((ladTo n D G j).getD k 0)) := by rw [← hL]; exact ints_get (by rw [ladTo_length]; exact hkn)
        have hset : L.setIfInBounds k (.int .i64 d) = ints (ladTo n D G (j + 1)) := by rw [← hL, ints_set, hd, hkj, ladTo_set n D G j hlt]
        rw [hL] at hb
        have c6 := cell_of hb k
        rw [hcell] at c6
        have z6 := free_of hb k
        have HB := Lib.hid hb
        have HSET := Lib.hid hset
        have haf := fun W => numAfter d G W
        have hdG : d + G = D + ((j + 1 : Nat) : Int) * G := by rw [hd, Int.natCast_add, Int.add_mul]; omega
        have hst2 : ∃ d2 e2 : Int, afterN d G = (d2, e2) ∧ ((e2 = 0 ∧ d2 = D + ((j + 1 : Nat) : Int) * G ∧ tickN d2) ∨ (e2 = 1 ∧ ¬ tickN (D + ((j + 1 : Nat) : Int) * G))) := by
          unfold afterN
          by_cases h : tickN (d + G)
          · exact ⟨d + G, 0, if_pos ⟨htk, ⟨by omega, by omega⟩, h⟩, .inl ⟨rfl, hdG, h⟩⟩
          · exact ⟨0, 1, if_neg (fun h' => h h'.2.2), .inr ⟨rfl, by rw [← hdG]; exact h⟩⟩
        obtain ⟨d2, er2, h2, hst2⟩ := hst2
        rw [h2] at haf
        have HAF2 := Lib.hid haf
        have HST2 := Lib.hid hst2
        have HALL2 : Hid (∀ k : Nat, k < j + 1 → tickN (D + (k : Int) * G)) := Lib.hid (fun k' hk' => by
          rcases (show k' < j ∨ k' = j by omega) with h | rfl
          · exact HALL.out k' h
          · rw [← hd]; exact htk)
        have HKJ := Lib.hid hkj
        clear hb hset hcell hL haf h2 hst2 hd htk hdG HST hb1 HDE HALL hkj
        go_wp2_with fail
        refine (HGC.out _).mono ?_
        rintro e w' ⟨rfl, rfl⟩
        go_wp2_with fail
        refine (HAF2.out _).mono ?_
        rintro e w' ⟨rfl, rfl⟩
        go_wp2_with fail
        exact ⟨⟨j + 1, _, d2, er2, by omega, rfl, rfl, rfl, Lib.hid (by have := HKJ.out; omega), HST2, HALL2, by rw [heap_setCell_same HB.out, HSET.out], Lib.hid (HM.out.setCell _ _ (fun _ => Nat.le_refl _))⟩, by simp [intOf]⟩
      · have HE : Hid (Post (.returned (.tuple #[.slice none 0 0, .bool false])) wr) := Lib.hid (HPOST.out _ _ ⟨.inl ⟨by
          unfold ladderN
          rw [HTOP.out, HGAP.out, if_neg]
          intro hle
          apply hno
          refine ⟨Int.add_nonneg hDb (Int.mul_nonneg (by omega) (by omega)), ?_⟩
          have : (j : Int) * G ≤ ((n - 1 : Nat) : Int) * G := Int.mul_le_mul_of_nonneg_right (by omega) (by omega)
          omega, rfl⟩, HFIN.out⟩)
        clear HST hb1 HDE HALL hb
        go_wp2_with fail
        exact HE.out
    · obtain rfl : j = n := by omega
      have hx : x = -1 := by have := HX.out; omega
      subst hx
      have hlad : ladderN j start eps wait = some (ladTo j D G j) := by
        unfold ladderN
        rw [HTOP.out, HGAP.out, ladTo_all, if_pos]
        exact (HALL.out (j - 1) (by omega)).2
      have hv := vecOfInts (S := fun k => w.heap.size ≤ k) hb (by rw [HG.out]; exact Nat.le_refl _) (by rw [ladTo_length]; unfold maxLen; omega)
      rw [ladTo_length] at hv
      have HE := Lib.hid (HPOST.out _ _ ⟨.inr ⟨_, _, _, hlad, ladTo_length _ _ _ _, rfl, hv⟩, HFIN.out⟩)
      clear HST hb1 HDE HALL hb hlad hv
      go_wp2_with fail
      exact HE.out
end Go.Proofs.YtdfpmlfdmhlhcaaGreat

/- cflref6.Disk's dirty: one more that is pending; rising. -/
import Derived.Test.YtdfahddpkkeldaaGreatShort
import Derived.Test.YtdfahddpkkeldaaGreatRefDisk
import Derived.Test.YtdfahddpkkeldaaGreatStep
import Derived.Test.YtdfahddpkkeldaaGreatTailB
namespace Go.Proofs.YtdfahddpkkeldaaGreat
set_option linter.unusedSimpArgs false
set_option linter.unusedVariables false
open Go.RowKit
theorem ins_at (l : List Int) (i : Int) (k : Nat) (hs : l.Pairwise (· < ·)) (hk : k ≤ l.length) (h1 : ∀ j, j < k → l.getD j 0 < i) (h2 : k < l.length → i < l.getD k 0) :
    asc (l ++ [i]) = l.take k ++ [i] ++ l.drop k := by
  refine sorted_eq ?_ (asc_sorted _) ?_
  · refine (asc_perm _).trans ?_
    have h : (l.take k ++ l.drop k ++ [i]).Perm (l.take k ++ [i] ++ l.drop k) := by
      rw [List.append_assoc, List.append_assoc]
      exact List.Perm.append_left _ List.perm_append_comm
    rwa [List.take_append_drop] at h
  · rw [List.append_assoc, List.pairwise_append]
    have hs' : l.Pairwise (· ≤ ·) := hs.imp (fun h => by omega)
    refine ⟨hs'.sublist (List.take_sublist k l), ?_, ?_⟩
    · rw [List.singleton_append, List.pairwise_cons]
      refine ⟨fun x hx => ?_, hs'.sublist (List.drop_sublist k l)⟩
      obtain ⟨j, hj, rfl⟩ := List.getElem_of_mem hx
      simp only [List.length_drop] at hj
      have hkl : k < l.length := by omega
      have h3 := h2 hkl
      rw [show l.getD k 0 = l[k] by simp [hkl]] at h3
      rw [List.getElem_drop]
      rcases Nat.eq_zero_or_pos j with h0 | h0
      · subst h0; simp only [Nat.add_zero]; omega
      · have := (List.pairwise_iff_getElem.1 hs) k (k + j) hkl (by omega) (by omega)
        omega
    · intro a ha b hb
      obtain ⟨j, hj, rfl⟩ := List.getElem_of_mem ha
      simp only [List.length_take] at hj
      have h3 := h1 j (by omega)
      rw [show l.getD j 0 = l[j]'(by omega) by simp [show j < l.length by omega]] at h3
      rw [List.getElem_take]
      rw [List.singleton_append] at hb
      rcases List.mem_cons.1 hb with rfl | hb
      · omega
      · obtain ⟨q, hq, rfl⟩ := List.getElem_of_mem hb
        simp only [List.length_drop] at hq
        rw [List.getElem_drop]
        have := (List.pairwise_iff_getElem.1 hs) j (k + q) (by omega) (by omega) (by omega)
        omega
theorem ints_one (l : List Int) : ∀ u ∈ l.map (Value.int .i64), u.oneCell' = true := by
 intro u hu
 obtain ⟨x, _, rfl⟩ := List.mem_map.1 hu
 rfl
theorem IsRow.dropCells {S : Nat → Prop} {w : World} {b off n c : Nat} {xs : List Value} (h : IsRow S w (.slice (some ⟨b, off, none⟩) n c) xs) (k m c' : Nat) : IsCells S w (.slice (some ⟨b, off + k, none⟩) m c') m (xs.drop k) := by
 obtain ⟨p', c0, hv, hc⟩ := h
 simp only [Value.slice.injEq] at hv
 obtain ⟨rfl, -, rfl⟩ := hv
 refine ⟨_, c', rfl, fun i hi => ?_⟩
 simp only [List.length_drop] at hi
 obtain ⟨b', off', hp, hS, hb, hx⟩ := hc (k + i) (by omega)
 simp only [Option.some.injEq, Addr.mk.injEq, and_true] at hp
 obtain ⟨rfl, rfl⟩ := hp
 exact ⟨b, off + k, rfl, hS, hb, by rw [show off + k + i = off + (k + i) by omega, hx]; simp⟩
theorem IsRow.takeCells {S : Nat → Prop} {w : World} {p : Option Addr} {n c : Nat} {xs : List Value} (h : IsRow S w (.slice p n c) xs) (k c' : Nat) : IsCells S w (.slice p k c') k (xs.take k) := by
 obtain ⟨p', c0, hv, hc⟩ := h
 simp only [Value.slice.injEq] at hv
 obtain ⟨rfl, -, rfl⟩ := hv
 refine ⟨p, c', rfl, fun i hi => ?_⟩
 obtain ⟨b, off, hp, hS, hb, hx⟩ := hc i (by simp at hi; omega)
 simp only [List.length_take] at hi
 exact ⟨b, off, hp, hS, hb, by rw [hx]; simp [List.getElem?_take_of_lt (show i < k by omega)]⟩
def insD (l : List Int) (i : Int) : List Int := if i ∈ l then l else asc (l ++ [i])
theorem vec_form {S : Nat → Prop} {w : World} {E : TypeId} {n : Nat} {v : Value} {xs : List Value} (h : IsVec S w E 1 v n xs) : (v = .slice none 0 0 ∧ n = 0) ∨ ∃ g c, v = .slice (some ⟨g, 0, none⟩) n c ∧ S g ∧ g < w.heap.size ∧ n ≤ c ∧ c ≤ maxLen := by
 obtain ⟨⟨hl, h1⟩, h2⟩ := h
 rcases h1 with ⟨rfl, h0⟩ | ⟨g, cap, cur, rfl, hg, hh, hn, hm, hs, ht⟩
 ·exact .inl ⟨rfl, h0⟩
 ·exact .inr ⟨g, cap, rfl, h2 g rfl, heap_lt hh, hn, hm⟩
theorem cells_none {P : Nat → Prop} (w : World) (p : Option Addr) (c : Nat) : IsCells P w (.slice p 0 c) 0 [] := ⟨p, c, rfl, fun i hi => absurd hi (by simp)⟩
theorem dirty_fin {P : Nat → Prop} {b n k : Nat} {l : List Int} {i : Int} {w0 w : World} {v u : Value} (hins : insD l i = l.take k ++ [i] ++ l.drop k ∧ l.length = n) (hb : b < w0.heap.size) (hv : IsVec (fun j => w0.heap.size ≤ j) w 3 1 v (n + 1) ((l.map (Value.int .i64)).take k ++ [Value.int IntKind.i64 i] ++ (l.map (Value.int .i64)).drop k)) :
    IsVec (fun j => P j ∨ w0.heap.size ≤ j) (w.setCell ⟨b, 2, none⟩ u) 3 1 v (insD l i).length ((insD l i).map (Value.int .i64)) := by
  have h := (hv.mod ((Mod.refl (· = b) w).setCell ⟨b, 2, none⟩ u (fun _ => rfl)) (fun j _ hj e => by omega)).mono (T := fun j => P j ∨ w0.heap.size ≤ j) (fun j _ hj => .inr hj)
  rw [hins.1]
  have hl : (l.take k ++ [i] ++ l.drop k).length = n + 1 := by
    have := hins.2
    simp; omega
  rw [hl]
  simpa [List.map_take, List.map_drop] using h
theorem insD_at (l : List Int) (i : Int) (k : Nat) (hs : l.Pairwise (· < ·)) (hk : k ≤ l.length) (h1 : ∀ j, j < k → l.getD j 0 < i) (h2 : k < l.length → i < l.getD k 0) : insD l i = l.take k ++ [i] ++ l.drop k := by
 rw [insD, if_neg, ins_at l i k hs hk h1 h2]
 intro hm
 obtain ⟨j, hj, rfl⟩ := List.getElem_of_mem hm
 by_cases hjk : j < k
 ·have := h1 j hjk
  simp [hj] at this
 ·have h3 := h2 (by omega)
  rw [show l.getD k 0 = l[k]'(by omega) by simp [show k < l.length by omega]] at h3
  by_cases he : j = k
  ·subst he; omega
  ·have := (List.pairwise_iff_getElem.1 hs) k j (by omega) hj (by omega)
   omega
set_option maxRecDepth 100000 in
set_option maxHeartbeats 4000000 in
theorem refDirty (b : Nat) (P : Nat → Prop) (v1 v2 v3 : Value) (f : Int) (dn : Bool) (l : List Int) (i : Int) (w : World) (ho : w.heap[b]? = some (.cells #[v1, v2, v3, .int .i64 f, .bool dn] 92 (0, 0))) (hr : IsVec P w 3 1 v3 l.length (l.map (Value.int .i64)))
    (hl : l.length ≤ 8192) (hs : l.Pairwise (· < ·)) :
    Calls Tryz.prog 45 #[.pointer (some ⟨b, 0, none⟩), .int .i64 i] w fun e w' => e = .returned (.tuple #[]) ∧ ∃ v3', w'.heap[b]? = some (.cells #[v1, v2, v3', .int .i64 f, .bool dn] 92 (0, 0)) ∧ IsVec (fun k => P k ∨ w.heap.size ≤ k) w' 3 1 v3' (insD l i).length ((insD l i).map (Value.int .i64)) ∧ Mod (· = b) w w' := by
  obtain ⟨n, hn⟩ : ∃ n, l.length = n := ⟨_, rfl⟩
  rw [hn] at hl
  have HR := Lib.hid hr
  have HO := Lib.hid ho
  have hi0 := info_parts info_int
  have HI := Lib.hid hi0
  clear hi0
  rcases vec_form hr with ⟨rfl, h0⟩ | ⟨g, c, rfl, hPg, hg, hnc, hcm⟩
  · have hl0 : l = [] := List.eq_nil_of_length_eq_zero h0
    have HINS := Lib.hid (show insD l i = l.take 0 ++ [i] ++ l.drop 0 ∧ l.length = 0 from by subst hl0; exact ⟨by simp [insD, asc], rfl⟩)
    have hbw : b < w.heap.size := heap_lt ho
    have HN := Lib.hid h0
    have HT : Hid (IsCells P w (.slice none 0 0) 0 ((l.map (Value.int .i64)).take 0)) := Lib.hid (cells_none _ _ _)
    have HD : Hid (IsCells P w (.slice none 0 0) 0 ((l.map (Value.int .i64)).drop 0)) := Lib.hid (by rw [hl0]; exact cells_none _ _ _)
    have HLK := Lib.hid (show ((l.map (Value.int .i64)).take 0).length = 0 from rfl)
    replace HO := Lib.hid ho
    clear hr hn hs hl0 h0 HR
    have c2 : w.cell? ⟨b, 2, none⟩ = some (.slice none 0 0) := cell_of ho 2
    have f2 : w.frozen? ⟨b, 2, none⟩ = false := free_of ho 2
    clear ho
    obtain ⟨i0, hi, hz0, hz1, hz2⟩ := HI.out
    go_enter Tryz.func45, Tryz.ntmps45
    go_wp2_with fail
    go_loopw [4] (fun v wr => v = .int .i64 0 ∧ wr = w) (fun v _ => 0)
    case atStart => exact ⟨rfl, rfl⟩
    case round =>
      obtain ⟨rfl, rfl⟩ := hrel
      go_wp2_with fail
      refine region_till (fun w' => w'.cell? ⟨b, 2, none⟩ = some (.slice none 0 0)) 21 (by kernel_rfl) ?_
      refine sT 0 (c2) ?_
      refine sT 2 (c2) ?_
      refine sT 3 (c2) ?_
      refine sT 4 (c2) ?_
      refine sT 5 (c2) ?_
      refine sT 6 (c2) ?_
      refine sT 7 (c2) ?_
      refine sT 9 (c2) ?_
      refine sT 12 (c2) ?_
      refine sT 13 (c2) ?_
      refine sT 14 (c2) ?_
      refine sT 15 (c2) ?_
      refine sT 16 (c2) ?_
      refine sT 17 (c2) ?_
      have HCB : Hid (∀ W, Mod nil wr W → W.cell? ⟨b, 2, none⟩ = some (.slice none 0 0)) := Lib.hid (fun W hW => cell_kept c2 hW hbw (not_nil _))
      refine till_ready (rs := [1, 10]) (by kernel_rfl) (by simp) ?_
      refine till_cons (i := 1) rfl (fun K hK => ?_) ?_
      · (try dsimp (config := { proj := false }) only [g0, g1, g2])
        go_simp
        refine hK.out _ _ (fun _ => HCB.out _ (((Mod.refl nil wr).alloc _).drew)) ?_
        clear hK K
        (try simp only [Act.put, pT])
        have hv := (vec_empty_at wr 3 1 _ rfl).modNil (Mod.refl nil _).drew
        have hM := ((Mod.refl nil wr).alloc (.cells #[] 3)).drew
        have hG : wr.heap.size ≤ wr.heap.size := Nat.le_refl _
        refine till_ready (rs := [8, 10]) (by kernel_rfl) (by simp) ?_
        refine till_cons (i := 8) rfl (fun K hK => ?_) ?_
        · (try dsimp (config := { proj := false }) only [g0, g1, g2])
          refine step_append_vec rfl _ _ _ rfl 3 i0 (.int .i64 0) 1 8 Tryz.underlying90 hi hz0 hz1 hz2 rfl (by omega) _ 0 [] rfl hv _ 0 _ rfl (HT.out.modNil hM) (by simp [HLK.out]) (fun u hu => ints_one l u (List.mem_of_mem_take hu)) (by unfold maxLen; omega) (by omega) ?_
          intro v6 w6 hv6 hm6
          rw [Nat.zero_add, List.nil_append] at hv6
          obtain ⟨p6, c6, rfl⟩ := hv6.form
          have hM6 : Mod nil wr w6 := hM.new hm6 (fun j hj => by rw [hj]; exact hG)
          replace hv6 := hv6.mono (T := fun j => wr.heap.size ≤ j) (fun j _ hj => by
            rcases hj with hj | hj
            · rw [hj]; exact hG
            · exact Nat.le_trans hM.size hj)
          refine hK.out _ _ (fun _ => HCB.out _ hM6) ?_
          clear hK K
          (try simp only [Act.put, pT])
          refine rT 10 (fun K hK => ?_)
          go_simp
          refine hK.out _ _ (fun _ => HCB.out _ (hM6.alloc _)) ?_
          clear hK K
          (try simp only [Act.put, pT])
          have hB := cells_one_at w6 3 (.int .i64 i) _ rfl
          replace hv6 := hv6.modNil ((Mod.refl nil w6).alloc (.cells #[.int .i64 i] 3))
          replace hM6 := hM6.alloc (.cells #[.int .i64 i] 3)
          refine rT 11 (fun K hK => ?_)
          refine step_append_vec (S := fun j => wr.heap.size ≤ j) rfl _ _ _ rfl 3 i0 (.int .i64 0) 1 8 Tryz.underlying90 hi hz0 hz1 hz2 rfl (by omega) _ 0 ((l.map (Value.int .i64)).take 0) rfl hv6 _ 1 [Value.int IntKind.i64 i] rfl hB rfl (by simp [Value.oneCell']) (by unfold maxLen; omega) (by omega) ?_
          intro v7 w7 hv7 hm7
          obtain ⟨p7, c7, rfl⟩ := hv7.form
          have hM7 : Mod nil wr w7 := hM6.new hm7 (fun j hj => hj)
          replace hv7 := hv7.mono (T := fun j => wr.heap.size ≤ j) (fun j _ hj => by
            rcases hj with hj | hj
            · exact hj
            · exact Nat.le_trans hM6.size hj)
          refine hK.out _ _ (fun _ => HCB.out _ hM7) ?_
          clear hK K
          (try simp only [Act.put, pT])
          refine rT 18 (fun K hK => ?_)
          refine step_append_vec (S := fun j => wr.heap.size ≤ j) rfl _ _ _ rfl 3 i0 (.int .i64 0) 1 8 Tryz.underlying90 hi hz0 hz1 hz2 rfl (by omega) _ (0 + 1) ((l.map (Value.int .i64)).take 0 ++ [Value.int IntKind.i64 i]) rfl hv7 _ (0) _ rfl (HD.out.modNil hM7) (by simp [HN.out]) (fun u hu => ints_one l u (List.mem_of_mem_drop hu)) (by unfold maxLen; omega) (by omega) ?_
          intro v8 w8 hv8 hm8
          rw [show 0 + 1 + (0) = 0 + 1 by omega] at hv8
          obtain ⟨p8, c8, rfl⟩ := hv8.form
          have hM8 : Mod nil wr w8 := hM7.new hm8 (fun j hj => hj)
          replace hv8 := hv8.mono (T := fun j => wr.heap.size ≤ j) (fun j _ hj => by
            rcases hj with hj | hj
            · exact hj
            · exact Nat.le_trans hM7.size hj)
          refine hK.out _ _ (fun _ => HCB.out _ hM8) ?_
          clear hK K
          (try simp only [Act.put, pT])
          refine rT 19 (fun K hK => ?_)
          go_simp
          refine hK.out _ _ (fun _ => HCB.out _ hM8) ?_
          clear hK K
          (try simp only [Act.put, pT])
          refine rT 20 (fun K hK => ?_)
          go_simp
          refine hK.out _ _ (fun _ => HCB.out _ hM8) ?_
          clear hK K
          (try simp only [Act.put, pT])
          have cb8 := HCB.out _ hM8
          have fb8 : w8.frozen? ⟨b, 2, none⟩ = false := free_of (hM8.keep HO.out) 2
          refine rT 21 (fun K hK => ?_)
          go_simp
          refine hK.out _ _ (fun h => (by simp at h)) ?_
          clear hK K
          (try simp only [Act.put, pT])
          refine till_done (by kernel_rfl) ?_ _
          go_wp2_with fail
          go_end0
          exact ⟨rfl, _, heap_setCell_same (hM8.keep HO.out) _, dirty_fin HINS.out (by omega) hv8, hM8.ofNil.setCell _ _ (fun _ => rfl)⟩
        refine till_cons (i := 10) rfl (fun K hK => ?_) till_nil
        (try dsimp (config := { proj := false }) only [g0, g1, g2])
        go_simp
        refine hK.out _ _ (fun _ => HCB.out _ ((((Mod.refl nil wr).alloc _).alloc _).drew)) ?_
        clear hK K
        (try simp only [Act.put, pT])
        have hB := (cells_one_at (wr.alloc (.cells #[] 3)) 3 (.int .i64 i) (wr.heap.size + 1) (by simp)).modNil (Mod.refl nil _).drew
        replace hv := ((vec_empty_at wr 3 1 _ rfl).modNil ((Mod.refl nil _).alloc (.cells #[.int .i64 i] 3))).modNil (Mod.refl nil _).drew
        replace hM := (((Mod.refl nil wr).alloc (.cells #[] 3)).alloc (.cells #[.int .i64 i] 3)).drew
        refine rT 8 (fun K hK => ?_)
        refine step_append_vec rfl _ _ _ rfl 3 i0 (.int .i64 0) 1 8 Tryz.underlying90 hi hz0 hz1 hz2 rfl (by omega) _ 0 [] rfl hv _ 0 _ rfl (HT.out.modNil hM) (by simp [HLK.out]) (fun u hu => ints_one l u (List.mem_of_mem_take hu)) (by unfold maxLen; omega) (by omega) ?_
        intro v6 w6 hv6 hm6
        rw [Nat.zero_add, List.nil_append] at hv6
        obtain ⟨p6, c6, rfl⟩ := hv6.form
        have hM6 : Mod nil wr w6 := hM.new hm6 (fun j hj => by rw [hj]; exact hG)
        replace hv6 := hv6.mono (T := fun j => wr.heap.size ≤ j) (fun j _ hj => by
          rcases hj with hj | hj
          · rw [hj]; exact hG
          · exact Nat.le_trans hM.size hj)
        replace hB := hB.mod hm6 (fun j _ hj e => by omega)
        refine hK.out _ _ (fun _ => HCB.out _ hM6) ?_
        clear hK K
        (try simp only [Act.put, pT])
        refine rT 11 (fun K hK => ?_)
        refine step_append_vec (S := fun j => wr.heap.size ≤ j) rfl _ _ _ rfl 3 i0 (.int .i64 0) 1 8 Tryz.underlying90 hi hz0 hz1 hz2 rfl (by omega) _ 0 ((l.map (Value.int .i64)).take 0) rfl hv6 _ 1 [Value.int IntKind.i64 i] rfl hB rfl (by simp [Value.oneCell']) (by unfold maxLen; omega) (by omega) ?_
        intro v7 w7 hv7 hm7
        obtain ⟨p7, c7, rfl⟩ := hv7.form
        have hM7 : Mod nil wr w7 := hM6.new hm7 (fun j hj => hj)
        replace hv7 := hv7.mono (T := fun j => wr.heap.size ≤ j) (fun j _ hj => by
          rcases hj with hj | hj
          · exact hj
          · exact Nat.le_trans hM6.size hj)
        refine hK.out _ _ (fun _ => HCB.out _ hM7) ?_
        clear hK K
        (try simp only [Act.put, pT])
        refine rT 18 (fun K hK => ?_)
        refine step_append_vec (S := fun j => wr.heap.size ≤ j) rfl _ _ _ rfl 3 i0 (.int .i64 0) 1 8 Tryz.underlying90 hi hz0 hz1 hz2 rfl (by omega) _ (0 + 1) ((l.map (Value.int .i64)).take 0 ++ [Value.int IntKind.i64 i]) rfl hv7 _ (0) _ rfl (HD.out.modNil hM7) (by simp [HN.out]) (fun u hu => ints_one l u (List.mem_of_mem_drop hu)) (by unfold maxLen; omega) (by omega) ?_
        intro v8 w8 hv8 hm8
        rw [show 0 + 1 + (0) = 0 + 1 by omega] at hv8
        obtain ⟨p8, c8, rfl⟩ := hv8.form
        have hM8 : Mod nil wr w8 := hM7.new hm8 (fun j hj => hj)
        replace hv8 := hv8.mono (T := fun j => wr.heap.size ≤ j) (fun j _ hj => by
          rcases hj with hj | hj
          · exact hj
          · exact Nat.le_trans hM7.size hj)
        refine hK.out _ _ (fun _ => HCB.out _ hM8) ?_
        clear hK K
        (try simp only [Act.put, pT])
        refine rT 19 (fun K hK => ?_)
        go_simp
        refine hK.out _ _ (fun _ => HCB.out _ hM8) ?_
        clear hK K
        (try simp only [Act.put, pT])
        refine rT 20 (fun K hK => ?_)
        go_simp
        refine hK.out _ _ (fun _ => HCB.out _ hM8) ?_
        clear hK K
        (try simp only [Act.put, pT])
        have cb8 := HCB.out _ hM8
        have fb8 : w8.frozen? ⟨b, 2, none⟩ = false := free_of (hM8.keep HO.out) 2
        refine rT 21 (fun K hK => ?_)
        go_simp
        refine hK.out _ _ (fun h => (by simp at h)) ?_
        clear hK K
        (try simp only [Act.put, pT])
        refine till_done (by kernel_rfl) ?_ _
        go_wp2_with fail
        go_end0
        exact ⟨rfl, _, heap_setCell_same (hM8.keep HO.out) _, dirty_fin HINS.out (by omega) hv8, hM8.ofNil.setCell _ _ (fun _ => rfl)⟩
      refine till_cons (i := 10) rfl (fun K hK => ?_) till_nil
      (try dsimp (config := { proj := false }) only [g0, g1, g2])
      go_simp
      refine hK.out _ _ (fun _ => HCB.out _ (((Mod.refl nil wr).alloc _).drew)) ?_
      clear hK K
      (try simp only [Act.put, pT])
      refine rT 1 (fun K hK => ?_)
      go_simp
      refine hK.out _ _ (fun _ => HCB.out _ ((((Mod.refl nil wr).alloc _).alloc _).drew)) ?_
      clear hK K
      (try simp only [Act.put, pT])
      have hv := (vec_empty_at (wr.alloc (.cells #[.int .i64 i] 3)) 3 1 (wr.heap.size + 1) (by simp)).modNil (Mod.refl nil _).drew
      have hB := ((cells_one_at wr 3 (.int .i64 i) _ rfl).modNil ((Mod.refl nil _).alloc (.cells #[] 3))).modNil (Mod.refl nil _).drew
      have hM := (((Mod.refl nil wr).alloc (.cells #[.int .i64 i] 3)).alloc (.cells #[] 3)).drew
      have hG : wr.heap.size ≤ wr.heap.size + 1 := Nat.le_succ _
      refine rT 8 (fun K hK => ?_)
      refine step_append_vec rfl _ _ _ rfl 3 i0 (.int .i64 0) 1 8 Tryz.underlying90 hi hz0 hz1 hz2 rfl (by omega) _ 0 [] rfl hv _ 0 _ rfl (HT.out.modNil hM) (by simp [HLK.out]) (fun u hu => ints_one l u (List.mem_of_mem_take hu)) (by unfold maxLen; omega) (by omega) ?_
      intro v6 w6 hv6 hm6
      rw [Nat.zero_add, List.nil_append] at hv6
      obtain ⟨p6, c6, rfl⟩ := hv6.form
      have hM6 : Mod nil wr w6 := hM.new hm6 (fun j hj => by rw [hj]; exact hG)
      replace hv6 := hv6.mono (T := fun j => wr.heap.size ≤ j) (fun j _ hj => by
        rcases hj with hj | hj
        · rw [hj]; exact hG
        · exact Nat.le_trans hM.size hj)
      replace hB := hB.mod hm6 (fun j _ hj e => by omega)
      refine hK.out _ _ (fun _ => HCB.out _ hM6) ?_
      clear hK K
      (try simp only [Act.put, pT])
      refine rT 11 (fun K hK => ?_)
      refine step_append_vec (S := fun j => wr.heap.size ≤ j) rfl _ _ _ rfl 3 i0 (.int .i64 0) 1 8 Tryz.underlying90 hi hz0 hz1 hz2 rfl (by omega) _ 0 ((l.map (Value.int .i64)).take 0) rfl hv6 _ 1 [Value.int IntKind.i64 i] rfl hB rfl (by simp [Value.oneCell']) (by unfold maxLen; omega) (by omega) ?_
      intro v7 w7 hv7 hm7
      obtain ⟨p7, c7, rfl⟩ := hv7.form
      have hM7 : Mod nil wr w7 := hM6.new hm7 (fun j hj => hj)
      replace hv7 := hv7.mono (T := fun j => wr.heap.size ≤ j) (fun j _ hj => by
        rcases hj with hj | hj
        · exact hj
        · exact Nat.le_trans hM6.size hj)
      refine hK.out _ _ (fun _ => HCB.out _ hM7) ?_
      clear hK K
      (try simp only [Act.put, pT])
      refine rT 18 (fun K hK => ?_)
      refine step_append_vec (S := fun j => wr.heap.size ≤ j) rfl _ _ _ rfl 3 i0 (.int .i64 0) 1 8 Tryz.underlying90 hi hz0 hz1 hz2 rfl (by omega) _ (0 + 1) ((l.map (Value.int .i64)).take 0 ++ [Value.int IntKind.i64 i]) rfl hv7 _ (0) _ rfl (HD.out.modNil hM7) (by simp [HN.out]) (fun u hu => ints_one l u (List.mem_of_mem_drop hu)) (by unfold maxLen; omega) (by omega) ?_
      intro v8 w8 hv8 hm8
      rw [show 0 + 1 + (0) = 0 + 1 by omega] at hv8
      obtain ⟨p8, c8, rfl⟩ := hv8.form
      have hM8 : Mod nil wr w8 := hM7.new hm8 (fun j hj => hj)
      replace hv8 := hv8.mono (T := fun j => wr.heap.size ≤ j) (fun j _ hj => by
        rcases hj with hj | hj
        · exact hj
        · exact Nat.le_trans hM7.size hj)
      refine hK.out _ _ (fun _ => HCB.out _ hM8) ?_
      clear hK K
      (try simp only [Act.put, pT])
      refine rT 19 (fun K hK => ?_)
      go_simp
      refine hK.out _ _ (fun _ => HCB.out _ hM8) ?_
      clear hK K
      (try simp only [Act.put, pT])
      refine rT 20 (fun K hK => ?_)
      go_simp
      refine hK.out _ _ (fun _ => HCB.out _ hM8) ?_
      clear hK K
      (try simp only [Act.put, pT])
      have cb8 := HCB.out _ hM8
      have fb8 : w8.frozen? ⟨b, 2, none⟩ = false := free_of (hM8.keep HO.out) 2
      refine rT 21 (fun K hK => ?_)
      go_simp
      refine hK.out _ _ (fun h => (by simp at h)) ?_
      clear hK K
      (try simp only [Act.put, pT])
      refine till_done (by kernel_rfl) ?_ _
      go_wp2_with fail
      go_end0
      exact ⟨rfl, _, heap_setCell_same (hM8.keep HO.out) _, dirty_fin HINS.out (by omega) hv8, hM8.ofNil.setCell _ _ (fun _ => rfl)⟩
  · rw [hn] at ho hr hnc
    have c2 : w.cell? ⟨b, 2, none⟩ = some (.slice (some ⟨g, 0, none⟩) n c) := cell_of ho 2
    have f2 : w.frozen? ⟨b, 2, none⟩ = false := free_of ho 2
    have hrow := hr.row
    have HN := Lib.hid hn
    have HS := Lib.hid hs
    have HROW := Lib.hid hrow
    clear ho hn hs hr hrow
    go_enter Tryz.func45, Tryz.ntmps45
    go_wp2_with fail
    go_loopw [4] (fun v wr => ∃ k : Nat, k ≤ n ∧ v = .int .i64 k ∧ wr = w ∧ ∀ j, j < k → l.getD j 0 < i) (fun v _ => n - (intOf v).toNat)
    case atStart => exact ⟨0, by omega, rfl, rfl, fun j hj => by omega⟩
    case round =>
      obtain ⟨k, hk, rfl, rfl, hall⟩ := hrel
      have HALL := Lib.hid hall
      clear hall
      have hbw : b < wr.heap.size := heap_lt HO.out
      by_cases hlt : k < n
      · obtain ⟨x, hx⟩ : ∃ x, l.getD k 0 = x := ⟨_, rfl⟩
        have hcx : wr.cell? ⟨g, k, none⟩ = some (.int .i64 x) := by
          obtain ⟨p', c', hv, hc⟩ := HROW.out
          have hkl : k < l.length := by have := HN.out; omega
          obtain ⟨b', off, hp, _, _, hcell⟩ := hc k (by simpa using hkl)
          simp only [Value.slice.injEq] at hv
          obtain ⟨rfl, -, rfl⟩ := hv
          simp only [Option.some.injEq, Addr.mk.injEq, and_true] at hp
          obtain ⟨rfl, rfl⟩ := hp
          rw [Nat.zero_add] at hcell
          rw [hcell, ← hx]
          simp [hkl]
        have HX := Lib.hid hx
        clear hx
        rcases (show x < i ∨ x = i ∨ i < x by omega) with hxi | hxi | hxi
        · go_wp2_with fail
          refine ⟨⟨k + 1, by omega, by go_num, trivial, fun j hj => ?_⟩, by simp [intOf]; omega⟩
          by_cases hjk : j = k
          · subst hjk; rw [HX.out]; exact hxi
          · exact HALL.out j (by omega)
        · subst hxi
          go_wp2_with fail
          (try simp only [Exit.inBlock, Exit.then]); refine bodyPost_ret (results_none rfl _ _ _) rfl ?_
          refine ⟨rfl, _, by rw [HO.out, HN.out], ?_, Mod.refl _ _⟩
          have hm : x ∈ l := by
            rw [← HX.out]
            have := HN.out
            simp [show k < l.length by omega]
          rw [insD, if_pos hm]
          have := HR.out.mono (fun j _ h => (Or.inl h : P j ∨ wr.heap.size ≤ j))
          rw [HN.out] at this ⊢
          exact this
        · have ca1 : ∀ o, (wr.alloc o).cell? ⟨b, 2, none⟩ = some (.slice (some ⟨g, 0, none⟩) n c) := fun o => cell_kept c2 ((Mod.refl nil wr).alloc o) hbw (not_nil _)
          have ca2 : ∀ o o', ((wr.alloc o).alloc o').cell? ⟨b, 2, none⟩ = some (.slice (some ⟨g, 0, none⟩) n c) := fun o o' => cell_kept c2 (((Mod.refl nil wr).alloc o).alloc o') hbw (not_nil _)
          have hkc : k ≤ c := by omega
          have hkc' : ¬ c = k := by omega
          go_wp2_with fail
          obtain ⟨i0, hi, hz0, hz1, hz2⟩ := HI.out
          have HINS := Lib.hid (And.intro (insD_at l i k HS.out (by have := HN.out; omega) HALL.out (fun _ => by rw [HX.out]; exact hxi)) HN.out)
          have HT := Lib.hid (HROW.out.takeCells k c)
          have hlk : ((l.map (Value.int .i64)).take k).length = k := by have := HN.out; simp; omega
          have HLK := Lib.hid hlk
          have hdr := HROW.out.dropCells k (n - k) (c - k)
          rw [Nat.zero_add] at hdr
          have HD := Lib.hid hdr
          clear hlk hdr
          refine region_till (fun w' => w'.cell? ⟨b, 2, none⟩ = some (.slice (some ⟨g, 0, none⟩) n c)) 21 (by kernel_rfl) ?_
          refine sT 0 (c2) ?_
          refine sT 2 (c2) ?_
          refine sT 3 (c2) ?_
          refine sT 4 (c2) ?_
          refine sT 5 (c2) ?_
          refine sT 6 (c2) ?_
          refine sT 7 (c2) ?_
          refine sT 9 (c2) ?_
          refine sT 12 (c2) ?_
          refine sT 13 (c2) ?_
          refine sT 14 (c2) ?_
          refine sT 15 (c2) ?_
          refine sT 16 (c2) ?_
          refine sT 17 (c2) ?_
          have HCB : Hid (∀ W, Mod nil wr W → W.cell? ⟨b, 2, none⟩ = some (.slice (some ⟨g, 0, none⟩) n c)) := Lib.hid (fun W hW => cell_kept c2 hW hbw (not_nil _))
          refine till_ready (rs := [1, 10]) (by kernel_rfl) (by simp) ?_
          refine till_cons (i := 1) rfl (fun K hK => ?_) ?_
          · (try dsimp (config := { proj := false }) only [g0, g1, g2])
            go_simp
            refine hK.out _ _ (fun _ => HCB.out _ (((Mod.refl nil wr).alloc _).drew)) ?_
            clear hK K
            (try simp only [Act.put, pT])
            have hv := (vec_empty_at wr 3 1 _ rfl).modNil (Mod.refl nil _).drew
            have hM := ((Mod.refl nil wr).alloc (.cells #[] 3)).drew
            have hG : wr.heap.size ≤ wr.heap.size := Nat.le_refl _
            refine till_ready (rs := [8, 10]) (by kernel_rfl) (by simp) ?_
            refine till_cons (i := 8) rfl (fun K hK => ?_) ?_
            · (try dsimp (config := { proj := false }) only [g0, g1, g2])
              refine step_append_vec rfl _ _ _ rfl 3 i0 (.int .i64 0) 1 8 Tryz.underlying90 hi hz0 hz1 hz2 rfl (by omega) _ 0 [] rfl hv _ k _ rfl (HT.out.modNil hM) (by simp [HLK.out]) (fun u hu => ints_one l u (List.mem_of_mem_take hu)) (by unfold maxLen; omega) (by omega) ?_
              intro v6 w6 hv6 hm6
              rw [Nat.zero_add, List.nil_append] at hv6
              obtain ⟨p6, c6, rfl⟩ := hv6.form
              have hM6 : Mod nil wr w6 := hM.new hm6 (fun j hj => by rw [hj]; exact hG)
              replace hv6 := hv6.mono (T := fun j => wr.heap.size ≤ j) (fun j _ hj => by
                rcases hj with hj | hj
                · rw [hj]; exact hG
                · exact Nat.le_trans hM.size hj)
              refine hK.out _ _ (fun _ => HCB.out _ hM6) ?_
              clear hK K
              (try simp only [Act.put, pT])
              refine rT 10 (fun K hK => ?_)
              go_simp
              refine hK.out _ _ (fun _ => HCB.out _ (hM6.alloc _)) ?_
              clear hK K
              (try simp only [Act.put, pT])
              have hB := cells_one_at w6 3 (.int .i64 i) _ rfl
              replace hv6 := hv6.modNil ((Mod.refl nil w6).alloc (.cells #[.int .i64 i] 3))
              replace hM6 := hM6.alloc (.cells #[.int .i64 i] 3)
              refine rT 11 (fun K hK => ?_)
              refine step_append_vec (S := fun j => wr.heap.size ≤ j) rfl _ _ _ rfl 3 i0 (.int .i64 0) 1 8 Tryz.underlying90 hi hz0 hz1 hz2 rfl (by omega) _ k ((l.map (Value.int .i64)).take k) rfl hv6 _ 1 [Value.int IntKind.i64 i] rfl hB rfl (by simp [Value.oneCell']) (by unfold maxLen; omega) (by omega) ?_
              intro v7 w7 hv7 hm7
              obtain ⟨p7, c7, rfl⟩ := hv7.form
              have hM7 : Mod nil wr w7 := hM6.new hm7 (fun j hj => hj)
              replace hv7 := hv7.mono (T := fun j => wr.heap.size ≤ j) (fun j _ hj => by
                rcases hj with hj | hj
                · exact hj
                · exact Nat.le_trans hM6.size hj)
              refine hK.out _ _ (fun _ => HCB.out _ hM7) ?_
              clear hK K
              (try simp only [Act.put, pT])
              refine rT 18 (fun K hK => ?_)
              refine step_append_vec (S := fun j => wr.heap.size ≤ j) rfl _ _ _ rfl 3 i0 (.int .i64 0) 1 8 Tryz.underlying90 hi hz0 hz1 hz2 rfl (by omega) _ (k + 1) ((l.map (Value.int .i64)).take k ++ [Value.int IntKind.i64 i]) rfl hv7 _ (n - k) _ rfl (HD.out.modNil hM7) (by simp [HN.out]) (fun u hu => ints_one l u (List.mem_of_mem_drop hu)) (by unfold maxLen; omega) (by omega) ?_
              intro v8 w8 hv8 hm8
              rw [show k + 1 + (n - k) = n + 1 by omega] at hv8
              obtain ⟨p8, c8, rfl⟩ := hv8.form
              have hM8 : Mod nil wr w8 := hM7.new hm8 (fun j hj => hj)
              replace hv8 := hv8.mono (T := fun j => wr.heap.size ≤ j) (fun j _ hj => by
                rcases hj with hj | hj
                · exact hj
                · exact Nat.le_trans hM7.size hj)
              refine hK.out _ _ (fun _ => HCB.out _ hM8) ?_
              clear hK K
              (try simp only [Act.put, pT])
              refine rT 19 (fun K hK => ?_)
              go_simp
              refine hK.out _ _ (fun _ => HCB.out _ hM8) ?_
              clear hK K
              (try simp only [Act.put, pT])
              refine rT 20 (fun K hK => ?_)
              go_simp
              refine hK.out _ _ (fun _ => HCB.out _ hM8) ?_
              clear hK K
              (try simp only [Act.put, pT])
              have cb8 := HCB.out _ hM8
              have fb8 : w8.frozen? ⟨b, 2, none⟩ = false := free_of (hM8.keep HO.out) 2
              refine rT 21 (fun K hK => ?_)
              go_simp
              refine hK.out _ _ (fun h => (by simp at h)) ?_
              clear hK K
              (try simp only [Act.put, pT])
              refine till_done (by kernel_rfl) ?_ _
              go_wp2_with fail
              go_end0
              exact ⟨rfl, _, heap_setCell_same (hM8.keep HO.out) _, dirty_fin HINS.out (by omega) hv8, hM8.ofNil.setCell _ _ (fun _ => rfl)⟩
            refine till_cons (i := 10) rfl (fun K hK => ?_) till_nil
            (try dsimp (config := { proj := false }) only [g0, g1, g2])
            go_simp
            refine hK.out _ _ (fun _ => HCB.out _ ((((Mod.refl nil wr).alloc _).alloc _).drew)) ?_
            clear hK K
            (try simp only [Act.put, pT])
            have hB := (cells_one_at (wr.alloc (.cells #[] 3)) 3 (.int .i64 i) (wr.heap.size + 1) (by simp)).modNil (Mod.refl nil _).drew
            replace hv := ((vec_empty_at wr 3 1 _ rfl).modNil ((Mod.refl nil _).alloc (.cells #[.int .i64 i] 3))).modNil (Mod.refl nil _).drew
            replace hM := (((Mod.refl nil wr).alloc (.cells #[] 3)).alloc (.cells #[.int .i64 i] 3)).drew
            refine rT 8 (fun K hK => ?_)
            refine step_append_vec rfl _ _ _ rfl 3 i0 (.int .i64 0) 1 8 Tryz.underlying90 hi hz0 hz1 hz2 rfl (by omega) _ 0 [] rfl hv _ k _ rfl (HT.out.modNil hM) (by simp [HLK.out]) (fun u hu => ints_one l u (List.mem_of_mem_take hu)) (by unfold maxLen; omega) (by omega) ?_
            intro v6 w6 hv6 hm6
            rw [Nat.zero_add, List.nil_append] at hv6
            obtain ⟨p6, c6, rfl⟩ := hv6.form
            have hM6 : Mod nil wr w6 := hM.new hm6 (fun j hj => by rw [hj]; exact hG)
            replace hv6 := hv6.mono (T := fun j => wr.heap.size ≤ j) (fun j _ hj => by
              rcases hj with hj | hj
              · rw [hj]; exact hG
              · exact Nat.le_trans hM.size hj)
            replace hB := hB.mod hm6 (fun j _ hj e => by omega)
            refine hK.out _ _ (fun _ => HCB.out _ hM6) ?_
            clear hK K
            (try simp only [Act.put, pT])
            refine rT 11 (fun K hK => ?_)
            refine step_append_vec (S := fun j => wr.heap.size ≤ j) rfl _ _ _ rfl 3 i0 (.int .i64 0) 1 8 Tryz.underlying90 hi hz0 hz1 hz2 rfl (by omega) _ k ((l.map (Value.int .i64)).take k) rfl hv6 _ 1 [Value.int IntKind.i64 i] rfl hB rfl (by simp [Value.oneCell']) (by unfold maxLen; omega) (by omega) ?_
            intro v7 w7 hv7 hm7
            obtain ⟨p7, c7, rfl⟩ := hv7.form
            have hM7 : Mod nil wr w7 := hM6.new hm7 (fun j hj => hj)
            replace hv7 := hv7.mono (T := fun j => wr.heap.size ≤ j) (fun j _ hj => by
              rcases hj with hj | hj
              · exact hj
              · exact Nat.le_trans hM6.size hj)
            refine hK.out _ _ (fun _ => HCB.out _ hM7) ?_
            clear hK K
            (try simp only [Act.put, pT])
            refine rT 18 (fun K hK => ?_)
            refine step_append_vec (S := fun j => wr.heap.size ≤ j) rfl _ _ _ rfl 3 i0 (.int .i64 0) 1 8 Tryz.underlying90 hi hz0 hz1 hz2 rfl (by omega) _ (k + 1) ((l.map (Value.int .i64)).take k ++ [Value.int IntKind.i64 i]) rfl hv7 _ (n - k) _ rfl (HD.out.modNil hM7) (by simp [HN.out]) (fun u hu => ints_one l u (List.mem_of_mem_drop hu)) (by unfold maxLen; omega) (by omega) ?_
            intro v8 w8 hv8 hm8
            rw [show k + 1 + (n - k) = n + 1 by omega] at hv8
            obtain ⟨p8, c8, rfl⟩ := hv8.form
            have hM8 : Mod nil wr w8 := hM7.new hm8 (fun j hj => hj)
            replace hv8 := hv8.mono (T := fun j => wr.heap.size ≤ j) (fun j _ hj => by
              rcases hj with hj | hj
              · exact hj
              · exact Nat.le_trans hM7.size hj)
            refine hK.out _ _ (fun _ => HCB.out _ hM8) ?_
            clear hK K
            (try simp only [Act.put, pT])
            refine rT 19 (fun K hK => ?_)
            go_simp
            refine hK.out _ _ (fun _ => HCB.out _ hM8) ?_
            clear hK K
            (try simp only [Act.put, pT])
            refine rT 20 (fun K hK => ?_)
            go_simp
            refine hK.out _ _ (fun _ => HCB.out _ hM8) ?_
            clear hK K
            (try simp only [Act.put, pT])
            have cb8 := HCB.out _ hM8
            have fb8 : w8.frozen? ⟨b, 2, none⟩ = false := free_of (hM8.keep HO.out) 2
            refine rT 21 (fun K hK => ?_)
            go_simp
            refine hK.out _ _ (fun h => (by simp at h)) ?_
            clear hK K
            (try simp only [Act.put, pT])
            refine till_done (by kernel_rfl) ?_ _
            go_wp2_with fail
            go_end0
            exact ⟨rfl, _, heap_setCell_same (hM8.keep HO.out) _, dirty_fin HINS.out (by omega) hv8, hM8.ofNil.setCell _ _ (fun _ => rfl)⟩
          refine till_cons (i := 10) rfl (fun K hK => ?_) till_nil
          (try dsimp (config := { proj := false }) only [g0, g1, g2])
          go_simp
          refine hK.out _ _ (fun _ => HCB.out _ (((Mod.refl nil wr).alloc _).drew)) ?_
          clear hK K
          (try simp only [Act.put, pT])
          refine rT 1 (fun K hK => ?_)
          go_simp
          refine hK.out _ _ (fun _ => HCB.out _ ((((Mod.refl nil wr).alloc _).alloc _).drew)) ?_
          clear hK K
          (try simp only [Act.put, pT])
          have hv := (vec_empty_at (wr.alloc (.cells #[.int .i64 i] 3)) 3 1 (wr.heap.size + 1) (by simp)).modNil (Mod.refl nil _).drew
          have hB := ((cells_one_at wr 3 (.int .i64 i) _ rfl).modNil ((Mod.refl nil _).alloc (.cells #[] 3))).modNil (Mod.refl nil _).drew
          have hM := (((Mod.refl nil wr).alloc (.cells #[.int .i64 i] 3)).alloc (.cells #[] 3)).drew
          have hG : wr.heap.size ≤ wr.heap.size + 1 := Nat.le_succ _
          refine rT 8 (fun K hK => ?_)
          refine step_append_vec rfl _ _ _ rfl 3 i0 (.int .i64 0) 1 8 Tryz.underlying90 hi hz0 hz1 hz2 rfl (by omega) _ 0 [] rfl hv _ k _ rfl (HT.out.modNil hM) (by simp [HLK.out]) (fun u hu => ints_one l u (List.mem_of_mem_take hu)) (by unfold maxLen; omega) (by omega) ?_
          intro v6 w6 hv6 hm6
          rw [Nat.zero_add, List.nil_append] at hv6
          obtain ⟨p6, c6, rfl⟩ := hv6.form
          have hM6 : Mod nil wr w6 := hM.new hm6 (fun j hj => by rw [hj]; exact hG)
          replace hv6 := hv6.mono (T := fun j => wr.heap.size ≤ j) (fun j _ hj => by
            rcases hj with hj | hj
            · rw [hj]; exact hG
            · exact Nat.le_trans hM.size hj)
          replace hB := hB.mod hm6 (fun j _ hj e => by omega)
          refine hK.out _ _ (fun _ => HCB.out _ hM6) ?_
          clear hK K
          (try simp only [Act.put, pT])
          refine rT 11 (fun K hK => ?_)
          refine step_append_vec (S := fun j => wr.heap.size ≤ j) rfl _ _ _ rfl 3 i0 (.int .i64 0) 1 8 Tryz.underlying90 hi hz0 hz1 hz2 rfl (by omega) _ k ((l.map (Value.int .i64)).take k) rfl hv6 _ 1 [Value.int IntKind.i64 i] rfl hB rfl (by simp [Value.oneCell']) (by unfold maxLen; omega) (by omega) ?_
          intro v7 w7 hv7 hm7
          obtain ⟨p7, c7, rfl⟩ := hv7.form
          have hM7 : Mod nil wr w7 := hM6.new hm7 (fun j hj => hj)
          replace hv7 := hv7.mono (T := fun j => wr.heap.size ≤ j) (fun j _ hj => by
            rcases hj with hj | hj
            · exact hj
            · exact Nat.le_trans hM6.size hj)
          refine hK.out _ _ (fun _ => HCB.out _ hM7) ?_
          clear hK K
          (try simp only [Act.put, pT])
          refine rT 18 (fun K hK => ?_)
          refine step_append_vec (S := fun j => wr.heap.size ≤ j) rfl _ _ _ rfl 3 i0 (.int .i64 0) 1 8 Tryz.underlying90 hi hz0 hz1 hz2 rfl (by omega) _ (k + 1) ((l.map (Value.int .i64)).take k ++ [Value.int IntKind.i64 i]) rfl hv7 _ (n - k) _ rfl (HD.out.modNil hM7) (by simp [HN.out]) (fun u hu => ints_one l u (List.mem_of_mem_drop hu)) (by unfold maxLen; omega) (by omega) ?_
          intro v8 w8 hv8 hm8
          rw [show k + 1 + (n - k) = n + 1 by omega] at hv8
          obtain ⟨p8, c8, rfl⟩ := hv8.form
          have hM8 : Mod nil wr w8 := hM7.new hm8 (fun j hj => hj)
          replace hv8 := hv8.mono (T := fun j => wr.heap.size ≤ j) (fun j _ hj => by
            rcases hj with hj | hj
            · exact hj
            · exact Nat.le_trans hM7.size hj)
          refine hK.out _ _ (fun _ => HCB.out _ hM8) ?_
          clear hK K
          (try simp only [Act.put, pT])
          refine rT 19 (fun K hK => ?_)
          go_simp
          refine hK.out _ _ (fun _ => HCB.out _ hM8) ?_
          clear hK K
          (try simp only [Act.put, pT])
          refine rT 20 (fun K hK => ?_)
          go_simp
          refine hK.out _ _ (fun _ => HCB.out _ hM8) ?_
          clear hK K
          (try simp only [Act.put, pT])
          have cb8 := HCB.out _ hM8
          have fb8 : w8.frozen? ⟨b, 2, none⟩ = false := free_of (hM8.keep HO.out) 2
          refine rT 21 (fun K hK => ?_)
          go_simp
          refine hK.out _ _ (fun h => (by simp at h)) ?_
          clear hK K
          (try simp only [Act.put, pT])
          refine till_done (by kernel_rfl) ?_ _
          go_wp2_with fail
          go_end0
          exact ⟨rfl, _, heap_setCell_same (hM8.keep HO.out) _, dirty_fin HINS.out (by omega) hv8, hM8.ofNil.setCell _ _ (fun _ => rfl)⟩
      · obtain rfl : k = n := by omega
        obtain ⟨i0, hi, hz0, hz1, hz2⟩ := HI.out
        have HINS := Lib.hid (And.intro (insD_at l i k HS.out (by have := HN.out; omega) HALL.out (fun h => by have := HN.out; omega)) HN.out)
        have HT := Lib.hid (HROW.out.takeCells k c)
        have hlk : ((l.map (Value.int .i64)).take k).length = k := by have := HN.out; simp; omega
        have HLK := Lib.hid hlk
        have hdr : (l.map (Value.int .i64)).drop k = [] := by have := HN.out; simp; omega
        have hkc : k ≤ c := by omega
        clear hlk
        rcases (show c = k ∨ ¬ c = k by omega) with hck | hck
        · have HD : Hid (IsCells P wr (.slice (some ⟨g, 0, none⟩) 0 (c - k)) 0 ((l.map (Value.int .i64)).drop k)) := Lib.hid (by rw [hdr]; exact cells_none _ _ _)
          clear hdr
          subst hck
          replace HD := Lib.hid (show IsCells P wr (.slice (some ⟨g, 0, none⟩) 0 0) 0 ((l.map (Value.int .i64)).drop c) from by have := HD.out; rwa [Nat.sub_self] at this)
          go_wp2_with fail
          refine region_till (fun w' => w'.cell? ⟨b, 2, none⟩ = some (.slice (some ⟨g, 0, none⟩) c c)) 21 (by kernel_rfl) ?_
          refine sT 0 (c2) ?_
          refine sT 2 (c2) ?_
          refine sT 3 (c2) ?_
          refine sT 4 (c2) ?_
          refine sT 5 (c2) ?_
          refine sT 6 (c2) ?_
          refine sT 7 (c2) ?_
          refine sT 9 (c2) ?_
          refine sT 12 (c2) ?_
          refine sT 13 (c2) ?_
          refine sT 14 (c2) ?_
          refine sT 15 (c2) ?_
          refine sT 16 (c2) ?_
          refine sT 17 (c2) ?_
          have HCB : Hid (∀ W, Mod nil wr W → W.cell? ⟨b, 2, none⟩ = some (.slice (some ⟨g, 0, none⟩) c c)) := Lib.hid (fun W hW => cell_kept c2 hW hbw (not_nil _))
          refine till_ready (rs := [1, 10]) (by kernel_rfl) (by simp) ?_
          refine till_cons (i := 1) rfl (fun K hK => ?_) ?_
          · (try dsimp (config := { proj := false }) only [g0, g1, g2])
            go_simp
            refine hK.out _ _ (fun _ => HCB.out _ (((Mod.refl nil wr).alloc _).drew)) ?_
            clear hK K
            (try simp only [Act.put, pT])
            have hv := (vec_empty_at wr 3 1 _ rfl).modNil (Mod.refl nil _).drew
            have hM := ((Mod.refl nil wr).alloc (.cells #[] 3)).drew
            have hG : wr.heap.size ≤ wr.heap.size := Nat.le_refl _
            refine till_ready (rs := [8, 10]) (by kernel_rfl) (by simp) ?_
            refine till_cons (i := 8) rfl (fun K hK => ?_) ?_
            · (try dsimp (config := { proj := false }) only [g0, g1, g2])
              refine step_append_vec rfl _ _ _ rfl 3 i0 (.int .i64 0) 1 8 Tryz.underlying90 hi hz0 hz1 hz2 rfl (by omega) _ 0 [] rfl hv _ c _ rfl (HT.out.modNil hM) (by simp [HLK.out]) (fun u hu => ints_one l u (List.mem_of_mem_take hu)) (by unfold maxLen; omega) (by omega) ?_
              intro v6 w6 hv6 hm6
              rw [Nat.zero_add, List.nil_append] at hv6
              obtain ⟨p6, c6, rfl⟩ := hv6.form
              have hM6 : Mod nil wr w6 := hM.new hm6 (fun j hj => by rw [hj]; exact hG)
              replace hv6 := hv6.mono (T := fun j => wr.heap.size ≤ j) (fun j _ hj => by
                rcases hj with hj | hj
                · rw [hj]; exact hG
                · exact Nat.le_trans hM.size hj)
              refine hK.out _ _ (fun _ => HCB.out _ hM6) ?_
              clear hK K
              (try simp only [Act.put, pT])
              refine rT 10 (fun K hK => ?_)
              go_simp
              refine hK.out _ _ (fun _ => HCB.out _ (hM6.alloc _)) ?_
              clear hK K
              (try simp only [Act.put, pT])
              have hB := cells_one_at w6 3 (.int .i64 i) _ rfl
              replace hv6 := hv6.modNil ((Mod.refl nil w6).alloc (.cells #[.int .i64 i] 3))
              replace hM6 := hM6.alloc (.cells #[.int .i64 i] 3)
              refine rT 11 (fun K hK => ?_)
              refine step_append_vec (S := fun j => wr.heap.size ≤ j) rfl _ _ _ rfl 3 i0 (.int .i64 0) 1 8 Tryz.underlying90 hi hz0 hz1 hz2 rfl (by omega) _ c ((l.map (Value.int .i64)).take c) rfl hv6 _ 1 [Value.int IntKind.i64 i] rfl hB rfl (by simp [Value.oneCell']) (by unfold maxLen; omega) (by omega) ?_
              intro v7 w7 hv7 hm7
              obtain ⟨p7, c7, rfl⟩ := hv7.form
              have hM7 : Mod nil wr w7 := hM6.new hm7 (fun j hj => hj)
              replace hv7 := hv7.mono (T := fun j => wr.heap.size ≤ j) (fun j _ hj => by
                rcases hj with hj | hj
                · exact hj
                · exact Nat.le_trans hM6.size hj)
              refine hK.out _ _ (fun _ => HCB.out _ hM7) ?_
              clear hK K
              (try simp only [Act.put, pT])
              refine rT 18 (fun K hK => ?_)
              refine step_append_vec (S := fun j => wr.heap.size ≤ j) rfl _ _ _ rfl 3 i0 (.int .i64 0) 1 8 Tryz.underlying90 hi hz0 hz1 hz2 rfl (by omega) _ (c + 1) ((l.map (Value.int .i64)).take c ++ [Value.int IntKind.i64 i]) rfl hv7 _ (0) _ rfl (HD.out.modNil hM7) (by simp [HN.out]) (fun u hu => ints_one l u (List.mem_of_mem_drop hu)) (by unfold maxLen; omega) (by omega) ?_
              intro v8 w8 hv8 hm8
              rw [show c + 1 + (0) = c + 1 by omega] at hv8
              obtain ⟨p8, c8, rfl⟩ := hv8.form
              have hM8 : Mod nil wr w8 := hM7.new hm8 (fun j hj => hj)
              replace hv8 := hv8.mono (T := fun j => wr.heap.size ≤ j) (fun j _ hj => by
                rcases hj with hj | hj
                · exact hj
                · exact Nat.le_trans hM7.size hj)
              refine hK.out _ _ (fun _ => HCB.out _ hM8) ?_
              clear hK K
              (try simp only [Act.put, pT])
              refine rT 19 (fun K hK => ?_)
              go_simp
              refine hK.out _ _ (fun _ => HCB.out _ hM8) ?_
              clear hK K
              (try simp only [Act.put, pT])
              refine rT 20 (fun K hK => ?_)
              go_simp
              refine hK.out _ _ (fun _ => HCB.out _ hM8) ?_
              clear hK K
              (try simp only [Act.put, pT])
              have cb8 := HCB.out _ hM8
              have fb8 : w8.frozen? ⟨b, 2, none⟩ = false := free_of (hM8.keep HO.out) 2
              refine rT 21 (fun K hK => ?_)
              go_simp
              refine hK.out _ _ (fun h => (by simp at h)) ?_
              clear hK K
              (try simp only [Act.put, pT])
              refine till_done (by kernel_rfl) ?_ _
              go_wp2_with fail
              go_end0
              exact ⟨rfl, _, heap_setCell_same (hM8.keep HO.out) _, dirty_fin HINS.out (by omega) hv8, hM8.ofNil.setCell _ _ (fun _ => rfl)⟩
            refine till_cons (i := 10) rfl (fun K hK => ?_) till_nil
            (try dsimp (config := { proj := false }) only [g0, g1, g2])
            go_simp
            refine hK.out _ _ (fun _ => HCB.out _ ((((Mod.refl nil wr).alloc _).alloc _).drew)) ?_
            clear hK K
            (try simp only [Act.put, pT])
            have hB := (cells_one_at (wr.alloc (.cells #[] 3)) 3 (.int .i64 i) (wr.heap.size + 1) (by simp)).modNil (Mod.refl nil _).drew
            replace hv := ((vec_empty_at wr 3 1 _ rfl).modNil ((Mod.refl nil _).alloc (.cells #[.int .i64 i] 3))).modNil (Mod.refl nil _).drew
            replace hM := (((Mod.refl nil wr).alloc (.cells #[] 3)).alloc (.cells #[.int .i64 i] 3)).drew
            refine rT 8 (fun K hK => ?_)
            refine step_append_vec rfl _ _ _ rfl 3 i0 (.int .i64 0) 1 8 Tryz.underlying90 hi hz0 hz1 hz2 rfl (by omega) _ 0 [] rfl hv _ c _ rfl (HT.out.modNil hM) (by simp [HLK.out]) (fun u hu => ints_one l u (List.mem_of_mem_take hu)) (by unfold maxLen; omega) (by omega) ?_
            intro v6 w6 hv6 hm6
            rw [Nat.zero_add, List.nil_append] at hv6
            obtain ⟨p6, c6, rfl⟩ := hv6.form
            have hM6 : Mod nil wr w6 := hM.new hm6 (fun j hj => by rw [hj]; exact hG)
            replace hv6 := hv6.mono (T := fun j => wr.heap.size ≤ j) (fun j _ hj => by
              rcases hj with hj | hj
              · rw [hj]; exact hG
              · exact Nat.le_trans hM.size hj)
            replace hB := hB.mod hm6 (fun j _ hj e => by omega)
            refine hK.out _ _ (fun _ => HCB.out _ hM6) ?_
            clear hK K
            (try simp only [Act.put, pT])
            refine rT 11 (fun K hK => ?_)
            refine step_append_vec (S := fun j => wr.heap.size ≤ j) rfl _ _ _ rfl 3 i0 (.int .i64 0) 1 8 Tryz.underlying90 hi hz0 hz1 hz2 rfl (by omega) _ c ((l.map (Value.int .i64)).take c) rfl hv6 _ 1 [Value.int IntKind.i64 i] rfl hB rfl (by simp [Value.oneCell']) (by unfold maxLen; omega) (by omega) ?_
            intro v7 w7 hv7 hm7
            obtain ⟨p7, c7, rfl⟩ := hv7.form
            have hM7 : Mod nil wr w7 := hM6.new hm7 (fun j hj => hj)
            replace hv7 := hv7.mono (T := fun j => wr.heap.size ≤ j) (fun j _ hj => by
              rcases hj with hj | hj
              · exact hj
              · exact Nat.le_trans hM6.size hj)
            refine hK.out _ _ (fun _ => HCB.out _ hM7) ?_
            clear hK K
            (try simp only [Act.put, pT])
            refine rT 18 (fun K hK => ?_)
            refine step_append_vec (S := fun j => wr.heap.size ≤ j) rfl _ _ _ rfl 3 i0 (.int .i64 0) 1 8 Tryz.underlying90 hi hz0 hz1 hz2 rfl (by omega) _ (c + 1) ((l.map (Value.int .i64)).take c ++ [Value.int IntKind.i64 i]) rfl hv7 _ (0) _ rfl (HD.out.modNil hM7) (by simp [HN.out]) (fun u hu => ints_one l u (List.mem_of_mem_drop hu)) (by unfold maxLen; omega) (by omega) ?_
            intro v8 w8 hv8 hm8
            rw [show c + 1 + (0) = c + 1 by omega] at hv8
            obtain ⟨p8, c8, rfl⟩ := hv8.form
            have hM8 : Mod nil wr w8 := hM7.new hm8 (fun j hj => hj)
            replace hv8 := hv8.mono (T := fun j => wr.heap.size ≤ j) (fun j _ hj => by
              rcases hj with hj | hj
              · exact hj
              · exact Nat.le_trans hM7.size hj)
            refine hK.out _ _ (fun _ => HCB.out _ hM8) ?_
            clear hK K
            (try simp only [Act.put, pT])
            refine rT 19 (fun K hK => ?_)
            go_simp
            refine hK.out _ _ (fun _ => HCB.out _ hM8) ?_
            clear hK K
            (try simp only [Act.put, pT])
            refine rT 20 (fun K hK => ?_)
            go_simp
            refine hK.out _ _ (fun _ => HCB.out _ hM8) ?_
            clear hK K
            (try simp only [Act.put, pT])
            have cb8 := HCB.out _ hM8
            have fb8 : w8.frozen? ⟨b, 2, none⟩ = false := free_of (hM8.keep HO.out) 2
            refine rT 21 (fun K hK => ?_)
            go_simp
            refine hK.out _ _ (fun h => (by simp at h)) ?_
            clear hK K
            (try simp only [Act.put, pT])
            refine till_done (by kernel_rfl) ?_ _
            go_wp2_with fail
            go_end0
            exact ⟨rfl, _, heap_setCell_same (hM8.keep HO.out) _, dirty_fin HINS.out (by omega) hv8, hM8.ofNil.setCell _ _ (fun _ => rfl)⟩
          refine till_cons (i := 10) rfl (fun K hK => ?_) till_nil
          (try dsimp (config := { proj := false }) only [g0, g1, g2])
          go_simp
          refine hK.out _ _ (fun _ => HCB.out _ (((Mod.refl nil wr).alloc _).drew)) ?_
          clear hK K
          (try simp only [Act.put, pT])
          refine rT 1 (fun K hK => ?_)
          go_simp
          refine hK.out _ _ (fun _ => HCB.out _ ((((Mod.refl nil wr).alloc _).alloc _).drew)) ?_
          clear hK K
          (try simp only [Act.put, pT])
          have hv := (vec_empty_at (wr.alloc (.cells #[.int .i64 i] 3)) 3 1 (wr.heap.size + 1) (by simp)).modNil (Mod.refl nil _).drew
          have hB := ((cells_one_at wr 3 (.int .i64 i) _ rfl).modNil ((Mod.refl nil _).alloc (.cells #[] 3))).modNil (Mod.refl nil _).drew
          have hM := (((Mod.refl nil wr).alloc (.cells #[.int .i64 i] 3)).alloc (.cells #[] 3)).drew
          have hG : wr.heap.size ≤ wr.heap.size + 1 := Nat.le_succ _
          refine rT 8 (fun K hK => ?_)
          refine step_append_vec rfl _ _ _ rfl 3 i0 (.int .i64 0) 1 8 Tryz.underlying90 hi hz0 hz1 hz2 rfl (by omega) _ 0 [] rfl hv _ c _ rfl (HT.out.modNil hM) (by simp [HLK.out]) (fun u hu => ints_one l u (List.mem_of_mem_take hu)) (by unfold maxLen; omega) (by omega) ?_
          intro v6 w6 hv6 hm6
          rw [Nat.zero_add, List.nil_append] at hv6
          obtain ⟨p6, c6, rfl⟩ := hv6.form
          have hM6 : Mod nil wr w6 := hM.new hm6 (fun j hj => by rw [hj]; exact hG)
          replace hv6 := hv6.mono (T := fun j => wr.heap.size ≤ j) (fun j _ hj => by
            rcases hj with hj | hj
            · rw [hj]; exact hG
            · exact Nat.le_trans hM.size hj)
          replace hB := hB.mod hm6 (fun j _ hj e => by omega)
          refine hK.out _ _ (fun _ => HCB.out _ hM6) ?_
          clear hK K
          (try simp only [Act.put, pT])
          refine rT 11 (fun K hK => ?_)
          refine step_append_vec (S := fun j => wr.heap.size ≤ j) rfl _ _ _ rfl 3 i0 (.int .i64 0) 1 8 Tryz.underlying90 hi hz0 hz1 hz2 rfl (by omega) _ c ((l.map (Value.int .i64)).take c) rfl hv6 _ 1 [Value.int IntKind.i64 i] rfl hB rfl (by simp [Value.oneCell']) (by unfold maxLen; omega) (by omega) ?_
          intro v7 w7 hv7 hm7
          obtain ⟨p7, c7, rfl⟩ := hv7.form
          have hM7 : Mod nil wr w7 := hM6.new hm7 (fun j hj => hj)
          replace hv7 := hv7.mono (T := fun j => wr.heap.size ≤ j) (fun j _ hj => by
            rcases hj with hj | hj
            · exact hj
            · exact Nat.le_trans hM6.size hj)
          refine hK.out _ _ (fun _ => HCB.out _ hM7) ?_
          clear hK K
          (try simp only [Act.put, pT])
          refine rT 18 (fun K hK => ?_)
          refine step_append_vec (S := fun j => wr.heap.size ≤ j) rfl _ _ _ rfl 3 i0 (.int .i64 0) 1 8 Tryz.underlying90 hi hz0 hz1 hz2 rfl (by omega) _ (c + 1) ((l.map (Value.int .i64)).take c ++ [Value.int IntKind.i64 i]) rfl hv7 _ (0) _ rfl (HD.out.modNil hM7) (by simp [HN.out]) (fun u hu => ints_one l u (List.mem_of_mem_drop hu)) (by unfold maxLen; omega) (by omega) ?_
          intro v8 w8 hv8 hm8
          rw [show c + 1 + (0) = c + 1 by omega] at hv8
          obtain ⟨p8, c8, rfl⟩ := hv8.form
          have hM8 : Mod nil wr w8 := hM7.new hm8 (fun j hj => hj)
          replace hv8 := hv8.mono (T := fun j => wr.heap.size ≤ j) (fun j _ hj => by
            rcases hj with hj | hj
            · exact hj
            · exact Nat.le_trans hM7.size hj)
          refine hK.out _ _ (fun _ => HCB.out _ hM8) ?_
          clear hK K
          (try simp only [Act.put, pT])
          refine rT 19 (fun K hK => ?_)
          go_simp
          refine hK.out _ _ (fun _ => HCB.out _ hM8) ?_
          clear hK K
          (try simp only [Act.put, pT])
          refine rT 20 (fun K hK => ?_)
          go_simp
          refine hK.out _ _ (fun _ => HCB.out _ hM8) ?_
          clear hK K
          (try simp only [Act.put, pT])
          have cb8 := HCB.out _ hM8
          have fb8 : w8.frozen? ⟨b, 2, none⟩ = false := free_of (hM8.keep HO.out) 2
          refine rT 21 (fun K hK => ?_)
          go_simp
          refine hK.out _ _ (fun h => (by simp at h)) ?_
          clear hK K
          (try simp only [Act.put, pT])
          refine till_done (by kernel_rfl) ?_ _
          go_wp2_with fail
          go_end0
          exact ⟨rfl, _, heap_setCell_same (hM8.keep HO.out) _, dirty_fin HINS.out (by omega) hv8, hM8.ofNil.setCell _ _ (fun _ => rfl)⟩
        · have HD : Hid (IsCells P wr (.slice (some ⟨g, k, none⟩) 0 (c - k)) 0 ((l.map (Value.int .i64)).drop k)) := Lib.hid (by rw [hdr]; exact cells_none _ _ _)
          clear hdr
          go_wp2_with fail
          refine region_till (fun w' => w'.cell? ⟨b, 2, none⟩ = some (.slice (some ⟨g, 0, none⟩) k c)) 21 (by kernel_rfl) ?_
          refine sT 0 (c2) ?_
          refine sT 2 (c2) ?_
          refine sT 3 (c2) ?_
          refine sT 4 (c2) ?_
          refine sT 5 (c2) ?_
          refine sT 6 (c2) ?_
          refine sT 7 (c2) ?_
          refine sT 9 (c2) ?_
          refine sT 12 (c2) ?_
          refine sT 13 (c2) ?_
          refine sT 14 (c2) ?_
          refine sT 15 (c2) ?_
          refine sT 16 (c2) ?_
          refine sT 17 (c2) ?_
          have HCB : Hid (∀ W, Mod nil wr W → W.cell? ⟨b, 2, none⟩ = some (.slice (some ⟨g, 0, none⟩) k c)) := Lib.hid (fun W hW => cell_kept c2 hW hbw (not_nil _))
          refine till_ready (rs := [1, 10]) (by kernel_rfl) (by simp) ?_
          refine till_cons (i := 1) rfl (fun K hK => ?_) ?_
          · (try dsimp (config := { proj := false }) only [g0, g1, g2])
            go_simp
            refine hK.out _ _ (fun _ => HCB.out _ (((Mod.refl nil wr).alloc _).drew)) ?_
            clear hK K
            (try simp only [Act.put, pT])
            have hv := (vec_empty_at wr 3 1 _ rfl).modNil (Mod.refl nil _).drew
            have hM := ((Mod.refl nil wr).alloc (.cells #[] 3)).drew
            have hG : wr.heap.size ≤ wr.heap.size := Nat.le_refl _
            refine till_ready (rs := [8, 10]) (by kernel_rfl) (by simp) ?_
            refine till_cons (i := 8) rfl (fun K hK => ?_) ?_
            · (try dsimp (config := { proj := false }) only [g0, g1, g2])
              refine step_append_vec rfl _ _ _ rfl 3 i0 (.int .i64 0) 1 8 Tryz.underlying90 hi hz0 hz1 hz2 rfl (by omega) _ 0 [] rfl hv _ k _ rfl (HT.out.modNil hM) (by simp [HLK.out]) (fun u hu => ints_one l u (List.mem_of_mem_take hu)) (by unfold maxLen; omega) (by omega) ?_
              intro v6 w6 hv6 hm6
              rw [Nat.zero_add, List.nil_append] at hv6
              obtain ⟨p6, c6, rfl⟩ := hv6.form
              have hM6 : Mod nil wr w6 := hM.new hm6 (fun j hj => by rw [hj]; exact hG)
              replace hv6 := hv6.mono (T := fun j => wr.heap.size ≤ j) (fun j _ hj => by
                rcases hj with hj | hj
                · rw [hj]; exact hG
                · exact Nat.le_trans hM.size hj)
              refine hK.out _ _ (fun _ => HCB.out _ hM6) ?_
              clear hK K
              (try simp only [Act.put, pT])
              refine rT 10 (fun K hK => ?_)
              go_simp
              refine hK.out _ _ (fun _ => HCB.out _ (hM6.alloc _)) ?_
              clear hK K
              (try simp only [Act.put, pT])
              have hB := cells_one_at w6 3 (.int .i64 i) _ rfl
              replace hv6 := hv6.modNil ((Mod.refl nil w6).alloc (.cells #[.int .i64 i] 3))
              replace hM6 := hM6.alloc (.cells #[.int .i64 i] 3)
              refine rT 11 (fun K hK => ?_)
              refine step_append_vec (S := fun j => wr.heap.size ≤ j) rfl _ _ _ rfl 3 i0 (.int .i64 0) 1 8 Tryz.underlying90 hi hz0 hz1 hz2 rfl (by omega) _ k ((l.map (Value.int .i64)).take k) rfl hv6 _ 1 [Value.int IntKind.i64 i] rfl hB rfl (by simp [Value.oneCell']) (by unfold maxLen; omega) (by omega) ?_
              intro v7 w7 hv7 hm7
              obtain ⟨p7, c7, rfl⟩ := hv7.form
              have hM7 : Mod nil wr w7 := hM6.new hm7 (fun j hj => hj)
              replace hv7 := hv7.mono (T := fun j => wr.heap.size ≤ j) (fun j _ hj => by
                rcases hj with hj | hj
                · exact hj
                · exact Nat.le_trans hM6.size hj)
              refine hK.out _ _ (fun _ => HCB.out _ hM7) ?_
              clear hK K
              (try simp only [Act.put, pT])
              refine rT 18 (fun K hK => ?_)
              refine step_append_vec (S := fun j => wr.heap.size ≤ j) rfl _ _ _ rfl 3 i0 (.int .i64 0) 1 8 Tryz.underlying90 hi hz0 hz1 hz2 rfl (by omega) _ (k + 1) ((l.map (Value.int .i64)).take k ++ [Value.int IntKind.i64 i]) rfl hv7 _ (0) _ rfl (HD.out.modNil hM7) (by simp [HN.out]) (fun u hu => ints_one l u (List.mem_of_mem_drop hu)) (by unfold maxLen; omega) (by omega) ?_
              intro v8 w8 hv8 hm8
              rw [show k + 1 + (0) = k + 1 by omega] at hv8
              obtain ⟨p8, c8, rfl⟩ := hv8.form
              have hM8 : Mod nil wr w8 := hM7.new hm8 (fun j hj => hj)
              replace hv8 := hv8.mono (T := fun j => wr.heap.size ≤ j) (fun j _ hj => by
                rcases hj with hj | hj
                · exact hj
                · exact Nat.le_trans hM7.size hj)
              refine hK.out _ _ (fun _ => HCB.out _ hM8) ?_
              clear hK K
              (try simp only [Act.put, pT])
              refine rT 19 (fun K hK => ?_)
              go_simp
              refine hK.out _ _ (fun _ => HCB.out _ hM8) ?_
              clear hK K
              (try simp only [Act.put, pT])
              refine rT 20 (fun K hK => ?_)
              go_simp
              refine hK.out _ _ (fun _ => HCB.out _ hM8) ?_
              clear hK K
              (try simp only [Act.put, pT])
              have cb8 := HCB.out _ hM8
              have fb8 : w8.frozen? ⟨b, 2, none⟩ = false := free_of (hM8.keep HO.out) 2
              refine rT 21 (fun K hK => ?_)
              go_simp
              refine hK.out _ _ (fun h => (by simp at h)) ?_
              clear hK K
              (try simp only [Act.put, pT])
              refine till_done (by kernel_rfl) ?_ _
              go_wp2_with fail
              go_end0
              exact ⟨rfl, _, heap_setCell_same (hM8.keep HO.out) _, dirty_fin HINS.out (by omega) hv8, hM8.ofNil.setCell _ _ (fun _ => rfl)⟩
            refine till_cons (i := 10) rfl (fun K hK => ?_) till_nil
            (try dsimp (config := { proj := false }) only [g0, g1, g2])
            go_simp
            refine hK.out _ _ (fun _ => HCB.out _ ((((Mod.refl nil wr).alloc _).alloc _).drew)) ?_
            clear hK K
            (try simp only [Act.put, pT])
            have hB := (cells_one_at (wr.alloc (.cells #[] 3)) 3 (.int .i64 i) (wr.heap.size + 1) (by simp)).modNil (Mod.refl nil _).drew
            replace hv := ((vec_empty_at wr 3 1 _ rfl).modNil ((Mod.refl nil _).alloc (.cells #[.int .i64 i] 3))).modNil (Mod.refl nil _).drew
            replace hM := (((Mod.refl nil wr).alloc (.cells #[] 3)).alloc (.cells #[.int .i64 i] 3)).drew
            refine rT 8 (fun K hK => ?_)
            refine step_append_vec rfl _ _ _ rfl 3 i0 (.int .i64 0) 1 8 Tryz.underlying90 hi hz0 hz1 hz2 rfl (by omega) _ 0 [] rfl hv _ k _ rfl (HT.out.modNil hM) (by simp [HLK.out]) (fun u hu => ints_one l u (List.mem_of_mem_take hu)) (by unfold maxLen; omega) (by omega) ?_
            intro v6 w6 hv6 hm6
            rw [Nat.zero_add, List.nil_append] at hv6
            obtain ⟨p6, c6, rfl⟩ := hv6.form
            have hM6 : Mod nil wr w6 := hM.new hm6 (fun j hj => by rw [hj]; exact hG)
            replace hv6 := hv6.mono (T := fun j => wr.heap.size ≤ j) (fun j _ hj => by
              rcases hj with hj | hj
              · rw [hj]; exact hG
              · exact Nat.le_trans hM.size hj)
            replace hB := hB.mod hm6 (fun j _ hj e => by omega)
            refine hK.out _ _ (fun _ => HCB.out _ hM6) ?_
            clear hK K
            (try simp only [Act.put, pT])
            refine rT 11 (fun K hK => ?_)
            refine step_append_vec (S := fun j => wr.heap.size ≤ j) rfl _ _ _ rfl 3 i0 (.int .i64 0) 1 8 Tryz.underlying90 hi hz0 hz1 hz2 rfl (by omega) _ k ((l.map (Value.int .i64)).take k) rfl hv6 _ 1 [Value.int IntKind.i64 i] rfl hB rfl (by simp [Value.oneCell']) (by unfold maxLen; omega) (by omega) ?_
            intro v7 w7 hv7 hm7
            obtain ⟨p7, c7, rfl⟩ := hv7.form
            have hM7 : Mod nil wr w7 := hM6.new hm7 (fun j hj => hj)
            replace hv7 := hv7.mono (T := fun j => wr.heap.size ≤ j) (fun j _ hj => by
              rcases hj with hj | hj
              · exact hj
              · exact Nat.le_trans hM6.size hj)
            refine hK.out _ _ (fun _ => HCB.out _ hM7) ?_
            clear hK K
            (try simp only [Act.put, pT])
            refine rT 18 (fun K hK => ?_)
            refine step_append_vec (S := fun j => wr.heap.size ≤ j) rfl _ _ _ rfl 3 i0 (.int .i64 0) 1 8 Tryz.underlying90 hi hz0 hz1 hz2 rfl (by omega) _ (k + 1) ((l.map (Value.int .i64)).take k ++ [Value.int IntKind.i64 i]) rfl hv7 _ (0) _ rfl (HD.out.modNil hM7) (by simp [HN.out]) (fun u hu => ints_one l u (List.mem_of_mem_drop hu)) (by unfold maxLen; omega) (by omega) ?_
            intro v8 w8 hv8 hm8
            rw [show k + 1 + (0) = k + 1 by omega] at hv8
            obtain ⟨p8, c8, rfl⟩ := hv8.form
            have hM8 : Mod nil wr w8 := hM7.new hm8 (fun j hj => hj)
            replace hv8 := hv8.mono (T := fun j => wr.heap.size ≤ j) (fun j _ hj => by
              rcases hj with hj | hj
              · exact hj
              · exact Nat.le_trans hM7.size hj)
            refine hK.out _ _ (fun _ => HCB.out _ hM8) ?_
            clear hK K
            (try simp only [Act.put, pT])
            refine rT 19 (fun K hK => ?_)
            go_simp
            refine hK.out _ _ (fun _ => HCB.out _ hM8) ?_
            clear hK K
            (try simp only [Act.put, pT])
            refine rT 20 (fun K hK => ?_)
            go_simp
            refine hK.out _ _ (fun _ => HCB.out _ hM8) ?_
            clear hK K
            (try simp only [Act.put, pT])
            have cb8 := HCB.out _ hM8
            have fb8 : w8.frozen? ⟨b, 2, none⟩ = false := free_of (hM8.keep HO.out) 2
            refine rT 21 (fun K hK => ?_)
            go_simp
            refine hK.out _ _ (fun h => (by simp at h)) ?_
            clear hK K
            (try simp only [Act.put, pT])
            refine till_done (by kernel_rfl) ?_ _
            go_wp2_with fail
            go_end0
            exact ⟨rfl, _, heap_setCell_same (hM8.keep HO.out) _, dirty_fin HINS.out (by omega) hv8, hM8.ofNil.setCell _ _ (fun _ => rfl)⟩
          refine till_cons (i := 10) rfl (fun K hK => ?_) till_nil
          (try dsimp (config := { proj := false }) only [g0, g1, g2])
          go_simp
          refine hK.out _ _ (fun _ => HCB.out _ (((Mod.refl nil wr).alloc _).drew)) ?_
          clear hK K
          (try simp only [Act.put, pT])
          refine rT 1 (fun K hK => ?_)
          go_simp
          refine hK.out _ _ (fun _ => HCB.out _ ((((Mod.refl nil wr).alloc _).alloc _).drew)) ?_
          clear hK K
          (try simp only [Act.put, pT])
          have hv := (vec_empty_at (wr.alloc (.cells #[.int .i64 i] 3)) 3 1 (wr.heap.size + 1) (by simp)).modNil (Mod.refl nil _).drew
          have hB := ((cells_one_at wr 3 (.int .i64 i) _ rfl).modNil ((Mod.refl nil _).alloc (.cells #[] 3))).modNil (Mod.refl nil _).drew
          have hM := (((Mod.refl nil wr).alloc (.cells #[.int .i64 i] 3)).alloc (.cells #[] 3)).drew
          have hG : wr.heap.size ≤ wr.heap.size + 1 := Nat.le_succ _
          refine rT 8 (fun K hK => ?_)
          refine step_append_vec rfl _ _ _ rfl 3 i0 (.int .i64 0) 1 8 Tryz.underlying90 hi hz0 hz1 hz2 rfl (by omega) _ 0 [] rfl hv _ k _ rfl (HT.out.modNil hM) (by simp [HLK.out]) (fun u hu => ints_one l u (List.mem_of_mem_take hu)) (by unfold maxLen; omega) (by omega) ?_
          intro v6 w6 hv6 hm6
          rw [Nat.zero_add, List.nil_append] at hv6
          obtain ⟨p6, c6, rfl⟩ := hv6.form
          have hM6 : Mod nil wr w6 := hM.new hm6 (fun j hj => by rw [hj]; exact hG)
          replace hv6 := hv6.mono (T := fun j => wr.heap.size ≤ j) (fun j _ hj => by
            rcases hj with hj | hj
            · rw [hj]; exact hG
            · exact Nat.le_trans hM.size hj)
          replace hB := hB.mod hm6 (fun j _ hj e => by omega)
          refine hK.out _ _ (fun _ => HCB.out _ hM6) ?_
          clear hK K
          (try simp only [Act.put, pT])
          refine rT 11 (fun K hK => ?_)
          refine step_append_vec (S := fun j => wr.heap.size ≤ j) rfl _ _ _ rfl 3 i0 (.int .i64 0) 1 8 Tryz.underlying90 hi hz0 hz1 hz2 rfl (by omega) _ k ((l.map (Value.int .i64)).take k) rfl hv6 _ 1 [Value.int IntKind.i64 i] rfl hB rfl (by simp [Value.oneCell']) (by unfold maxLen; omega) (by omega) ?_
          intro v7 w7 hv7 hm7
          obtain ⟨p7, c7, rfl⟩ := hv7.form
          have hM7 : Mod nil wr w7 := hM6.new hm7 (fun j hj => hj)
          replace hv7 := hv7.mono (T := fun j => wr.heap.size ≤ j) (fun j _ hj => by
            rcases hj with hj | hj
            · exact hj
            · exact Nat.le_trans hM6.size hj)
          refine hK.out _ _ (fun _ => HCB.out _ hM7) ?_
          clear hK K
          (try simp only [Act.put, pT])
          refine rT 18 (fun K hK => ?_)
          refine step_append_vec (S := fun j => wr.heap.size ≤ j) rfl _ _ _ rfl 3 i0 (.int .i64 0) 1 8 Tryz.underlying90 hi hz0 hz1 hz2 rfl (by omega) _ (k + 1) ((l.map (Value.int .i64)).take k ++ [Value.int IntKind.i64 i]) rfl hv7 _ (0) _ rfl (HD.out.modNil hM7) (by simp [HN.out]) (fun u hu => ints_one l u (List.mem_of_mem_drop hu)) (by unfold maxLen; omega) (by omega) ?_
          intro v8 w8 hv8 hm8
          rw [show k + 1 + (0) = k + 1 by omega] at hv8
          obtain ⟨p8, c8, rfl⟩ := hv8.form
          have hM8 : Mod nil wr w8 := hM7.new hm8 (fun j hj => hj)
          replace hv8 := hv8.mono (T := fun j => wr.heap.size ≤ j) (fun j _ hj => by
            rcases hj with hj | hj
            · exact hj
            · exact Nat.le_trans hM7.size hj)
          refine hK.out _ _ (fun _ => HCB.out _ hM8) ?_
          clear hK K
          (try simp only [Act.put, pT])
          refine rT 19 (fun K hK => ?_)
          go_simp
          refine hK.out _ _ (fun _ => HCB.out _ hM8) ?_
          clear hK K
          (try simp only [Act.put, pT])
          refine rT 20 (fun K hK => ?_)
          go_simp
          refine hK.out _ _ (fun _ => HCB.out _ hM8) ?_
          clear hK K
          (try simp only [Act.put, pT])
          have cb8 := HCB.out _ hM8
          have fb8 : w8.frozen? ⟨b, 2, none⟩ = false := free_of (hM8.keep HO.out) 2
          refine rT 21 (fun K hK => ?_)
          go_simp
          refine hK.out _ _ (fun h => (by simp at h)) ?_
          clear hK K
          (try simp only [Act.put, pT])
          refine till_done (by kernel_rfl) ?_ _
          go_wp2_with fail
          go_end0
          exact ⟨rfl, _, heap_setCell_same (hM8.keep HO.out) _, dirty_fin HINS.out (by omega) hv8, hM8.ofNil.setCell _ _ (fun _ => rfl)⟩
end Go.Proofs.YtdfahddpkkeldaaGreat

/- cflref6.Disk's Write and Crash. -/
namespace Go.Proofs.YtdfahddpkkeldaaGreat
open Go.RowKit
theorem bput_keys (m : List (Int × List UInt8)) (k : Int) (l : List UInt8) : (bput m k l).map (·.1) = if k ∈ m.map (·.1) then m.map (·.1) else m.map (·.1) ++ [k] := by
 unfold bput
 split
 ·rw [List.map_map]
  exact List.map_congr_left (fun x _ => by simp only [Function.comp]; split <;> simp_all)
 ·simp
theorem dirt_bput (d : DS) (k : Int) (l : List UInt8) : DS.dirt { d with pend := bput d.pend k l } = insD d.dirt k := by
 unfold DS.dirt insD
 simp only [bput_keys]
 by_cases h : k ∈ d.pend.map (·.1)
 ·rw [if_pos h, if_pos ((asc_perm _).mem_iff.2 h)]
 ·rw [if_neg h, if_neg (fun e => h ((asc_perm _).mem_iff.1 e))]
  exact asc_eq (List.Perm.append_right _ (asc_perm _).symm)
theorem dirt_sorted (d : DS) (hn : (d.pend.map (·.1)).Nodup) : d.dirt.Pairwise (· < ·) := by
 have h1 := asc_sorted (d.pend.map (·.1))
 have h2 : (asc (d.pend.map (·.1))).Nodup := (asc_perm _).nodup_iff.2 hn
 exact (List.pairwise_and_iff.2 ⟨h1, h2⟩).imp (fun h => by omega)
theorem bput_nodup (m : List (Int × List UInt8)) (k : Int) (l : List UInt8) (hn : (m.map (·.1)).Nodup) : ((bput m k l).map (·.1)).Nodup := by
 rw [bput_keys]
 split
 ·exact hn
 ·rename_i h
  rw [List.nodup_append]
  exact ⟨hn, by simp, fun a ha b hb e => h (by simp at hb; subst hb; subst e; exact ha)⟩
theorem IsVec.trim {S : Nat → Prop} {w : World} {E : TypeId} {sz n : Nat} {v : Value} {xs : List Value} (h : IsVec S w E sz v n xs) : IsVec (fun k => S k ∧ k < w.heap.size) w E sz v n xs := h.mono (fun _ hk hs => ⟨hs, hk⟩)
set_option maxRecDepth 100000 in
set_option maxHeartbeats 1000000 in
theorem refWrite (b : Nat) (B T : Nat → Prop) (d : DS) (i : Int) (v : Value) (l : List UInt8) (w : World) (h : IsRefIn w B b d) (hv : IsRow T w v (bys l)) (hT : ∀ k, T k → ¬ B k) (hln : l.length ≤ 9223372036854775807) :
    Calls Tryz.prog 19 #[.pointer (some ⟨b, 0, none⟩), .int .i64 i, v] w fun e w' => e = .returned (.int .i64 (d.write i l).2) ∧ IsRefIn w' (fun k => B k ∨ w.heap.size ≤ k) b (d.write i l).1 ∧ Mod B w w' := by
  obtain ⟨P1, P2, P3, v1, v2, v3, h, hb, hB⟩ := h
  have HV := Lib.hid hv
  obtain ⟨p, c, rfl, hc⟩ := hv
  rw [bys_length] at *
  clear hc
  obtain ⟨m, hm⟩ : ∃ m, l.length = m := ⟨_, rfl⟩
  rw [hm] at hln ⊢
  have HM := Lib.hid hm
  clear hm
  obtain ⟨p1, q1, rfl⟩ := h.now.form
  obtain ⟨n, hn⟩ : ∃ n, d.lasts.length = n := ⟨_, rfl⟩
  have hroom := h.room
  rw [hn] at hroom
  have c0 : w.cell? ⟨b, 0, none⟩ = some (.slice p1 n q1) := by rw [← hn]; exact cell_of h.obj 0
  have c4 : w.cell? ⟨b, 4, none⟩ = some (.bool d.down) := cell_of h.obj 4
  have H := Lib.hid h
  have HN := Lib.hid hn
  have hbB : ∀ k, k < w.heap.size → k = b → B k := fun k _ e => e ▸ hb
  have HBB := Lib.hid hbB
  clear hbB
  have same : IsRefIn w (fun k => B k ∨ w.heap.size ≤ k) b d := ⟨P1, P2, P3, _, v2, v3, h, .inl hb, fun k hk => .inl (hB k hk)⟩
  have HSAME := Lib.hid same
  clear same
  cases hdn : d.down
  · rw [hdn] at c4
    rcases (show i < 0 ∨ (0 ≤ i ∧ (n : Int) ≤ i) ∨ (0 ≤ i ∧ i < n) by omega) with h1 | ⟨h1, h2⟩ | ⟨h1, h2⟩
    · have hs : d.sector i = 1 := by simp [DS.sector, hdn, h1]
      have hr : d.write i l = (d, 1) := by simp [DS.write, hs]
      rw [hr]
      clear h hs hn hr hdn
      go_enter Tryz.func19, Tryz.ntmps19
      go_wp2_with fail
      go_ret
      exact ⟨rfl, HSAME.out, Mod.refl _ _⟩
    · have hs : d.sector i = 1 := by unfold DS.sector; rw [if_neg (by simp [hdn]), if_pos (by omega)]
      have hr : d.write i l = (d, 1) := by simp [DS.write, hs]
      rw [hr]
      clear h hs hn hr hdn
      go_enter Tryz.func19, Tryz.ntmps19
      go_wp2_with fail
      go_ret
      exact ⟨rfl, HSAME.out, Mod.refl _ _⟩
    · have hs : d.sector i = 0 := by unfold DS.sector; rw [if_neg (by simp [hdn]), if_neg (by omega)]
      by_cases h64 : m = 64
      · subst h64
        have h64' : l.length = 64 := HM.out
        cases hh : d.holds
        · have hr : d.write i l = (d.burn, 13) := by simp [DS.write, hs, h64', hh]
          rw [hr]
          have HH := Lib.hid hh
          clear hs hn hr hdn h64' hh
          go_enter Tryz.func19, Tryz.ntmps19
          go_wp2_with fail
          refine (refBurns b P1 P2 P3 _ v2 v3 d w h).mono ?_
          rw [HH.out]
          rintro e w2 ⟨rfl, hd2, hm2⟩
          go_wp2_with fail
          go_ret
          exact ⟨rfl, ⟨P1, P2, P3, _, v2, v3, hd2, .inl hb, fun k hk => .inl (hB k hk)⟩, hm2.mono HBB.out⟩
        · have hr : d.write i l = ({ d.burn with pend := bput d.pend i l }, 0) := by simp [DS.write, hs, h64', hh]
          rw [hr]
          obtain ⟨k, rfl⟩ := Int.eq_ofNat_of_zero_le h1
          have HH := Lib.hid hh
          clear hs hn hr hdn h64' hh
          go_enter Tryz.func19, Tryz.ntmps19
          go_wp2_with fail
          refine (refBurns b P1 P2 P3 _ v2 v3 d w h).mono ?_
          rw [HH.out]
          rintro e w2 ⟨rfl, hd2, hm2⟩
          have hbl := d.burn_lasts
          have hnow := hd2.now
          rw [burn_cur, hbl.1, HN.out] at hnow
          obtain ⟨g1, q1', hv1, hg1, hgl1, ck1, fk1, hset⟩ := vec_set hnow k (by omega)
          simp only [Value.slice.injEq] at hv1
          obtain ⟨rfl, -, rfl⟩ := hv1
          have c02 : w2.cell? ⟨b, 0, none⟩ = some (.slice (some ⟨g1, 0, none⟩) n q1) := by rw [← HN.out]; exact cell_of hd2.obj 0
          have ms : ∀ u, Mod (· = g1) w2 (w2.setCell ⟨g1, k, none⟩ u) := fun u => (Mod.refl _ _).setCell _ _ (fun _ => rfl)
          have hbg : b ≠ g1 := fun e => hd2.p1 (e ▸ hg1)
          have cs0 : ∀ u, (w2.setCell ⟨g1, k, none⟩ u).cell? ⟨b, 0, none⟩ = some (.slice (some ⟨g1, 0, none⟩) n q1) := fun u => cell_kept c02 (ms u) (heap_lt hd2.obj) hbg
          have hrow2 := HV.out.mod hm2 (fun j _ hj e => hT j hj (e ▸ hb))
          have hbg1 : B g1 := hB g1 (.inl hg1)
          have rb := rowText (hrow2.modNil (Mod.refl nil w2).drew)
          have rbs := fun u => rowText ((hrow2.mod (ms u) (fun j _ hj e => hT j hj (e ▸ hbg1))).modNil (Mod.refl nil _).drew)
          rw [HM.out] at rb
          simp only [HM.out] at rbs
          have HD := Lib.hid hd2
          have HSET := Lib.hid hset
          have HMS := Lib.hid ms
          have HM2 := Lib.hid hm2
          have HBL := Lib.hid hbl
          clear hd2 hset ms hm2 hnow hrow2 hbl
          go_wp2_with fail
          go_region_held3 (fun w' => w'.cell? ⟨b, 0, none⟩ = some (.slice (some ⟨g1, 0, none⟩) n q1) ∧ (convert 40 9 (.slice p 64 c)).run Tryz.prog w' = .ok (.string ⟨l.toArray⟩) w') (first | exact ⟨c02, rb⟩ | exact ⟨cs0 _, rbs _⟩) (first | fail)
          go_wp2_with fail
          have hd2 := HD.out
          have hm3 := (HMS.out (.string ⟨l.toArray⟩)).drew
          have ho3 := (hm3.ne b (heap_lt hd2.obj) hbg).trans hd2.obj
          have hset3 := (HSET.out (.string ⟨l.toArray⟩) rfl).modNil (Mod.refl nil _).drew
          have hP2g : ∀ j, j < w2.heap.size → P2 j → ¬ j = g1 := fun j _ hj e => hd2.p12 g1 hg1 (e ▸ hj)
          have hP3g : ∀ j, j < w2.heap.size → P3 j → ¬ j = g1 := fun j _ hj e => hd2.p13 g1 hg1 (e ▸ hj)
          have hlast3 := hd2.last.mod hm3 hP2g
          have hpend3 := hd2.pend.mod hm3 hP3g
          have hsz3 : w2.heap.size ≤ ((w2.setCell ⟨g1, k, none⟩ (.string ⟨l.toArray⟩)).drew).heap.size := hm3.size
          clear rb rbs c02 cs0 fk1 ck1 hd2
          generalize (w2.setCell ⟨g1, k, none⟩ (.string ⟨l.toArray⟩)).drew = w3 at hm3 ho3 hset3 hlast3 hpend3 hsz3 ⊢
          have hbd : d.burn.dirt = d.dirt := by simp only [DS.dirt, HBL.out.2]
          rw [hbd] at hpend3
          refine (refDirty b P3 _ v2 v3 _ _ d.dirt k w3 ho3 hpend3 (by rw [dirt_length]; exact H.out.few) (dirt_sorted d H.out.nodup)).mono ?_
          rintro e w4 ⟨rfl, v3', ho4, hpend4, hm4⟩
          have HO4 := Lib.hid ho4
          clear ho3 ho4 hbd
          go_wp2_with fail
          go_ret
          have hd2 := HD.out
          have hbl := HBL.out
          have hbp : ∀ (P : Nat → Prop), ¬ P b → ∀ j, j < w3.heap.size → P j → ¬ j = b := fun P hP j _ hj e => hP (e ▸ hj)
          refine ⟨rfl, ⟨fun j => P1 j ∧ j < w3.heap.size, fun j => P2 j ∧ j < w3.heap.size, fun j => P3 j ∨ w3.heap.size ≤ j, .slice (some ⟨g1, 0, none⟩) d.lasts.length q1, v2, v3', ?_, .inl hb, ?_⟩, ?_⟩
          · exact { obj := HO4.out
                    now := by
                      have h1 := hset3.trim.mod hm4 (hbp (fun j => P1 j ∧ j < w3.heap.size) (fun h => hd2.p1 h.1))
                      have hc := curs_bput d.burn k l
                      rw [burn_cur, hbl.2] at hc
                      rw [hc, ← strs_set]
                      rw [show (DS.mk d.burn.lasts (bput d.pend k l) d.burn.fuse d.burn.down).lasts.length = n from by simp only [hbl.1, HN.out], HN.out]
                      exact h1
                    last := hlast3.trim.mod hm4 (hbp (fun j => P2 j ∧ j < w3.heap.size) (fun h => hd2.p2 h.1))
                    pend := by
                      have hc := dirt_bput d.burn k l
                      rw [hbl.2] at hc
                      rw [hc]
                      have hbd : d.burn.dirt = d.dirt := by simp only [DS.dirt, hbl.2]
                      rw [hbd]; exact hpend4
                    p1 := fun h => hd2.p1 h.1
                    p2 := fun h => hd2.p2 h.1
                    p3 := fun h => h.elim hd2.p3 (fun h => by have := heap_lt hd2.obj; omega)
                    p12 := fun j h h' => hd2.p12 j h.1 h'.1
                    p13 := fun j h h' => h'.elim (hd2.p13 j h.1) (fun h'' => by have := h.2; omega)
                    p23 := fun j h h' => h'.elim (hd2.p23 j h.1) (fun h'' => by have := h.2; omega)
                    fz := hd2.fz
                    keys := fun q hq => by
                      simp only [hbl.1]
                      rcases bput_mem hq with h | rfl
                      · exact H.out.keys q h
                      · have := HN.out; simp only; omega
                    room := hd2.room
                    nodup := bput_nodup _ _ _ H.out.nodup }
          · intro j hj
            rcases hj with h | h | h | h
            · exact .inl (hB j (.inl h.1))
            · exact .inl (hB j (.inr (.inl h.1)))
            · exact .inl (hB j (.inr (.inr h)))
            · exact .inr (Nat.le_trans (Nat.le_trans HM2.out.size hsz3) h)
          · exact ((HM2.out.mono HBB.out).trans hm3 (fun j _ e => e ▸ hbg1)).trans hm4 (fun j _ e => e ▸ hb)
      · have hr : d.write i l = (d, 2) := by simp [DS.write, hs, HM.out, h64]
        rw [hr]
        clear h hs hn hr hdn
        have h64' : ¬ ((m : Int) = 64) := by omega
        go_enter Tryz.func19, Tryz.ntmps19
        go_wp2_with fail
        go_ret
        exact ⟨rfl, HSAME.out, Mod.refl _ _⟩
  · rw [hdn] at c4
    have hs : d.sector i = 13 := by simp [DS.sector, hdn]
    have hr : d.write i l = (d, 13) := by simp [DS.write, hs]
    rw [hr]
    clear h hs hn hr hdn
    go_enter Tryz.func19, Tryz.ntmps19
    go_wp2_with fail
    go_ret
    exact ⟨rfl, HSAME.out, Mod.refl _ _⟩
end Go.Proofs.YtdfahddpkkeldaaGreat

/- cflref6.Disk's Crash. -/
namespace Go.Proofs.YtdfahddpkkeldaaGreat
open Go.RowKit
/-- the sectors' present texts while so many of what was pending have been laid or lost -/
def DS.nowTo (d : DS) (keep : List Bool) (m : Nat) : List (List UInt8) := (List.range d.lasts.length).map fun i : Nat => if ((i : Nat) : Int) ∈ d.dirt.take m then (d.layTo keep m).getD i [] else d.cur i
theorem nowTo_length (d : DS) (keep : List Bool) (m : Nat) : (d.nowTo keep m).length = d.lasts.length := by simp [DS.nowTo]
theorem nowTo_zero (d : DS) (keep : List Bool) : d.nowTo keep 0 = d.curs := by simp [DS.nowTo, DS.curs]
theorem at_cur (d : DS) (i : Nat) (h : (i : Int) ∈ d.dirt) : d.at (i : Int) = d.cur i := by
  unfold DS.at DS.cur
  rw [dirt_mem] at h
  cases hf : d.pend.find? (fun p => p.1 == (i : Int)) with
  | some p => rfl
  | none =>
    obtain ⟨p, hp, he⟩ := List.mem_map.1 h
    have := List.find?_eq_none.1 hf p hp
    simp [he] at this
theorem take_notin {l : List Int} (hn : l.Nodup) (m : Nat) (hm : m < l.length) : l[m] ∉ l.take m := by
  intro h
  obtain ⟨j, hj, e⟩ := List.getElem_of_mem h
  simp only [List.length_take] at hj
  rw [List.getElem_take] at e
  have := (List.getElem_inj hn).1 e
  omega
theorem mem_take_succ {l : List Int} (m : Nat) (hm : m < l.length) (x : Int) : x ∈ l.take (m + 1) ↔ x ∈ l.take m ∨ x = l[m] := by
 rw [← List.take_append_getElem hm, List.mem_append, List.mem_singleton]
theorem nowTo_at (d : DS) (keep : List Bool) (m i : Nat) (hn : d.dirt.Nodup) (hm : m < d.dirt.length) (hi : d.dirt[m] = (i : Int)) (hl : i < d.lasts.length) : (d.nowTo keep m).getD i [] = d.cur i := by
 have h := take_notin hn m hm
 rw [hi] at h
 simp [DS.nowTo, hl, h]
theorem nowTo_set (d : DS) (keep : List Bool) (m i : Nat) (hm : m < d.dirt.length) (hi : d.dirt[m] = (i : Int)) : (d.nowTo keep m).set i ((d.layTo keep (m + 1)).getD i []) = d.nowTo keep (m + 1) := by
 have hg : d.dirt.getD m 0 = (i : Int) := by simp [hm, hi]
 apply List.ext_getElem
 ·simp [DS.nowTo]
 ·intro j h1 h2
  simp only [DS.nowTo, List.getElem_set, List.getElem_map, List.getElem_range, mem_take_succ m hm, hi]
  by_cases hij : i = j
  ·subst hij; simp
  ·rw [if_neg hij]
   have hne : ¬ (j : Int) = i := by omega
   simp only [hne, or_false]
   have hlay : (d.layTo keep (m + 1)).getD j [] = (d.layTo keep m).getD j [] := by
    show (if keep.getD m false then (d.layTo keep m).set (d.dirt.getD m 0).toNat (d.at (d.dirt.getD m 0)) else d.layTo keep m).getD j [] = _
    split
    ·rw [hg, Int.toNat_natCast]; simp [List.getElem?_set_ne hij]
    ·rfl
   rw [hlay]
theorem layTo_other (d : DS) (keep : List Bool) (hk : ∀ x ∈ d.dirt, 0 ≤ x) (j : Nat) (hj : (j : Int) ∉ d.dirt) : ∀ m, m ≤ d.dirt.length → (d.layTo keep m).getD j [] = d.lasts.getD j []
 | 0, _ => rfl
 | m + 1, h => by
  have ih := layTo_other d keep hk j hj m (by omega)
  show (if keep.getD m false then (d.layTo keep m).set (d.dirt.getD m 0).toNat (d.at (d.dirt.getD m 0)) else d.layTo keep m).getD j [] = _
  split
  ·have hm : m < d.dirt.length := by omega
   rw [show d.dirt.getD m 0 = d.dirt[m] by simp [hm]]
   have h0 := hk _ (List.getElem_mem hm)
   have hne : d.dirt[m].toNat ≠ j := fun e => hj (by rw [show (j : Int) = d.dirt[m] by omega]; exact List.getElem_mem hm)
   rw [← ih]
   simp [List.getElem?_set_ne hne]
  ·exact ih
theorem nowTo_all (d : DS) (keep : List Bool) (hk : ∀ x ∈ d.dirt, 0 ≤ x) : d.nowTo keep d.dirt.length = d.layTo keep d.dirt.length := by
 apply List.ext_getElem
 ·rw [nowTo_length, DS.layTo_length]
 ·intro i h1 h2
  have hil : i < d.lasts.length := by rw [nowTo_length] at h1; exact h1
  have e : (d.layTo keep d.dirt.length)[i] = (d.layTo keep d.dirt.length).getD i [] := by simp [h2]
  rw [e]
  simp only [DS.nowTo, List.getElem_map, List.getElem_range, List.take_length]
  by_cases hm : (i : Int) ∈ d.dirt
  ·rw [if_pos hm]
  ·rw [if_neg hm, layTo_other d keep hk i hm _ (Nat.le_refl _)]
   unfold DS.cur
   rw [dirt_mem] at hm
   rw [List.find?_eq_none.2 (fun p hp => by simp; exact fun e => hm (List.mem_map.2 ⟨p, hp, e⟩))]
theorem layTo_step (d : DS) (keep : List Bool) (m i : Nat) (hm : m < d.dirt.length) (hi : d.dirt[m] = (i : Int)) : d.layTo keep (m + 1) = if keep.getD m false then (d.layTo keep m).set i (d.cur i) else d.layTo keep m := by
 have hg : d.dirt.getD m 0 = (i : Int) := by simp [hm, hi]
 show (if keep.getD m false then (d.layTo keep m).set (d.dirt.getD m 0).toNat (d.at (d.dirt.getD m 0)) else d.layTo keep m) = _
 rw [hg, Int.toNat_natCast, at_cur d i (hi ▸ List.getElem_mem hm)]
set_option maxRecDepth 100000 in
set_option maxHeartbeats 2000000 in
theorem refCrash (b : Nat) (B T : Nat → Prop) (d : DS) (v : Value) (keep : List Bool) (w : World) (h : IsRefIn w B b d) (hv : IsRow T w v (keep.map Value.bool)) (hT : ∀ k, T k → ¬ B k) (hkl : keep.length ≤ 9223372036854775807) :
    Calls Tryz.prog 14 #[.pointer (some ⟨b, 0, none⟩), v] w fun e w' => e = .returned (.tuple #[]) ∧ IsRefIn w' B b (d.crash keep) ∧ Mod B w w' := by
  obtain ⟨P1, P2, P3, v1, v2, v3, h, hb, hB⟩ := h
  have HV := Lib.hid hv
  obtain ⟨p, c, rfl, hc⟩ := hv
  rw [List.length_map] at *
  clear hc
  obtain ⟨m, hm⟩ : ∃ m, keep.length = m := ⟨_, rfl⟩
  rw [hm] at hkl ⊢
  have HM := Lib.hid hm
  clear hm
  obtain ⟨p1, q1, rfl⟩ := h.now.form
  obtain ⟨p2, q2, rfl⟩ := h.last.form
  obtain ⟨p3, q3, rfl⟩ := h.pend.form
  obtain ⟨n, hn⟩ : ∃ n, d.lasts.length = n := ⟨_, rfl⟩
  obtain ⟨nd, hnd⟩ : ∃ nd, d.dirt.length = nd := ⟨_, rfl⟩
  have hroom := h.room
  have hfew := h.few
  rw [← dirt_length, hnd] at hfew
  rw [hn] at hroom
  have hobj := h.obj
  have hnow := h.now
  have hlast := h.last
  have hpend := h.pend
  rw [hn] at hobj hnow hlast
  rw [hnd] at hobj hpend
  have H := Lib.hid h
  have HN := Lib.hid hn
  have HND := Lib.hid hnd
  have HOBJ := Lib.hid hobj
  have HNOW := Lib.hid hnow
  have HLAST := Lib.hid hlast
  have HPEND := Lib.hid hpend
  have hdn : d.dirt.Nodup := (dirt_sorted d h.nodup).imp (fun h => by omega)
  have hdr : ∀ x ∈ d.dirt, 0 ≤ x ∧ x < d.lasts.length := fun x hx => by
    rw [dirt_mem] at hx
    obtain ⟨q, hq, rfl⟩ := List.mem_map.1 hx
    exact h.keys q hq
  have HDN := Lib.hid hdn
  have HDR := Lib.hid hdr
  clear h hn hnd hobj hnow hlast hpend hdn hdr
  go_enter Tryz.func14, Tryz.ntmps14
  go_wp2_with fail
  go_loopw [4] (fun v wr => ∃ k : Nat, k ≤ nd ∧ v = .int .i64 k ∧ wr.heap[b]? = some (.cells #[.slice p1 n q1, .slice p2 n q2, .slice p3 nd q3, .int .i64 d.fuse, .bool d.down] 92 (0, 0)) ∧ IsVec P1 wr 9 1 (.slice p1 n q1) n (strs (d.nowTo keep k)) ∧ IsVec P2 wr 9 1 (.slice p2 n q2) n (strs (d.layTo keep k)) ∧ IsVec P3 wr 3 1 (.slice p3 nd q3) nd (d.dirt.map (Value.int .i64)) ∧ Mod B w wr) (fun v _ => nd - (intOf v).toNat)
  case atStart => exact ⟨0, by omega, rfl, HOBJ.out, by rw [nowTo_zero]; exact HNOW.out, HLAST.out, HPEND.out, Mod.refl _ _⟩
  case round =>
    obtain ⟨k, hk, rfl, hobj, hnow, hlast, hpend, hmod⟩ := hrel
    by_cases hlt : k < nd
    · have hkd : k < d.dirt.length := by have := HND.out; omega
      obtain ⟨xn, hxi⟩ : ∃ xn : Nat, d.dirt[k] = (xn : Int) := ⟨d.dirt[k].toNat, by have := HDR.out _ (List.getElem_mem hkd); omega⟩
      have hxn : xn < n := by have := HDR.out _ (List.getElem_mem hkd); have := HN.out; omega
      obtain ⟨g3, q3', hv3, hg3, hgl3, ck3, _, _⟩ := vec_set hpend k hlt
      simp only [Value.slice.injEq] at hv3
      obtain ⟨rfl, -, rfl⟩ := hv3
      rw [show (d.dirt.map (Value.int .i64)).getD k undef = .int .i64 xn from by simp [hkd, hxi]] at ck3
      obtain ⟨g1, q1', hv1, hg1, hgl1, ck1, fk1, hset1⟩ := vec_set hnow xn hxn
      simp only [Value.slice.injEq] at hv1
      obtain ⟨rfl, -, rfl⟩ := hv1
      obtain ⟨g2, q2', hv2, hg2, hgl2, ck2, fk2, hset2⟩ := vec_set hlast xn hxn
      simp only [Value.slice.injEq] at hv2
      obtain ⟨rfl, -, rfl⟩ := hv2
      have hx := nowTo_at d keep k xn HDN.out hkd hxi (by have := HN.out; omega)
      rw [strs_getD _ _ (by rw [nowTo_length]; have := HN.out; omega), hx] at ck1
      obtain ⟨x, hx⟩ : ∃ x, d.cur xn = x := ⟨_, rfl⟩
      rw [hx] at ck1
      obtain ⟨y, hy⟩ : ∃ y, (d.layTo keep k).getD xn [] = y := ⟨_, rfl⟩
      rw [strs_getD _ _ (by rw [DS.layTo_length]; have := HN.out; omega), hy] at ck2
      have hb1 : b ≠ g1 := fun e => H.out.p1 (e ▸ hg1)
      have hb2 : b ≠ g2 := fun e => H.out.p2 (e ▸ hg2)
      have hg21 : g2 ≠ g1 := fun e => H.out.p12 g1 hg1 (e ▸ hg2)
      have c0 : wr.cell? ⟨b, 0, none⟩ = some (.slice (some ⟨g1, 0, none⟩) n q1) := cell_of hobj 0
      have c1 : wr.cell? ⟨b, 1, none⟩ = some (.slice (some ⟨g2, 0, none⟩) n q2) := cell_of hobj 1
      have c2 : wr.cell? ⟨b, 2, none⟩ = some (.slice (some ⟨g3, 0, none⟩) nd q3) := cell_of hobj 2
      obtain ⟨kb, hkb⟩ : ∃ kb, keep.getD k false = kb := ⟨_, rfl⟩
      have HKB := Lib.hid hkb
      have HSET := Lib.hid hset1
      by_cases hkm : k < m
      · have hmkl : k < keep.length := by have := HM.out; omega
        obtain ⟨p', c', hp', hckk⟩ := HV.out.mod hmod (fun j _ hj e => hT j hj e)
        obtain ⟨bk, ok, hpk, _, _, hcellk⟩ := hckk k (by simpa using hmkl)
        simp only [Value.slice.injEq] at hp'
        obtain ⟨rfl, -, rfl⟩ := hp'
        subst hpk
        have hck8 : wr.cell? ⟨bk, ok + k, none⟩ = some (.bool kb) := by rw [hcellk, ← hkb]; simp [hmkl]
        clear hcellk hckk hkb hmkl
        cases kb
        · have hlay : d.layTo keep (k + 1) = d.layTo keep k := by rw [layTo_step d keep k xn hkd hxi, HKB.out]; rfl
          have hns := nowTo_set d keep k xn hkd hxi
          rw [hlay, hy] at hns
          have HNS := Lib.hid hns
          have HOB := Lib.hid hobj
          have HLA := Lib.hid (show IsVec P2 wr 9 1 (.slice (some ⟨g2, 0, none⟩) n q2) n (strs (d.layTo keep (k + 1))) from by rw [hlay]; exact hlast)
          have HPE := Lib.hid hpend
          have HMO := Lib.hid hmod
          have dk := ck2
          have hlay' := hlay
          clear hlay hlay' hns hobj hnow hlast hpend hmod hy hx hset2 hset1 hxi hkd
          have d0 : wr.cell? ⟨b, 0, none⟩ = some (.slice (some ⟨g1, 0, none⟩) n q1) := cell_of HOB.out 0
          have d1 : wr.cell? ⟨b, 1, none⟩ = some (.slice (some ⟨g2, 0, none⟩) n q2) := cell_of HOB.out 1
          have msw : ∀ u, Mod (· = g1) wr (wr.setCell ⟨g1, xn, none⟩ u) := fun u => (Mod.refl _ _).setCell _ _ (fun _ => rfl)
          have hbw := heap_lt HOB.out
          have ds0 : ∀ u, (wr.setCell ⟨g1, xn, none⟩ u).cell? ⟨b, 0, none⟩ = some (.slice (some ⟨g1, 0, none⟩) n q1) := fun u => cell_kept d0 (msw u) hbw hb1
          have ds1 : ∀ u, (wr.setCell ⟨g1, xn, none⟩ u).cell? ⟨b, 1, none⟩ = some (.slice (some ⟨g2, 0, none⟩) n q2) := fun u => cell_kept d1 (msw u) hbw hb1
          have dsk : ∀ u, (wr.setCell ⟨g1, xn, none⟩ u).cell? ⟨g2, xn, none⟩ = _ := fun u => cell_kept dk (msw u) hgl2 (show ¬ g2 = g1 from hg21)
          have HMSW := Lib.hid msw
          clear msw
          go_wp2_with fail
          go_region_held3 (fun w' => w'.cell? ⟨b, 0, none⟩ = some (.slice (some ⟨g1, 0, none⟩) n q1) ∧ w'.cell? ⟨b, 1, none⟩ = some (.slice (some ⟨g2, 0, none⟩) n q2) ∧ w'.cell? ⟨g2, xn, none⟩ = some (.string ⟨y.toArray⟩)) (first | exact ⟨d0, d1, dk⟩ | exact ⟨ds0 _, ds1 _, dsk _⟩) (first | fail)
          go_wp2_with fail
          have m1 := (HMSW.out (.string ⟨y.toArray⟩)).drew
          have hno := ((HSET.out (.string ⟨y.toArray⟩) rfl).modNil (Mod.refl nil _).drew)
          rw [strs_set, HNS.out] at hno
          exact ⟨⟨k + 1, by omega, by go_num, (m1.ne b hbw hb1).trans HOB.out, hno, HLA.out.mod m1 (fun j _ hj e => H.out.p12 g1 hg1 (e ▸ hj)), HPE.out.mod m1 (fun j _ hj e => H.out.p13 g1 hg1 (e ▸ hj)), HMO.out.trans m1 (fun j _ e => e ▸ hB _ (.inl hg1))⟩, by simp [intOf]; omega⟩
        · have hlay : d.layTo keep (k + 1) = (d.layTo keep k).set xn x := by rw [layTo_step d keep k xn hkd hxi, HKB.out, hx]; rfl
          have hns := nowTo_set d keep k xn hkd hxi
          rw [hlay, show ((d.layTo keep k).set xn x).getD xn [] = x from by have := HN.out; simp [show xn < (d.layTo keep k).length by rw [DS.layTo_length]; omega]] at hns
          have HNS := Lib.hid hns
          have ms2 : ∀ u, Mod (· = g2) wr (wr.setCell ⟨g2, xn, none⟩ u) := fun u => (Mod.refl _ _).setCell _ _ (fun _ => rfl)
          have hbw0 := heap_lt hobj
          have cs0 : ∀ u, (wr.setCell ⟨g2, xn, none⟩ u).cell? ⟨b, 0, none⟩ = some (.slice (some ⟨g1, 0, none⟩) n q1) := fun u => cell_kept c0 (ms2 u) hbw0 hb2
          have cs1 : ∀ u, (wr.setCell ⟨g2, xn, none⟩ u).cell? ⟨b, 1, none⟩ = some (.slice (some ⟨g2, 0, none⟩) n q2) := fun u => cell_kept c1 (ms2 u) hbw0 hb2
          have csk : ∀ u, (wr.setCell ⟨g2, xn, none⟩ u).cell? ⟨g1, xn, none⟩ = some (.string ⟨x.toArray⟩) := fun u => cell_kept ck1 (ms2 u) hgl1 (show ¬ g1 = g2 from Ne.symm hg21)
          have m5 := (ms2 (.string ⟨x.toArray⟩)).drew
          have hla5 := (hset2 (.string ⟨x.toArray⟩) rfl).modNil (Mod.refl nil _).drew
          rw [strs_set, ← hlay] at hla5
          have hno5 := hnow.mod m5 (fun j _ hj e => H.out.p12 j hj (e ▸ hg2))
          obtain ⟨_, _, hv1, _, hgl15, _, fk15, hset5⟩ := vec_set hno5 xn hxn
          simp only [Value.slice.injEq, Option.some.injEq, Addr.mk.injEq, and_true, true_and] at hv1
          obtain ⟨rfl, rfl⟩ := hv1
          have HSET5 := Lib.hid hset5
          have HOB := Lib.hid ((m5.ne b hbw0 hb2).trans hobj)
          have HLA := Lib.hid hla5
          have HPE := Lib.hid (hpend.mod m5 (fun j _ hj e => H.out.p23 g2 hg2 (e ▸ hj)))
          have HMO := Lib.hid (hmod.trans m5 (fun j _ e => e ▸ hB _ (.inr (.inl hg2))))
          have hgl25 : g2 < ((wr.setCell ⟨g2, xn, none⟩ (.string ⟨x.toArray⟩)).drew).heap.size := Nat.lt_of_lt_of_le hgl2 m5.size
          have dk5 : ((wr.setCell ⟨g2, xn, none⟩ (.string ⟨x.toArray⟩)).drew).cell? ⟨g2, xn, none⟩ = some (.string ⟨x.toArray⟩) := by
            obtain ⟨_, _, hv2, _, _, ck, _, _⟩ := vec_set hla5 xn hxn
            simp only [Value.slice.injEq, Option.some.injEq, Addr.mk.injEq, and_true, true_and] at hv2
            obtain ⟨rfl, rfl⟩ := hv2
            rw [ck, hlay, strs_getD _ _ (by have := HN.out; simp [DS.layTo_length]; omega)]
            have := HN.out
            simp [show xn < (d.layTo keep k).length by rw [DS.layTo_length]; omega]
          clear hlay hns hobj hnow hlast hpend hmod hy hx hset2 hset1 hset5 hxi hkd ms2 m5 hla5 hno5 HSET hgl1
          go_wp2_with fail
          go_region_held3 (fun w' => w'.cell? ⟨b, 0, none⟩ = some (.slice (some ⟨g1, 0, none⟩) n q1) ∧ w'.cell? ⟨b, 1, none⟩ = some (.slice (some ⟨g2, 0, none⟩) n q2) ∧ w'.cell? ⟨g1, xn, none⟩ = some (.string ⟨x.toArray⟩)) (first | exact ⟨c0, c1, ck1⟩ | exact ⟨cs0 _, cs1 _, csk _⟩) (first | fail)
          have ck15 : ((wr.setCell ⟨g2, xn, none⟩ (.string ⟨x.toArray⟩)).drew).cell? ⟨g1, xn, none⟩ = some (.string ⟨x.toArray⟩) := csk (.string ⟨x.toArray⟩)
          clear cs0 cs1 csk c0 c1 c2 ck1 ck2 ck3 fk1 fk2 hck8 hgl2
          generalize (wr.setCell ⟨g2, xn, none⟩ (.string ⟨x.toArray⟩)).drew = w5 at fk15 HSET5 HOB HLA HPE HMO hgl15 hgl25 dk5 ck15 ⊢
          have hgl2 := hgl25
          have dk := dk5
          have HSET := HSET5
          have d0 : w5.cell? ⟨b, 0, none⟩ = some (.slice (some ⟨g1, 0, none⟩) n q1) := cell_of HOB.out 0
          have d1 : w5.cell? ⟨b, 1, none⟩ = some (.slice (some ⟨g2, 0, none⟩) n q2) := cell_of HOB.out 1
          have msw : ∀ u, Mod (· = g1) w5 (w5.setCell ⟨g1, xn, none⟩ u) := fun u => (Mod.refl _ _).setCell _ _ (fun _ => rfl)
          have hbw := heap_lt HOB.out
          have ds0 : ∀ u, (w5.setCell ⟨g1, xn, none⟩ u).cell? ⟨b, 0, none⟩ = some (.slice (some ⟨g1, 0, none⟩) n q1) := fun u => cell_kept d0 (msw u) hbw hb1
          have ds1 : ∀ u, (w5.setCell ⟨g1, xn, none⟩ u).cell? ⟨b, 1, none⟩ = some (.slice (some ⟨g2, 0, none⟩) n q2) := fun u => cell_kept d1 (msw u) hbw hb1
          have dsk : ∀ u, (w5.setCell ⟨g1, xn, none⟩ u).cell? ⟨g2, xn, none⟩ = _ := fun u => cell_kept dk (msw u) hgl2 (show ¬ g2 = g1 from hg21)
          have HMSW := Lib.hid msw
          clear msw
          go_wp2_with fail
          go_region_held3 (fun w' => w'.cell? ⟨b, 0, none⟩ = some (.slice (some ⟨g1, 0, none⟩) n q1) ∧ w'.cell? ⟨b, 1, none⟩ = some (.slice (some ⟨g2, 0, none⟩) n q2) ∧ w'.cell? ⟨g2, xn, none⟩ = some (.string ⟨x.toArray⟩)) (first | exact ⟨d0, d1, dk⟩ | exact ⟨ds0 _, ds1 _, dsk _⟩) (first | fail)
          go_wp2_with fail
          have m1 := (HMSW.out (.string ⟨x.toArray⟩)).drew
          have hno := ((HSET.out (.string ⟨x.toArray⟩) rfl).modNil (Mod.refl nil _).drew)
          rw [strs_set, HNS.out] at hno
          exact ⟨⟨k + 1, by omega, by go_num, (m1.ne b hbw hb1).trans HOB.out, hno, HLA.out.mod m1 (fun j _ hj e => H.out.p12 g1 hg1 (e ▸ hj)), HPE.out.mod m1 (fun j _ hj e => H.out.p13 g1 hg1 (e ▸ hj)), HMO.out.trans m1 (fun j _ e => e ▸ hB _ (.inl hg1))⟩, by simp [intOf]; omega⟩
      · have hkb' : kb = false := by rw [← hkb]; have := HM.out; simp [show keep.length ≤ k by omega]
        subst hkb'
        have hlay : d.layTo keep (k + 1) = d.layTo keep k := by rw [layTo_step d keep k xn hkd hxi, HKB.out]; rfl
        have hns := nowTo_set d keep k xn hkd hxi
        rw [hlay, hy] at hns
        have HNS := Lib.hid hns
        have HOB := Lib.hid hobj
        have HLA := Lib.hid (show IsVec P2 wr 9 1 (.slice (some ⟨g2, 0, none⟩) n q2) n (strs (d.layTo keep (k + 1))) from by rw [hlay]; exact hlast)
        have HPE := Lib.hid hpend
        have HMO := Lib.hid hmod
        have dk := ck2
        have hlay' := hlay
        clear hlay hlay' hns hobj hnow hlast hpend hmod hy hx hset2 hset1 hxi hkd
        have d0 : wr.cell? ⟨b, 0, none⟩ = some (.slice (some ⟨g1, 0, none⟩) n q1) := cell_of HOB.out 0
        have d1 : wr.cell? ⟨b, 1, none⟩ = some (.slice (some ⟨g2, 0, none⟩) n q2) := cell_of HOB.out 1
        have msw : ∀ u, Mod (· = g1) wr (wr.setCell ⟨g1, xn, none⟩ u) := fun u => (Mod.refl _ _).setCell _ _ (fun _ => rfl)
        have hbw := heap_lt HOB.out
        have ds0 : ∀ u, (wr.setCell ⟨g1, xn, none⟩ u).cell? ⟨b, 0, none⟩ = some (.slice (some ⟨g1, 0, none⟩) n q1) := fun u => cell_kept d0 (msw u) hbw hb1
        have ds1 : ∀ u, (wr.setCell ⟨g1, xn, none⟩ u).cell? ⟨b, 1, none⟩ = some (.slice (some ⟨g2, 0, none⟩) n q2) := fun u => cell_kept d1 (msw u) hbw hb1
        have dsk : ∀ u, (wr.setCell ⟨g1, xn, none⟩ u).cell? ⟨g2, xn, none⟩ = _ := fun u => cell_kept dk (msw u) hgl2 (show ¬ g2 = g1 from hg21)
        have HMSW := Lib.hid msw
        clear msw
        go_wp2_with fail
        go_region_held3 (fun w' => w'.cell? ⟨b, 0, none⟩ = some (.slice (some ⟨g1, 0, none⟩) n q1) ∧ w'.cell? ⟨b, 1, none⟩ = some (.slice (some ⟨g2, 0, none⟩) n q2) ∧ w'.cell? ⟨g2, xn, none⟩ = some (.string ⟨y.toArray⟩)) (first | exact ⟨d0, d1, dk⟩ | exact ⟨ds0 _, ds1 _, dsk _⟩) (first | fail)
        go_wp2_with fail
        have m1 := (HMSW.out (.string ⟨y.toArray⟩)).drew
        have hno := ((HSET.out (.string ⟨y.toArray⟩) rfl).modNil (Mod.refl nil _).drew)
        rw [strs_set, HNS.out] at hno
        exact ⟨⟨k + 1, by omega, by go_num, (m1.ne b hbw hb1).trans HOB.out, hno, HLA.out.mod m1 (fun j _ hj e => H.out.p12 g1 hg1 (e ▸ hj)), HPE.out.mod m1 (fun j _ hj e => H.out.p13 g1 hg1 (e ▸ hj)), HMO.out.trans m1 (fun j _ e => e ▸ hB _ (.inl hg1))⟩, by simp [intOf]; omega⟩
    · obtain rfl : k = nd := by omega
      have c2 : wr.cell? ⟨b, 2, none⟩ = some (.slice p3 k q3) := cell_of hobj 2
      have f2 : wr.frozen? ⟨b, 2, none⟩ = false := free_of hobj 2
      have ho2 := heap_setCell_same hobj (off := 2) (.slice none 0 0)
      have c3 : (wr.setCell ⟨b, 2, none⟩ (.slice none 0 0)).cell? ⟨b, 3, none⟩ = some (.int .i64 d.fuse) := by rw [cell_of ho2]; rfl
      have f3 : (wr.setCell ⟨b, 2, none⟩ (.slice none 0 0)).frozen? ⟨b, 3, none⟩ = false := free_of ho2 3
      have ho3 := heap_setCell_same ho2 (off := 3) (.int .i64 (-1))
      have c4 : ((wr.setCell ⟨b, 2, none⟩ (.slice none 0 0)).setCell ⟨b, 3, none⟩ (.int .i64 (-1))).cell? ⟨b, 4, none⟩ = some (.bool d.down) := by rw [cell_of ho3]; rfl
      have f4 : ((wr.setCell ⟨b, 2, none⟩ (.slice none 0 0)).setCell ⟨b, 3, none⟩ (.int .i64 (-1))).frozen? ⟨b, 4, none⟩ = false := free_of ho3 4
      have HO3 := Lib.hid ho3
      clear ho2 ho3 hobj
      go_wp2_with fail
      (try simp only [Exit.inBlock, Exit.then]); refine bodyPost_end (results_none rfl _ _ _) rfl ?_
      have hm3 : Mod (· = b) wr (((wr.setCell ⟨b, 2, none⟩ (.slice none 0 0)).setCell ⟨b, 3, none⟩ (.int .i64 (-1))).setCell ⟨b, 4, none⟩ (.bool false)) := (((Mod.refl (· = b) wr).setCell ⟨b, 2, none⟩ _ (fun _ => rfl)).setCell ⟨b, 3, none⟩ _ (fun _ => rfl)).setCell ⟨b, 4, none⟩ _ (fun _ => rfl)
      have hcr : d.crash keep = ⟨d.layTo keep k, [], -1, false⟩ := by unfold DS.crash; rw [HND.out]
      have hll : (d.layTo keep k).length = n := by rw [DS.layTo_length, HN.out]
      have hall : d.nowTo keep k = d.layTo keep k := by have h := nowTo_all d keep (fun x hx => (HDR.out x hx).1); rwa [HND.out] at h
      rw [hcr]
      rw [hall] at hnow
      refine ⟨rfl, ⟨P1, P2, fun _ => False, .slice p1 n q1, .slice p2 n q2, .slice none 0 0, ?_, hb, fun j hj => hj.elim (fun h => hB j (.inl h)) (fun h => h.elim (fun h => hB j (.inr (.inl h))) False.elim)⟩, hmod.trans hm3 (fun j _ e => e ▸ hb)⟩
      exact { obj := heap_setCell_same HO3.out _
              now := by
                have := hnow.mod hm3 (fun j _ hj e => H.out.p1 (e ▸ hj))
                simp only [curs_none, hll]
                exact this
              last := by simp only [hll]; exact hlast.mod hm3 (fun j _ hj e => H.out.p2 (e ▸ hj))
              pend := by simpa [DS.dirt, asc] using IsVec.nil (fun _ => False) _ 3 1
              p1 := H.out.p1, p2 := H.out.p2, p3 := id, p12 := H.out.p12, p13 := fun _ _ => id, p23 := fun _ _ => id
              fz := by simp, keys := by simp, room := by simp only [hll]; exact hroom, nodup := by simp }
end Go.Proofs.YtdfahddpkkeldaaGreat

/- cflref6.NewDisk. -/
namespace Go.Proofs.YtdfahddpkkeldaaGreat
open Go.RowKit
theorem info_string : (Tryz.prog.info? 9).map (fun i => (i.zero, i.size, i.bytes)) = some (some (.string ⟨#[]⟩), 1, 16) := by kernel_rfl
def zeroText : Value := .string ⟨zeros64.toArray⟩
theorem strs_zero (k : Nat) : strs (List.replicate (k + 1) zeros64) = strs (List.replicate k zeros64) ++ [zeroText] := by
 simp [strs, List.replicate_succ', zeroText]
set_option maxRecDepth 100000 in
set_option maxHeartbeats 1000000 in
theorem refNew (n : Nat) (w : World) (h1 : 1 ≤ n) (h2 : n ≤ 8192) :
    Calls Tryz.prog 8 #[.int .i64 n] w fun e w' => ∃ b, e = .returned (.tuple #[.pointer (some ⟨b, 0, none⟩), .int .i64 0]) ∧ IsRefIn w' (fun k => w.heap.size ≤ k) b (freshDisk n) ∧ Mod nil w w' := by
  obtain ⟨i0, hi, hz0, hz1, hz2⟩ := info_parts info_string
  have hmk := make64
  have rb := rowText (IsRow.ofBlock (S := fun _ => True) (heap_alloc_new (w.alloc (.cells #[.slice none 0 0, .slice none 0 0, .slice none 0 0, .int .i64 (-1), .bool false] 92)) (.cells zeroCells64 5)) trivial 64 64 (by simp [bys_length, zeros64]))
  rw [show (w.alloc (.cells #[.slice none 0 0, .slice none 0 0, .slice none 0 0, .int .i64 (-1), .bool false] 92)).heap.size = w.heap.size + 1 from by simp] at rb
  have HI := Lib.hid (And.intro hi (And.intro hz0 (And.intro hz1 hz2)))
  clear hi hz0 hz1 hz2
  go_enter Tryz.func8, Tryz.ntmps8
  go_wp2_with fail
  clear rb hmk
  have hm0 : Mod nil w ((w.alloc (.cells #[.slice none 0 0, .slice none 0 0, .slice none 0 0, .int .i64 (-1), .bool false] 92)).alloc (.cells zeroCells64 5)) := ((Mod.refl nil w).alloc _).alloc _
  have ho0 : ((w.alloc (.cells #[.slice none 0 0, .slice none 0 0, .slice none 0 0, .int .i64 (-1), .bool false] 92)).alloc (.cells zeroCells64 5)).heap[w.heap.size]? = some (.cells #[.slice none 0 0, .slice none 0 0, .slice none 0 0, .int .i64 (-1), .bool false] 92 (0, 0)) := heap_alloc_old (heap_alloc_new _ _)
  have HM0 := Lib.hid hm0
  have HO0 := Lib.hid ho0
  clear hm0 ho0
  generalize (w.alloc (.cells #[.slice none 0 0, .slice none 0 0, .slice none 0 0, .int .i64 (-1), .bool false] 92)).alloc (.cells zeroCells64 5) = w1 at HM0 HO0 ⊢
  generalize hb : w.heap.size = b at HO0 ⊢
  have HB := Lib.hid hb
  clear hb
  go_loopw [6] (fun v wr => ∃ (k : Nat) (P1 P2 : Nat → Prop) (v1 v2 : Value), k ≤ n ∧ v = .int .i64 k ∧ wr.heap[b]? = some (.cells #[v1, v2, .slice none 0 0, .int .i64 (-1), .bool false] 92 (0, 0)) ∧ IsVec P1 wr 9 1 v1 k (strs (List.replicate k zeros64)) ∧ IsVec P2 wr 9 1 v2 k (strs (List.replicate k zeros64)) ∧
      (∀ j, P1 j → b < j ∧ j < wr.heap.size) ∧ (∀ j, P2 j → b < j ∧ j < wr.heap.size) ∧ (∀ j, P1 j → ¬ P2 j) ∧ Mod nil w wr) (fun v _ => n - (intOf v).toNat)
  case atStart => exact ⟨0, fun _ => False, fun _ => False, _, _, by omega, rfl, HO0.out, IsVec.nil _ _ _ _, IsVec.nil _ _ _ _, fun _ h => h.elim, fun _ h => h.elim, fun _ h => h.elim, HM0.out⟩
  case round =>
    obtain ⟨k, P1, P2, v1, v2, hk, rfl, hobj, hv1, hv2, hp1, hp2, hp12, hmod⟩ := hrel
    by_cases hlt : k < n
    · obtain ⟨p1, q1, rfl⟩ := hv1.form
      obtain ⟨p2, q2, rfl⟩ := hv2.form
      have hbw := heap_lt hobj
      have c0 : wr.cell? ⟨b, 0, none⟩ = some (.slice p1 k q1) := cell_of hobj 0
      have ha1 : Mod nil wr (wr.alloc (.cells #[zeroText] 9)) := (Mod.refl nil wr).alloc _
      have ho1 := ha1.keep hobj
      obtain ⟨v6, w6, hrun6, hvec6, hm6⟩ := vec_append (P := Tryz.prog) 89 89 9 i0 (.string ⟨#[]⟩) 1 16 Tryz.underlying89 HI.out.1 HI.out.2.1 HI.out.2.2.1 HI.out.2.2.2 rfl (by omega) (hv1.modNil ha1) (cells_one_at wr 9 zeroText _ rfl) rfl (by simp [Value.oneCell', zeroText]) (by unfold maxLen; omega) (by omega)
      have ho6 := (hm6.block b (heap_lt ho1) (fun h => by have := (hp1 _ h).1; omega)).trans ho1
      obtain ⟨p6, q6, rfl⟩ := hvec6.form
      have c06 : w6.cell? ⟨b, 0, none⟩ = some (.slice p1 k q1) := cell_of ho6 0
      have f06 : w6.frozen? ⟨b, 0, none⟩ = false := free_of ho6 0
      have ho7 := heap_setCell_same ho6 (off := 0) (.slice p6 (k + 1) q6)
      have m7 : Mod (· = b) w6 (w6.setCell ⟨b, 0, none⟩ (.slice p6 (k + 1) q6)) := (Mod.refl (· = b) w6).setCell ⟨b, 0, none⟩ _ (fun _ => rfl)
      have hv27 := ((hv2.modNil ha1).mod hm6 (fun j _ h h' => hp12 j h' h)).mod m7 (fun j _ h e => by have := (hp2 _ h).1; omega)
      have hv17 := hvec6.mod m7 (fun j hj h e => by
        rcases h with h | h
        · have := (hp1 _ h).1; omega
        · have := ha1.size; omega)
      have c17 : (w6.setCell ⟨b, 0, none⟩ (.slice p6 (k + 1) q6)).cell? ⟨b, 1, none⟩ = some (.slice p2 k q2) := by rw [cell_of ho7]; rfl
      have hmod7 := ((hmod.thenNil ha1).new hm6 (fun j h => by have := (hp1 _ h).1; have := HB.out; omega)).new m7 (fun j h => by have := HB.out; omega)
      have hs7 : wr.heap.size < (w6.setCell ⟨b, 0, none⟩ (.slice p6 (k + 1) q6)).heap.size := by
        have h1 := hm6.size
        have h2 := m7.size
        simp at h1
        omega
      have ha1s : wr.heap.size ≤ (wr.alloc (.cells #[zeroText] 9)).heap.size := ha1.size
      have hw7s : (w6.setCell ⟨b, 0, none⟩ (.slice p6 (k + 1) q6)).heap.size = w6.heap.size := by simp
      generalize hw7 : w6.setCell ⟨b, 0, none⟩ (.slice p6 (k + 1) q6) = w7 at *
      have HW7 := Lib.hid hw7
      have ha8 : Mod nil w7 (w7.alloc (.cells #[zeroText] 9)) := (Mod.refl nil w7).alloc _
      have ho8 := ha8.keep ho7
      obtain ⟨v9, w9, hrun9, hvec9, hm9⟩ := vec_append (P := Tryz.prog) 89 89 9 i0 (.string ⟨#[]⟩) 1 16 Tryz.underlying89 HI.out.1 HI.out.2.1 HI.out.2.2.1 HI.out.2.2.2 rfl (by omega) (hv27.modNil ha8) (cells_one_at w7 9 zeroText w6.heap.size hw7s) rfl (by simp [Value.oneCell', zeroText]) (by unfold maxLen; omega) (by omega)
      have ho9 := (hm9.block b (heap_lt ho8) (fun h => by have := (hp2 _ h).1; omega)).trans ho8
      obtain ⟨p9, q9, rfl⟩ := hvec9.form
      have c19 : w9.cell? ⟨b, 1, none⟩ = some (.slice p2 k q2) := by rw [cell_of ho9]; rfl
      have f19 : w9.frozen? ⟨b, 1, none⟩ = false := free_of ho9 1
      have ho10 := heap_setCell_same ho9 (off := 1) (.slice p9 (k + 1) q9)
      have m10 : Mod (· = b) w9 (w9.setCell ⟨b, 1, none⟩ (.slice p9 (k + 1) q9)) := (Mod.refl (· = b) w9).setCell ⟨b, 1, none⟩ _ (fun _ => rfl)
      have h8s : w7.heap.size ≤ (w7.alloc (.cells #[zeroText] 9)).heap.size := ha8.size
      have hv110 := ((hv17.trim.modNil ha8).mod hm9 (fun j _ h h' => by
        rcases h.1 with h1 | h1
        · exact hp12 j h1 h'
        · have := (hp2 _ h').2; omega)).mod m10 (fun j _ h e => by
        rcases h.1 with h1 | h1
        · have := (hp1 _ h1).1; omega
        · omega)
      have hv210 := hvec9.mod m10 (fun j _ h e => by
        rcases h with h | h
        · have := (hp2 _ h).1; omega
        · omega)
      have hmod10 := ((hmod7.thenNil ha8).new hm9 (fun j h => by have := (hp2 _ h).1; have := HB.out; omega)).new m10 (fun j h => by have := HB.out; omega)
      have hs10 : w7.heap.size ≤ (w9.setCell ⟨b, 1, none⟩ (.slice p9 (k + 1) q9)).heap.size := by
        have h1 := hm9.size
        have h2 := m10.size
        omega
      have hfin : ∃ P1' P2' : Nat → Prop, IsVec P1' (w9.setCell ⟨b, 1, none⟩ (.slice p9 (k + 1) q9)) 9 1 (.slice p6 (k + 1) q6) (k + 1) (strs (List.replicate (k + 1) zeros64)) ∧ IsVec P2' (w9.setCell ⟨b, 1, none⟩ (.slice p9 (k + 1) q9)) 9 1 (.slice p9 (k + 1) q9) (k + 1) (strs (List.replicate (k + 1) zeros64)) ∧
          (∀ j, P1' j → b < j ∧ j < (w9.setCell ⟨b, 1, none⟩ (.slice p9 (k + 1) q9)).heap.size) ∧ (∀ j, P2' j → b < j ∧ j < (w9.setCell ⟨b, 1, none⟩ (.slice p9 (k + 1) q9)).heap.size) ∧ (∀ j, P1' j → ¬ P2' j) := by
        rw [strs_zero]
        refine ⟨_, _, hv110, hv210.trim, fun j h => ?_, fun j h => ⟨?_, h.2⟩, fun j h h' => ?_⟩
        · obtain ⟨h, hl⟩ := h
          refine ⟨?_, by omega⟩
          rcases h with h | h
          · exact (hp1 _ h).1
          · omega
        · rcases h.1 with h | h
          · exact (hp2 _ h).1
          · omega
        · rcases h'.1 with h' | h'
          · rcases h.1 with h1 | h1
            · exact hp12 j h1 h'
            · have := (hp2 _ h').2; omega
          · have := h.2; omega
      have HFIN := Lib.hid hfin
      have HRUN6 := Lib.hid hrun6
      have HRUN9 := Lib.hid hrun9
      have HO10 := Lib.hid ho10
      have HMOD10 := Lib.hid hmod10
      clear hfin hrun6 hrun9 ho10 hmod10 ho7 hv27 hv17 hmod7 hp1 hp2 hp12 hvec6 hm6 ho6 ho1 ha1 hobj hv1 hv2 hmod m7 hvec9 hm9 ho9 ho8 ha8 m10 hv110 hv210 hw7s hs10 h8s
      rw [← hw7] at c17 HRUN9
      clear hw7
      go_wp2_with (first | (at_builtin; refine wpList_append_run rfl _ _ _ _ rfl rfl rfl HRUN6.out ?_) | (at_builtin; refine wpList_append_run rfl _ _ _ _ rfl rfl rfl HRUN9.out ?_))
      obtain ⟨P1', P2', a1, a2, a3, a4, a5⟩ := HFIN.out
      exact ⟨⟨k + 1, P1', P2', _, _, by omega, by go_num, HO10.out, a1, a2, a3, a4, a5, HMOD10.out⟩, by simp [intOf]; omega⟩
    · obtain rfl : k = n := by omega
      go_wp2_with fail
      go_ret2
      have hb := HB.out
      refine ⟨b, rfl, ⟨P1, P2, fun _ => False, v1, v2, .slice none 0 0, ?_, by omega, fun j h => ?_⟩, hmod⟩
      · have hl : (freshDisk k).lasts.length = k := by simp [freshDisk]
        exact { obj := hobj
                now := by rw [hl, show (freshDisk k).curs = List.replicate k zeros64 from curs_none _ _ _]; exact hv1
                last := by rw [hl]; exact hv2
                pend := by simpa [DS.dirt, asc, freshDisk] using IsVec.nil (fun _ => False) wr 3 1
                p1 := fun h => by have := (hp1 _ h).1; omega
                p2 := fun h => by have := (hp2 _ h).1; omega
                p3 := id, p12 := hp12, p13 := fun _ _ => id, p23 := fun _ _ => id
                fz := by simp [freshDisk], keys := by simp [freshDisk], room := by rw [hl]; exact h2, nodup := by simp [freshDisk] }
      · rcases h with h | h | h
        · have := (hp1 _ h).1; omega
        · have := (hp2 _ h).1; omega
        · exact h.elim
end Go.Proofs.YtdfahddpkkeldaaGreat

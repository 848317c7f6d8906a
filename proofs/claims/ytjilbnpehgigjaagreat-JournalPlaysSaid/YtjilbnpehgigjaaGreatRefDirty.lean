/- cflref6.Disk's dirty: one more that is pending; rising. -/
import Derived.Test.YtjilbnpehgigjaaGreatShort
import Derived.Test.YtjilbnpehgigjaaGreatRefDisk
import Derived.Test.YtjilbnpehgigjaaGreatRdB
namespace Go.Proofs.YtjilbnpehgigjaaGreat
open Go.RowKit

theorem ins_at (l : List Int) (i : Int) (k : Nat) (hs : l.Pairwise (· < ·)) (hk : k ≤ l.length) (h1 : ∀ j, j < k → l.getD j 0 < i) (h2 : k < l.length → i < l.getD k 0) :
    asc (l ++ [i]) = l.take k ++ [i] ++ l.drop k := by
  refine sorted_eq ?_ (asc_sorted _) ?_
  · refine (asc_perm _).trans ?_
    have h : (l.take k ++ l.drop k ++ [i]).Perm (l.take k ++ [i] ++ l.drop k) := by
      rw [List.append_assoc, List.append_assoc]
      exact List.Perm.append_left _ List.perm_append_comm
    rwa [List.take_append_drop] at h
  · rw [List.append_assoc, List.pairwise_append]
    have hs' : l.Pairwise (· ≤ ·) := hs.imp (fun h => by omega)
    refine ⟨hs'.sublist (List.take_sublist k l), ?_, ?_⟩
    · rw [List.singleton_append, List.pairwise_cons]
      refine ⟨fun x hx => ?_, hs'.sublist (List.drop_sublist k l)⟩
      obtain ⟨j, hj, rfl⟩ := List.getElem_of_mem hx
      simp only [List.length_drop] at hj
      have hkl : k < l.length := by omega
      have h3 := h2 hkl
      rw [show l.getD k 0 = l[k] by simp [hkl]] at h3
      rw [List.getElem_drop]
      rcases Nat.eq_zero_or_pos j with h0 | h0
      · subst h0; simp only [Nat.add_zero]; omega
      · have := (List.pairwise_iff_getElem.1 hs) k (k + j) hkl (by omega) (by omega)
        omega
    · intro a ha b hb
      obtain ⟨j, hj, rfl⟩ := List.getElem_of_mem ha
      simp only [List.length_take] at hj
      have h3 := h1 j (by omega)
      rw [show l.getD j 0 = l[j]'(by omega) by simp [show j < l.length by omega]] at h3
      rw [List.getElem_take]
      rw [List.singleton_append] at hb
      rcases List.mem_cons.1 hb with rfl | hb
      · omega
      · obtain ⟨q, hq, rfl⟩ := List.getElem_of_mem hb
        simp only [List.length_drop] at hq
        rw [List.getElem_drop]
        have := (List.pairwise_iff_getElem.1 hs) j (k + q) (by omega) (by omega) (by omega)
        omega
theorem ints_one (l : List Int) : ∀ u ∈ l.map (Value.int .i64), u.oneCell' = true := by
  intro u hu
  obtain ⟨x, _, rfl⟩ := List.mem_map.1 hu
  rfl
theorem IsRow.dropCells {S : Nat → Prop} {w : World} {b off n c : Nat} {xs : List Value} (h : IsRow S w (.slice (some ⟨b, off, none⟩) n c) xs) (k m c' : Nat) : IsCells S w (.slice (some ⟨b, off + k, none⟩) m c') m (xs.drop k) := by
  obtain ⟨p', c0, hv, hc⟩ := h
  simp only [Value.slice.injEq] at hv
  obtain ⟨rfl, -, rfl⟩ := hv
  refine ⟨_, c', rfl, fun i hi => ?_⟩
  simp only [List.length_drop] at hi
  obtain ⟨b', off', hp, hS, hb, hx⟩ := hc (k + i) (by omega)
  simp only [Option.some.injEq, Addr.mk.injEq, and_true] at hp
  obtain ⟨rfl, rfl⟩ := hp
  exact ⟨b, off + k, rfl, hS, hb, by rw [show off + k + i = off + (k + i) by omega, hx]; simp⟩
theorem IsRow.takeCells {S : Nat → Prop} {w : World} {p : Option Addr} {n c : Nat} {xs : List Value} (h : IsRow S w (.slice p n c) xs) (k c' : Nat) : IsCells S w (.slice p k c') k (xs.take k) := by
  obtain ⟨p', c0, hv, hc⟩ := h
  simp only [Value.slice.injEq] at hv
  obtain ⟨rfl, -, rfl⟩ := hv
  refine ⟨p, c', rfl, fun i hi => ?_⟩
  obtain ⟨b, off, hp, hS, hb, hx⟩ := hc i (by simp at hi; omega)
  simp only [List.length_take] at hi
  exact ⟨b, off, hp, hS, hb, by rw [hx]; simp [List.getElem?_take_of_lt (show i < k by omega)]⟩
def insD (l : List Int) (i : Int) : List Int := if i ∈ l then l else asc (l ++ [i])
theorem vec_form {S : Nat → Prop} {w : World} {E : TypeId} {n : Nat} {v : Value} {xs : List Value} (h : IsVec S w E 1 v n xs) : (v = .slice none 0 0 ∧ n = 0) ∨ ∃ g c, v = .slice (some ⟨g, 0, none⟩) n c ∧ S g ∧ g < w.heap.size ∧ n ≤ c ∧ c ≤ maxLen := by
  obtain ⟨⟨hl, h1⟩, h2⟩ := h
  rcases h1 with ⟨rfl, h0⟩ | ⟨g, cap, cur, rfl, hg, hh, hn, hm, hs, ht⟩
  · exact .inl ⟨rfl, h0⟩
  · exact .inr ⟨g, cap, rfl, h2 g rfl, heap_lt hh, hn, hm⟩
theorem cells_none {P : Nat → Prop} (w : World) (p : Option Addr) (c : Nat) : IsCells P w (.slice p 0 c) 0 [] := ⟨p, c, rfl, fun i hi => absurd hi (by simp)⟩
theorem dirty_fin {P : Nat → Prop} {b n k : Nat} {l : List Int} {i : Int} {w0 w : World} {v u : Value} (hins : insD l i = l.take k ++ [i] ++ l.drop k ∧ l.length = n) (hb : b < w0.heap.size) (hv : IsVec (fun j => w0.heap.size ≤ j) w 3 1 v (n + 1) ((l.map (Value.int .i64)).take k ++ [Value.int IntKind.i64 i] ++ (l.map (Value.int .i64)).drop k)) :
    IsVec (fun j => P j ∨ w0.heap.size ≤ j) (w.setCell ⟨b, 2, none⟩ u) 3 1 v (insD l i).length ((insD l i).map (Value.int .i64)) := by
  have h := (hv.mod ((Mod.refl (· = b) w).setCell ⟨b, 2, none⟩ u (fun _ => rfl)) (fun j _ hj e => by omega)).mono (T := fun j => P j ∨ w0.heap.size ≤ j) (fun j _ hj => .inr hj)
  rw [hins.1]
  have hl : (l.take k ++ [i] ++ l.drop k).length = n + 1 := by
    have := hins.2
    simp; omega
  rw [hl]
  simpa [List.map_take, List.map_drop] using h
theorem insD_at (l : List Int) (i : Int) (k : Nat) (hs : l.Pairwise (· < ·)) (hk : k ≤ l.length) (h1 : ∀ j, j < k → l.getD j 0 < i) (h2 : k < l.length → i < l.getD k 0) : insD l i = l.take k ++ [i] ++ l.drop k := by
  rw [insD, if_neg, ins_at l i k hs hk h1 h2]
  intro hm
  obtain ⟨j, hj, rfl⟩ := List.getElem_of_mem hm
  by_cases hjk : j < k
  · have := h1 j hjk
    simp [hj] at this
  · have h3 := h2 (by omega)
    rw [show l.getD k 0 = l[k]'(by omega) by simp [show k < l.length by omega]] at h3
    by_cases he : j = k
    · subst he; omega
    · have := (List.pairwise_iff_getElem.1 hs) k j (by omega) hj (by omega)
      omega
set_option maxRecDepth 100000 in
set_option maxHeartbeats 4000000 in
theorem refDirty (b : Nat) (P : Nat → Prop) (v1 v2 v3 : Value) (f : Int) (dn : Bool) (l : List Int) (i : Int) (w : World) (ho : w.heap[b]? = some (.cells #[v1, v2, v3, .int .i64 f, .bool dn] 60 (0, 0))) (hr : IsVec P w 3 1 v3 l.length (l.map (Value.int .i64)))
    (hl : l.length ≤ 8192) (hs : l.Pairwise (· < ·)) :
    Calls Tryz.prog 52 #[.pointer (some ⟨b, 0, none⟩), .int .i64 i] w fun e w' => e = .returned (.tuple #[]) ∧ ∃ v3', w'.heap[b]? = some (.cells #[v1, v2, v3', .int .i64 f, .bool dn] 60 (0, 0)) ∧ IsVec (fun k => P k ∨ w.heap.size ≤ k) w' 3 1 v3' (insD l i).length ((insD l i).map (Value.int .i64)) ∧ Mod (· = b) w w' := by
  obtain ⟨n, hn⟩ : ∃ n, l.length = n := ⟨_, rfl⟩
  rw [hn] at hl
  have HR := Lib.hid hr
  have HO := Lib.hid ho
  have hi0 := info_parts info_int
  have HI := Lib.hid hi0
  clear hi0
  rcases vec_form hr with ⟨rfl, h0⟩ | ⟨g, c, rfl, hPg, hg, hnc, hcm⟩
  · have hl0 : l = [] := List.eq_nil_of_length_eq_zero h0
    have HINS := Lib.hid (show insD l i = l.take 0 ++ [i] ++ l.drop 0 ∧ l.length = 0 from by subst hl0; exact ⟨by simp [insD, asc], rfl⟩)
    have hbw : b < w.heap.size := heap_lt ho
    have HN := Lib.hid h0
    have HT : Hid (IsCells P w (.slice none 0 0) 0 ((l.map (Value.int .i64)).take 0)) := Lib.hid (cells_none _ _ _)
    have HD : Hid (IsCells P w (.slice none 0 0) 0 ((l.map (Value.int .i64)).drop 0)) := Lib.hid (by rw [hl0]; exact cells_none _ _ _)
    have HLK := Lib.hid (show ((l.map (Value.int .i64)).take 0).length = 0 from rfl)
    replace HO := Lib.hid ho
    clear hr hn hs hl0 h0 HR
    have c2 : w.cell? ⟨b, 2, none⟩ = some (.slice none 0 0) := cell_of ho 2
    have f2 : w.frozen? ⟨b, 2, none⟩ = false := free_of ho 2
    clear ho
    obtain ⟨i0, hi, hz0, hz1, hz2⟩ := HI.out
    go_enter Tryz.func52, Tryz.ntmps52
    go_wp2_with fail
    go_loopw [4] (fun v wr => v = .int .i64 0 ∧ wr = w) (fun v _ => 0)
    case atStart => exact ⟨rfl, rfl⟩
    case round =>
      obtain ⟨rfl, rfl⟩ := hrel
      go_wp2_with fail
      refine region_till (fun w' => w'.cell? ⟨b, 2, none⟩ = some (.slice none 0 0)) 21 (by kernel_rfl) ?_
      refine till_take (i := 0) (v := ?_) rfl (by kernel_rfl) (by kernel_rfl) (by kernel_rfl) (by kernel_rfl) (by kernel_rfl) (by kernel_rfl) (fun _ _ _ h => h) (Or.inl ⟨by rfl, ?_⟩) (c2) ?_
      rotate_left
      · intro w hSw; (try dsimp only at hSw); (first | (go_simp; done) | (go_simp; with_reducible rfl))
      (try simp only [Act.put, pT])
      refine till_take (i := 2) (v := ?_) rfl (by kernel_rfl) (by kernel_rfl) (by kernel_rfl) (by kernel_rfl) (by kernel_rfl) (by kernel_rfl) (fun _ _ _ h => h) (Or.inl ⟨by rfl, ?_⟩) (c2) ?_
      rotate_left
      · intro w hSw; (try dsimp only at hSw); (first | (go_simp; done) | (go_simp; with_reducible rfl))
      (try simp only [Act.put, pT])
      refine till_take (i := 3) (v := ?_) rfl (by kernel_rfl) (by kernel_rfl) (by kernel_rfl) (by kernel_rfl) (by kernel_rfl) (by kernel_rfl) (fun _ _ _ h => h) (Or.inl ⟨by rfl, ?_⟩) (c2) ?_
      rotate_left
      · intro w hSw; (try dsimp only at hSw); (first | (go_simp; done) | (go_simp; with_reducible rfl))
      (try simp only [Act.put, pT])
      refine till_take (i := 4) (v := ?_) rfl (by kernel_rfl) (by kernel_rfl) (by kernel_rfl) (by kernel_rfl) (by kernel_rfl) (by kernel_rfl) (fun _ _ _ h => h) (Or.inl ⟨by rfl, ?_⟩) (c2) ?_
      rotate_left
      · intro w hSw; (try dsimp only at hSw); (first | (go_simp; done) | (go_simp; with_reducible rfl))
      (try simp only [Act.put, pT])
      refine till_take (i := 5) (v := ?_) rfl (by kernel_rfl) (by kernel_rfl) (by kernel_rfl) (by kernel_rfl) (by kernel_rfl) (by kernel_rfl) (fun _ _ _ h => h) (Or.inl ⟨by rfl, ?_⟩) (c2) ?_
      rotate_left
      · intro w hSw; (try dsimp only at hSw); (first | (go_simp; done) | (go_simp; with_reducible rfl))
      (try simp only [Act.put, pT])
      refine till_take (i := 6) (v := ?_) rfl (by kernel_rfl) (by kernel_rfl) (by kernel_rfl) (by kernel_rfl) (by kernel_rfl) (by kernel_rfl) (fun _ _ _ h => h) (Or.inl ⟨by rfl, ?_⟩) (c2) ?_
      rotate_left
      · intro w hSw; (try dsimp only at hSw); (first | (go_simp; done) | (go_simp; with_reducible rfl))
      (try simp only [Act.put, pT])
      refine till_take (i := 7) (v := ?_) rfl (by kernel_rfl) (by kernel_rfl) (by kernel_rfl) (by kernel_rfl) (by kernel_rfl) (by kernel_rfl) (fun _ _ _ h => h) (Or.inl ⟨by rfl, ?_⟩) (c2) ?_
      rotate_left
      · intro w hSw; (try dsimp only at hSw); (first | (go_simp; done) | (go_simp; with_reducible rfl))
      (try simp only [Act.put, pT])
      refine till_take (i := 9) (v := ?_) rfl (by kernel_rfl) (by kernel_rfl) (by kernel_rfl) (by kernel_rfl) (by kernel_rfl) (by kernel_rfl) (fun _ _ _ h => h) (Or.inl ⟨by rfl, ?_⟩) (c2) ?_
      rotate_left
      · intro w hSw; (try dsimp only at hSw); (first | (go_simp; done) | (go_simp; with_reducible rfl))
      (try simp only [Act.put, pT])
      refine till_take (i := 12) (v := ?_) rfl (by kernel_rfl) (by kernel_rfl) (by kernel_rfl) (by kernel_rfl) (by kernel_rfl) (by kernel_rfl) (fun _ _ _ h => h) (Or.inl ⟨by rfl, ?_⟩) (c2) ?_
      rotate_left
      · intro w hSw; (try dsimp only at hSw); (first | (go_simp; done) | (go_simp; with_reducible rfl))
      (try simp only [Act.put, pT])
      refine till_take (i := 13) (v := ?_) rfl (by kernel_rfl) (by kernel_rfl) (by kernel_rfl) (by kernel_rfl) (by kernel_rfl) (by kernel_rfl) (fun _ _ _ h => h) (Or.inl ⟨by rfl, ?_⟩) (c2) ?_
      rotate_left
      · intro w hSw; (try dsimp only at hSw); (first | (go_simp; done) | (go_simp; with_reducible rfl))
      (try simp only [Act.put, pT])
      refine till_take (i := 14) (v := ?_) rfl (by kernel_rfl) (by kernel_rfl) (by kernel_rfl) (by kernel_rfl) (by kernel_rfl) (by kernel_rfl) (fun _ _ _ h => h) (Or.inl ⟨by rfl, ?_⟩) (c2) ?_
      rotate_left
      · intro w hSw; (try dsimp only at hSw); (first | (go_simp; done) | (go_simp; with_reducible rfl))
      (try simp only [Act.put, pT])
      refine till_take (i := 15) (v := ?_) rfl (by kernel_rfl) (by kernel_rfl) (by kernel_rfl) (by kernel_rfl) (by kernel_rfl) (by kernel_rfl) (fun _ _ _ h => h) (Or.inl ⟨by rfl, ?_⟩) (c2) ?_
      rotate_left
      · intro w hSw; (try dsimp only at hSw); (first | (go_simp; done) | (go_simp; with_reducible rfl))
      (try simp only [Act.put, pT])
      refine till_take (i := 16) (v := ?_) rfl (by kernel_rfl) (by kernel_rfl) (by kernel_rfl) (by kernel_rfl) (by kernel_rfl) (by kernel_rfl) (fun _ _ _ h => h) (Or.inl ⟨by rfl, ?_⟩) (c2) ?_
      rotate_left
      · intro w hSw; (try dsimp only at hSw); (first | (go_simp; done) | (go_simp; with_reducible rfl))
      (try simp only [Act.put, pT])
      refine till_take (i := 17) (v := ?_) rfl (by kernel_rfl) (by kernel_rfl) (by kernel_rfl) (by kernel_rfl) (by kernel_rfl) (by kernel_rfl) (fun _ _ _ h => h) (Or.inl ⟨by rfl, ?_⟩) (c2) ?_
      rotate_left
      · intro w hSw; (try dsimp only at hSw); (first | (go_simp; done) | (go_simp; with_reducible rfl))
      (try simp only [Act.put, pT])
      have HCB : Hid (∀ W, Mod nil wr W → W.cell? ⟨b, 2, none⟩ = some (.slice none 0 0)) := Lib.hid (fun W hW => cell_kept c2 hW hbw (not_nil _))
      refine till_ready (rs := [1, 10]) (by kernel_rfl) (by simp) ?_
      refine till_cons (i := 1) rfl (fun K hK => ?_) ?_
      · (try dsimp (config := { proj := false }) only [g0, g1, g2])
        go_simp
        refine hK.out _ _ (fun _ => HCB.out _ (((Mod.refl nil wr).alloc _).drew)) ?_
        clear hK K
        (try simp only [Act.put, pT])
        have hv := (vec_empty_at wr 3 1 _ rfl).modNil (Mod.refl nil _).drew
        have hM := ((Mod.refl nil wr).alloc (.cells #[] 3)).drew
        have hG : wr.heap.size ≤ wr.heap.size := Nat.le_refl _
        refine till_ready (rs := [8, 10]) (by kernel_rfl) (by simp) ?_
        refine till_cons (i := 8) rfl (fun K hK => ?_) ?_
        · (try dsimp (config := { proj := false }) only [g0, g1, g2])
          refine step_append_vec rfl _ _ _ rfl 3 i0 (.int .i64 0) 1 8 Tryz.underlying58 hi hz0 hz1 hz2 rfl (by omega) _ 0 [] rfl hv _ 0 _ rfl (HT.out.modNil hM) (by simp [HLK.out]) (fun u hu => ints_one l u (List.mem_of_mem_take hu)) (by unfold maxLen; omega) (by omega) ?_
          intro v6 w6 hv6 hm6
          rw [Nat.zero_add, List.nil_append] at hv6
          obtain ⟨p6, c6, rfl⟩ := hv6.form
          have hM6 : Mod nil wr w6 := hM.new hm6 (fun j hj => by rw [hj]; exact hG)
          replace hv6 := hv6.mono (T := fun j => wr.heap.size ≤ j) (fun j _ hj => by
            rcases hj with hj | hj
            · rw [hj]; exact hG
            · exact Nat.le_trans hM.size hj)
          refine hK.out _ _ (fun _ => HCB.out _ hM6) ?_
          clear hK K
          (try simp only [Act.put, pT])
          refine till_ready (rs := [10]) (by kernel_rfl) (by simp) ?_
          refine till_cons (i := 10) rfl (fun K hK => ?_) till_nil
          (try dsimp (config := { proj := false }) only [g0, g1, g2])
          go_simp
          refine hK.out _ _ (fun _ => HCB.out _ (hM6.alloc _)) ?_
          clear hK K
          (try simp only [Act.put, pT])
          have hB := cells_one_at w6 3 (.int .i64 i) _ rfl
          replace hv6 := hv6.modNil ((Mod.refl nil w6).alloc (.cells #[.int .i64 i] 3))
          replace hM6 := hM6.alloc (.cells #[.int .i64 i] 3)
          refine till_ready (rs := [11]) (by kernel_rfl) (by simp) ?_
          refine till_cons (i := 11) rfl (fun K hK => ?_) till_nil
          (try dsimp (config := { proj := false }) only [g0, g1, g2])
          refine step_append_vec (S := fun j => wr.heap.size ≤ j) rfl _ _ _ rfl 3 i0 (.int .i64 0) 1 8 Tryz.underlying58 hi hz0 hz1 hz2 rfl (by omega) _ 0 ((l.map (Value.int .i64)).take 0) rfl hv6 _ 1 [Value.int IntKind.i64 i] rfl hB rfl (by simp [Value.oneCell']) (by unfold maxLen; omega) (by omega) ?_
          intro v7 w7 hv7 hm7
          obtain ⟨p7, c7, rfl⟩ := hv7.form
          have hM7 : Mod nil wr w7 := hM6.new hm7 (fun j hj => hj)
          replace hv7 := hv7.mono (T := fun j => wr.heap.size ≤ j) (fun j _ hj => by
            rcases hj with hj | hj
            · exact hj
            · exact Nat.le_trans hM6.size hj)
          refine hK.out _ _ (fun _ => HCB.out _ hM7) ?_
          clear hK K
          (try simp only [Act.put, pT])
          refine till_ready (rs := [18]) (by kernel_rfl) (by simp) ?_
          refine till_cons (i := 18) rfl (fun K hK => ?_) till_nil
          (try dsimp (config := { proj := false }) only [g0, g1, g2])
          refine step_append_vec (S := fun j => wr.heap.size ≤ j) rfl _ _ _ rfl 3 i0 (.int .i64 0) 1 8 Tryz.underlying58 hi hz0 hz1 hz2 rfl (by omega) _ (0 + 1) ((l.map (Value.int .i64)).take 0 ++ [Value.int IntKind.i64 i]) rfl hv7 _ (0) _ rfl (HD.out.modNil hM7) (by simp [HN.out]) (fun u hu => ints_one l u (List.mem_of_mem_drop hu)) (by unfold maxLen; omega) (by omega) ?_
          intro v8 w8 hv8 hm8
          rw [show 0 + 1 + (0) = 0 + 1 by omega] at hv8
          obtain ⟨p8, c8, rfl⟩ := hv8.form
          have hM8 : Mod nil wr w8 := hM7.new hm8 (fun j hj => hj)
          replace hv8 := hv8.mono (T := fun j => wr.heap.size ≤ j) (fun j _ hj => by
            rcases hj with hj | hj
            · exact hj
            · exact Nat.le_trans hM7.size hj)
          refine hK.out _ _ (fun _ => HCB.out _ hM8) ?_
          clear hK K
          (try simp only [Act.put, pT])
          refine till_ready (rs := [19]) (by kernel_rfl) (by simp) ?_
          refine till_cons (i := 19) rfl (fun K hK => ?_) till_nil
          (try dsimp (config := { proj := false }) only [g0, g1, g2])
          go_simp
          refine hK.out _ _ (fun _ => HCB.out _ hM8) ?_
          clear hK K
          (try simp only [Act.put, pT])
          refine till_ready (rs := [20]) (by kernel_rfl) (by simp) ?_
          refine till_cons (i := 20) rfl (fun K hK => ?_) till_nil
          (try dsimp (config := { proj := false }) only [g0, g1, g2])
          go_simp
          refine hK.out _ _ (fun _ => HCB.out _ hM8) ?_
          clear hK K
          (try simp only [Act.put, pT])
          have cb8 := HCB.out _ hM8
          have fb8 : w8.frozen? ⟨b, 2, none⟩ = false := free_of (hM8.keep HO.out) 2
          refine till_ready (rs := [21]) (by kernel_rfl) (by simp) ?_
          refine till_cons (i := 21) rfl (fun K hK => ?_) till_nil
          (try dsimp (config := { proj := false }) only [g0, g1, g2])
          go_simp
          refine hK.out _ _ (fun h => (by simp at h)) ?_
          clear hK K
          (try simp only [Act.put, pT])
          refine till_done (by kernel_rfl) ?_ _
          go_wp2_with fail
          go_end0
          exact ⟨rfl, _, heap_setCell_same (hM8.keep HO.out) _, dirty_fin HINS.out (by omega) hv8, hM8.ofNil.setCell _ _ (fun _ => rfl)⟩
        refine till_cons (i := 10) rfl (fun K hK => ?_) till_nil
        (try dsimp (config := { proj := false }) only [g0, g1, g2])
        go_simp
        refine hK.out _ _ (fun _ => HCB.out _ ((((Mod.refl nil wr).alloc _).alloc _).drew)) ?_
        clear hK K
        (try simp only [Act.put, pT])
        have hB := (cells_one_at (wr.alloc (.cells #[] 3)) 3 (.int .i64 i) (wr.heap.size + 1) (by simp)).modNil (Mod.refl nil _).drew
        replace hv := ((vec_empty_at wr 3 1 _ rfl).modNil ((Mod.refl nil _).alloc (.cells #[.int .i64 i] 3))).modNil (Mod.refl nil _).drew
        replace hM := (((Mod.refl nil wr).alloc (.cells #[] 3)).alloc (.cells #[.int .i64 i] 3)).drew
        refine till_ready (rs := [8]) (by kernel_rfl) (by simp) ?_
        refine till_cons (i := 8) rfl (fun K hK => ?_) till_nil
        (try dsimp (config := { proj := false }) only [g0, g1, g2])
        refine step_append_vec rfl _ _ _ rfl 3 i0 (.int .i64 0) 1 8 Tryz.underlying58 hi hz0 hz1 hz2 rfl (by omega) _ 0 [] rfl hv _ 0 _ rfl (HT.out.modNil hM) (by simp [HLK.out]) (fun u hu => ints_one l u (List.mem_of_mem_take hu)) (by unfold maxLen; omega) (by omega) ?_
        intro v6 w6 hv6 hm6
        rw [Nat.zero_add, List.nil_append] at hv6
        obtain ⟨p6, c6, rfl⟩ := hv6.form
        have hM6 : Mod nil wr w6 := hM.new hm6 (fun j hj => by rw [hj]; exact hG)
        replace hv6 := hv6.mono (T := fun j => wr.heap.size ≤ j) (fun j _ hj => by
          rcases hj with hj | hj
          · rw [hj]; exact hG
          · exact Nat.le_trans hM.size hj)
        replace hB := hB.mod hm6 (fun j _ hj e => by omega)
        refine hK.out _ _ (fun _ => HCB.out _ hM6) ?_
        clear hK K
        (try simp only [Act.put, pT])
        refine till_ready (rs := [11]) (by kernel_rfl) (by simp) ?_
        refine till_cons (i := 11) rfl (fun K hK => ?_) till_nil
        (try dsimp (config := { proj := false }) only [g0, g1, g2])
        refine step_append_vec (S := fun j => wr.heap.size ≤ j) rfl _ _ _ rfl 3 i0 (.int .i64 0) 1 8 Tryz.underlying58 hi hz0 hz1 hz2 rfl (by omega) _ 0 ((l.map (Value.int .i64)).take 0) rfl hv6 _ 1 [Value.int IntKind.i64 i] rfl hB rfl (by simp [Value.oneCell']) (by unfold maxLen; omega) (by omega) ?_
        intro v7 w7 hv7 hm7
        obtain ⟨p7, c7, rfl⟩ := hv7.form
        have hM7 : Mod nil wr w7 := hM6.new hm7 (fun j hj => hj)
        replace hv7 := hv7.mono (T := fun j => wr.heap.size ≤ j) (fun j _ hj => by
          rcases hj with hj | hj
          · exact hj
          · exact Nat.le_trans hM6.size hj)
        refine hK.out _ _ (fun _ => HCB.out _ hM7) ?_
        clear hK K
        (try simp only [Act.put, pT])
        refine till_ready (rs := [18]) (by kernel_rfl) (by simp) ?_
        refine till_cons (i := 18) rfl (fun K hK => ?_) till_nil
        (try dsimp (config := { proj := false }) only [g0, g1, g2])
        refine step_append_vec (S := fun j => wr.heap.size ≤ j) rfl _ _ _ rfl 3 i0 (.int .i64 0) 1 8 Tryz.underlying58 hi hz0 hz1 hz2 rfl (by omega) _ (0 + 1) ((l.map (Value.int .i64)).take 0 ++ [Value.int IntKind.i64 i]) rfl hv7 _ (0) _ rfl (HD.out.modNil hM7) (by simp [HN.out]) (fun u hu => ints_one l u (List.mem_of_mem_drop hu)) (by unfold maxLen; omega) (by omega) ?_
        intro v8 w8 hv8 hm8
        rw [show 0 + 1 + (0) = 0 + 1 by omega] at hv8
        obtain ⟨p8, c8, rfl⟩ := hv8.form
        have hM8 : Mod nil wr w8 := hM7.new hm8 (fun j hj => hj)
        replace hv8 := hv8.mono (T := fun j => wr.heap.size ≤ j) (fun j _ hj => by
          rcases hj with hj | hj
          · exact hj
          · exact Nat.le_trans hM7.size hj)
        refine hK.out _ _ (fun _ => HCB.out _ hM8) ?_
        clear hK K
        (try simp only [Act.put, pT])
        refine till_ready (rs := [19]) (by kernel_rfl) (by simp) ?_
        refine till_cons (i := 19) rfl (fun K hK => ?_) till_nil
        (try dsimp (config := { proj := false }) only [g0, g1, g2])
        go_simp
        refine hK.out _ _ (fun _ => HCB.out _ hM8) ?_
        clear hK K
        (try simp only [Act.put, pT])
        refine till_ready (rs := [20]) (by kernel_rfl) (by simp) ?_
        refine till_cons (i := 20) rfl (fun K hK => ?_) till_nil
        (try dsimp (config := { proj := false }) only [g0, g1, g2])
        go_simp
        refine hK.out _ _ (fun _ => HCB.out _ hM8) ?_
        clear hK K
        (try simp only [Act.put, pT])
        have cb8 := HCB.out _ hM8
        have fb8 : w8.frozen? ⟨b, 2, none⟩ = false := free_of (hM8.keep HO.out) 2
        refine till_ready (rs := [21]) (by kernel_rfl) (by simp) ?_
        refine till_cons (i := 21) rfl (fun K hK => ?_) till_nil
        (try dsimp (config := { proj := false }) only [g0, g1, g2])
        go_simp
        refine hK.out _ _ (fun h => (by simp at h)) ?_
        clear hK K
        (try simp only [Act.put, pT])
        refine till_done (by kernel_rfl) ?_ _
        go_wp2_with fail
        go_end0
        exact ⟨rfl, _, heap_setCell_same (hM8.keep HO.out) _, dirty_fin HINS.out (by omega) hv8, hM8.ofNil.setCell _ _ (fun _ => rfl)⟩
      refine till_cons (i := 10) rfl (fun K hK => ?_) till_nil
      (try dsimp (config := { proj := false }) only [g0, g1, g2])
      go_simp
      refine hK.out _ _ (fun _ => HCB.out _ (((Mod.refl nil wr).alloc _).drew)) ?_
      clear hK K
      (try simp only [Act.put, pT])
      refine till_ready (rs := [1]) (by kernel_rfl) (by simp) ?_
      refine till_cons (i := 1) rfl (fun K hK => ?_) till_nil
      (try dsimp (config := { proj := false }) only [g0, g1, g2])
      go_simp
      refine hK.out _ _ (fun _ => HCB.out _ ((((Mod.refl nil wr).alloc _).alloc _).drew)) ?_
      clear hK K
      (try simp only [Act.put, pT])
      have hv := (vec_empty_at (wr.alloc (.cells #[.int .i64 i] 3)) 3 1 (wr.heap.size + 1) (by simp)).modNil (Mod.refl nil _).drew
      have hB := ((cells_one_at wr 3 (.int .i64 i) _ rfl).modNil ((Mod.refl nil _).alloc (.cells #[] 3))).modNil (Mod.refl nil _).drew
      have hM := (((Mod.refl nil wr).alloc (.cells #[.int .i64 i] 3)).alloc (.cells #[] 3)).drew
      have hG : wr.heap.size ≤ wr.heap.size + 1 := Nat.le_succ _
      refine till_ready (rs := [8]) (by kernel_rfl) (by simp) ?_
      refine till_cons (i := 8) rfl (fun K hK => ?_) till_nil
      (try dsimp (config := { proj := false }) only [g0, g1, g2])
      refine step_append_vec rfl _ _ _ rfl 3 i0 (.int .i64 0) 1 8 Tryz.underlying58 hi hz0 hz1 hz2 rfl (by omega) _ 0 [] rfl hv _ 0 _ rfl (HT.out.modNil hM) (by simp [HLK.out]) (fun u hu => ints_one l u (List.mem_of_mem_take hu)) (by unfold maxLen; omega) (by omega) ?_
      intro v6 w6 hv6 hm6
      rw [Nat.zero_add, List.nil_append] at hv6
      obtain ⟨p6, c6, rfl⟩ := hv6.form
      have hM6 : Mod nil wr w6 := hM.new hm6 (fun j hj => by rw [hj]; exact hG)
      replace hv6 := hv6.mono (T := fun j => wr.heap.size ≤ j) (fun j _ hj => by
        rcases hj with hj | hj
        · rw [hj]; exact hG
        · exact Nat.le_trans hM.size hj)
      replace hB := hB.mod hm6 (fun j _ hj e => by omega)
      refine hK.out _ _ (fun _ => HCB.out _ hM6) ?_
      clear hK K
      (try simp only [Act.put, pT])
      refine till_ready (rs := [11]) (by kernel_rfl) (by simp) ?_
      refine till_cons (i := 11) rfl (fun K hK => ?_) till_nil
      (try dsimp (config := { proj := false }) only [g0, g1, g2])
      refine step_append_vec (S := fun j => wr.heap.size ≤ j) rfl _ _ _ rfl 3 i0 (.int .i64 0) 1 8 Tryz.underlying58 hi hz0 hz1 hz2 rfl (by omega) _ 0 ((l.map (Value.int .i64)).take 0) rfl hv6 _ 1 [Value.int IntKind.i64 i] rfl hB rfl (by simp [Value.oneCell']) (by unfold maxLen; omega) (by omega) ?_
      intro v7 w7 hv7 hm7
      obtain ⟨p7, c7, rfl⟩ := hv7.form
      have hM7 : Mod nil wr w7 := hM6.new hm7 (fun j hj => hj)
      replace hv7 := hv7.mono (T := fun j => wr.heap.size ≤ j) (fun j _ hj => by
        rcases hj with hj | hj
        · exact hj
        · exact Nat.le_trans hM6.size hj)
      refine hK.out _ _ (fun _ => HCB.out _ hM7) ?_
      clear hK K
      (try simp only [Act.put, pT])
      refine till_ready (rs := [18]) (by kernel_rfl) (by simp) ?_
      refine till_cons (i := 18) rfl (fun K hK => ?_) till_nil
      (try dsimp (config := { proj := false }) only [g0, g1, g2])
      refine step_append_vec (S := fun j => wr.heap.size ≤ j) rfl _ _ _ rfl 3 i0 (.int .i64 0) 1 8 Tryz.underlying58 hi hz0 hz1 hz2 rfl (by omega) _ (0 + 1) ((l.map (Value.int .i64)).take 0 ++ [Value.int IntKind.i64 i]) rfl hv7 _ (0) _ rfl (HD.out.modNil hM7) (by simp [HN.out]) (fun u hu => ints_one l u (List.mem_of_mem_drop hu)) (by unfold maxLen; omega) (by omega) ?_
      intro v8 w8 hv8 hm8
      rw [show 0 + 1 + (0) = 0 + 1 by omega] at hv8
      obtain ⟨p8, c8, rfl⟩ := hv8.form
      have hM8 : Mod nil wr w8 := hM7.new hm8 (fun j hj => hj)
      replace hv8 := hv8.mono (T := fun j => wr.heap.size ≤ j) (fun j _ hj => by
        rcases hj with hj | hj
        · exact hj
        · exact Nat.le_trans hM7.size hj)
      refine hK.out _ _ (fun _ => HCB.out _ hM8) ?_
      clear hK K
      (try simp only [Act.put, pT])
      refine till_ready (rs := [19]) (by kernel_rfl) (by simp) ?_
      refine till_cons (i := 19) rfl (fun K hK => ?_) till_nil
      (try dsimp (config := { proj := false }) only [g0, g1, g2])
      go_simp
      refine hK.out _ _ (fun _ => HCB.out _ hM8) ?_
      clear hK K
      (try simp only [Act.put, pT])
      refine till_ready (rs := [20]) (by kernel_rfl) (by simp) ?_
      refine till_cons (i := 20) rfl (fun K hK => ?_) till_nil
      (try dsimp (config := { proj := false }) only [g0, g1, g2])
      go_simp
      refine hK.out _ _ (fun _ => HCB.out _ hM8) ?_
      clear hK K
      (try simp only [Act.put, pT])
      have cb8 := HCB.out _ hM8
      have fb8 : w8.frozen? ⟨b, 2, none⟩ = false := free_of (hM8.keep HO.out) 2
      refine till_ready (rs := [21]) (by kernel_rfl) (by simp) ?_
      refine till_cons (i := 21) rfl (fun K hK => ?_) till_nil
      (try dsimp (config := { proj := false }) only [g0, g1, g2])
      go_simp
      refine hK.out _ _ (fun h => (by simp at h)) ?_
      clear hK K
      (try simp only [Act.put, pT])
      refine till_done (by kernel_rfl) ?_ _
      go_wp2_with fail
      go_end0
      exact ⟨rfl, _, heap_setCell_same (hM8.keep HO.out) _, dirty_fin HINS.out (by omega) hv8, hM8.ofNil.setCell _ _ (fun _ => rfl)⟩
  · rw [hn] at ho hr hnc
    have c2 : w.cell? ⟨b, 2, none⟩ = some (.slice (some ⟨g, 0, none⟩) n c) := cell_of ho 2
    have f2 : w.frozen? ⟨b, 2, none⟩ = false := free_of ho 2
    have hrow := hr.row
    have HN := Lib.hid hn
    have HS := Lib.hid hs
    have HROW := Lib.hid hrow
    clear ho hn hs hr hrow
    go_enter Tryz.func52, Tryz.ntmps52
    go_wp2_with fail
    go_loopw [4] (fun v wr => ∃ k : Nat, k ≤ n ∧ v = .int .i64 k ∧ wr = w ∧ ∀ j, j < k → l.getD j 0 < i) (fun v _ => n - (intOf v).toNat)
    case atStart => exact ⟨0, by omega, rfl, rfl, fun j hj => by omega⟩
    case round =>
      obtain ⟨k, hk, rfl, rfl, hall⟩ := hrel
      have HALL := Lib.hid hall
      clear hall
      have hbw : b < wr.heap.size := heap_lt HO.out
      by_cases hlt : k < n
      · obtain ⟨x, hx⟩ : ∃ x, l.getD k 0 = x := ⟨_, rfl⟩
        have hcx : wr.cell? ⟨g, k, none⟩ = some (.int .i64 x) := by
          obtain ⟨p', c', hv, hc⟩ := HROW.out
          have hkl : k < l.length := by have := HN.out; omega
          obtain ⟨b', off, hp, _, _, hcell⟩ := hc k (by simpa using hkl)
          simp only [Value.slice.injEq] at hv
          obtain ⟨rfl, -, rfl⟩ := hv
          simp only [Option.some.injEq, Addr.mk.injEq, and_true] at hp
          obtain ⟨rfl, rfl⟩ := hp
          rw [Nat.zero_add] at hcell
          rw [hcell, ← hx]
          simp [hkl]
        have HX := Lib.hid hx
        clear hx
        rcases (show x < i ∨ x = i ∨ i < x by omega) with hxi | hxi | hxi
        · go_wp2_with fail
          refine ⟨⟨k + 1, by omega, by go_num, trivial, fun j hj => ?_⟩, by simp [intOf]; omega⟩
          by_cases hjk : j = k
          · subst hjk; rw [HX.out]; exact hxi
          · exact HALL.out j (by omega)
        · subst hxi
          go_wp2_with fail
          (try simp only [Exit.inBlock, Exit.then]); refine bodyPost_ret (results_none rfl _ _ _) rfl ?_
          refine ⟨rfl, _, by rw [HO.out, HN.out], ?_, Mod.refl _ _⟩
          have hm : x ∈ l := by
            rw [← HX.out]
            have := HN.out
            simp [show k < l.length by omega]
          rw [insD, if_pos hm]
          have := HR.out.mono (fun j _ h => (Or.inl h : P j ∨ wr.heap.size ≤ j))
          rw [HN.out] at this ⊢
          exact this
        · have ca1 : ∀ o, (wr.alloc o).cell? ⟨b, 2, none⟩ = some (.slice (some ⟨g, 0, none⟩) n c) := fun o => cell_kept c2 ((Mod.refl nil wr).alloc o) hbw (not_nil _)
          have ca2 : ∀ o o', ((wr.alloc o).alloc o').cell? ⟨b, 2, none⟩ = some (.slice (some ⟨g, 0, none⟩) n c) := fun o o' => cell_kept c2 (((Mod.refl nil wr).alloc o).alloc o') hbw (not_nil _)
          have hkc : k ≤ c := by omega
          have hkc' : ¬ c = k := by omega
          go_wp2_with fail
          obtain ⟨i0, hi, hz0, hz1, hz2⟩ := HI.out
          have HINS := Lib.hid (And.intro (insD_at l i k HS.out (by have := HN.out; omega) HALL.out (fun _ => by rw [HX.out]; exact hxi)) HN.out)
          have HT := Lib.hid (HROW.out.takeCells k c)
          have hlk : ((l.map (Value.int .i64)).take k).length = k := by have := HN.out; simp; omega
          have HLK := Lib.hid hlk
          have hdr := HROW.out.dropCells k (n - k) (c - k)
          rw [Nat.zero_add] at hdr
          have HD := Lib.hid hdr
          clear hlk hdr
          refine region_till (fun w' => w'.cell? ⟨b, 2, none⟩ = some (.slice (some ⟨g, 0, none⟩) n c)) 21 (by kernel_rfl) ?_
          refine till_take (i := 0) (v := ?_) rfl (by kernel_rfl) (by kernel_rfl) (by kernel_rfl) (by kernel_rfl) (by kernel_rfl) (by kernel_rfl) (fun _ _ _ h => h) (Or.inl ⟨by rfl, ?_⟩) (c2) ?_
          rotate_left
          · intro w hSw; (try dsimp only at hSw); (first | (go_simp; done) | (go_simp; with_reducible rfl))
          (try simp only [Act.put, pT])
          refine till_take (i := 2) (v := ?_) rfl (by kernel_rfl) (by kernel_rfl) (by kernel_rfl) (by kernel_rfl) (by kernel_rfl) (by kernel_rfl) (fun _ _ _ h => h) (Or.inl ⟨by rfl, ?_⟩) (c2) ?_
          rotate_left
          · intro w hSw; (try dsimp only at hSw); (first | (go_simp; done) | (go_simp; with_reducible rfl))
          (try simp only [Act.put, pT])
          refine till_take (i := 3) (v := ?_) rfl (by kernel_rfl) (by kernel_rfl) (by kernel_rfl) (by kernel_rfl) (by kernel_rfl) (by kernel_rfl) (fun _ _ _ h => h) (Or.inl ⟨by rfl, ?_⟩) (c2) ?_
          rotate_left
          · intro w hSw; (try dsimp only at hSw); (first | (go_simp; done) | (go_simp; with_reducible rfl))
          (try simp only [Act.put, pT])
          refine till_take (i := 4) (v := ?_) rfl (by kernel_rfl) (by kernel_rfl) (by kernel_rfl) (by kernel_rfl) (by kernel_rfl) (by kernel_rfl) (fun _ _ _ h => h) (Or.inl ⟨by rfl, ?_⟩) (c2) ?_
          rotate_left
          · intro w hSw; (try dsimp only at hSw); (first | (go_simp; done) | (go_simp; with_reducible rfl))
          (try simp only [Act.put, pT])
          refine till_take (i := 5) (v := ?_) rfl (by kernel_rfl) (by kernel_rfl) (by kernel_rfl) (by kernel_rfl) (by kernel_rfl) (by kernel_rfl) (fun _ _ _ h => h) (Or.inl ⟨by rfl, ?_⟩) (c2) ?_
          rotate_left
          · intro w hSw; (try dsimp only at hSw); (first | (go_simp; done) | (go_simp; with_reducible rfl))
          (try simp only [Act.put, pT])
          refine till_take (i := 6) (v := ?_) rfl (by kernel_rfl) (by kernel_rfl) (by kernel_rfl) (by kernel_rfl) (by kernel_rfl) (by kernel_rfl) (fun _ _ _ h => h) (Or.inl ⟨by rfl, ?_⟩) (c2) ?_
          rotate_left
          · intro w hSw; (try dsimp only at hSw); (first | (go_simp; done) | (go_simp; with_reducible rfl))
          (try simp only [Act.put, pT])
          refine till_take (i := 7) (v := ?_) rfl (by kernel_rfl) (by kernel_rfl) (by kernel_rfl) (by kernel_rfl) (by kernel_rfl) (by kernel_rfl) (fun _ _ _ h => h) (Or.inl ⟨by rfl, ?_⟩) (c2) ?_
          rotate_left
          · intro w hSw; (try dsimp only at hSw); (first | (go_simp; done) | (go_simp; with_reducible rfl))
          (try simp only [Act.put, pT])
          refine till_take (i := 9) (v := ?_) rfl (by kernel_rfl) (by kernel_rfl) (by kernel_rfl) (by kernel_rfl) (by kernel_rfl) (by kernel_rfl) (fun _ _ _ h => h) (Or.inl ⟨by rfl, ?_⟩) (c2) ?_
          rotate_left
          · intro w hSw; (try dsimp only at hSw); (first | (go_simp; done) | (go_simp; with_reducible rfl))
          (try simp only [Act.put, pT])
          refine till_take (i := 12) (v := ?_) rfl (by kernel_rfl) (by kernel_rfl) (by kernel_rfl) (by kernel_rfl) (by kernel_rfl) (by kernel_rfl) (fun _ _ _ h => h) (Or.inl ⟨by rfl, ?_⟩) (c2) ?_
          rotate_left
          · intro w hSw; (try dsimp only at hSw); (first | (go_simp; done) | (go_simp; with_reducible rfl))
          (try simp only [Act.put, pT])
          refine till_take (i := 13) (v := ?_) rfl (by kernel_rfl) (by kernel_rfl) (by kernel_rfl) (by kernel_rfl) (by kernel_rfl) (by kernel_rfl) (fun _ _ _ h => h) (Or.inl ⟨by rfl, ?_⟩) (c2) ?_
          rotate_left
          · intro w hSw; (try dsimp only at hSw); (first | (go_simp; done) | (go_simp; with_reducible rfl))
          (try simp only [Act.put, pT])
          refine till_take (i := 14) (v := ?_) rfl (by kernel_rfl) (by kernel_rfl) (by kernel_rfl) (by kernel_rfl) (by kernel_rfl) (by kernel_rfl) (fun _ _ _ h => h) (Or.inl ⟨by rfl, ?_⟩) (c2) ?_
          rotate_left
          · intro w hSw; (try dsimp only at hSw); (first | (go_simp; done) | (go_simp; with_reducible rfl))
          (try simp only [Act.put, pT])
          refine till_take (i := 15) (v := ?_) rfl (by kernel_rfl) (by kernel_rfl) (by kernel_rfl) (by kernel_rfl) (by kernel_rfl) (by kernel_rfl) (fun _ _ _ h => h) (Or.inl ⟨by rfl, ?_⟩) (c2) ?_
          rotate_left
          · intro w hSw; (try dsimp only at hSw); (first | (go_simp; done) | (go_simp; with_reducible rfl))
          (try simp only [Act.put, pT])
          refine till_take (i := 16) (v := ?_) rfl (by kernel_rfl) (by kernel_rfl) (by kernel_rfl) (by kernel_rfl) (by kernel_rfl) (by kernel_rfl) (fun _ _ _ h => h) (Or.inl ⟨by rfl, ?_⟩) (c2) ?_
          rotate_left
          · intro w hSw; (try dsimp only at hSw); (first | (go_simp; done) | (go_simp; with_reducible rfl))
          (try simp only [Act.put, pT])
          refine till_take (i := 17) (v := ?_) rfl (by kernel_rfl) (by kernel_rfl) (by kernel_rfl) (by kernel_rfl) (by kernel_rfl) (by kernel_rfl) (fun _ _ _ h => h) (Or.inl ⟨by rfl, ?_⟩) (c2) ?_
          rotate_left
          · intro w hSw; (try dsimp only at hSw); (first | (go_simp; done) | (go_simp; with_reducible rfl))
          (try simp only [Act.put, pT])
          have HCB : Hid (∀ W, Mod nil wr W → W.cell? ⟨b, 2, none⟩ = some (.slice (some ⟨g, 0, none⟩) n c)) := Lib.hid (fun W hW => cell_kept c2 hW hbw (not_nil _))
          refine till_ready (rs := [1, 10]) (by kernel_rfl) (by simp) ?_
          refine till_cons (i := 1) rfl (fun K hK => ?_) ?_
          · (try dsimp (config := { proj := false }) only [g0, g1, g2])
            go_simp
            refine hK.out _ _ (fun _ => HCB.out _ (((Mod.refl nil wr).alloc _).drew)) ?_
            clear hK K
            (try simp only [Act.put, pT])
            have hv := (vec_empty_at wr 3 1 _ rfl).modNil (Mod.refl nil _).drew
            have hM := ((Mod.refl nil wr).alloc (.cells #[] 3)).drew
            have hG : wr.heap.size ≤ wr.heap.size := Nat.le_refl _
            refine till_ready (rs := [8, 10]) (by kernel_rfl) (by simp) ?_
            refine till_cons (i := 8) rfl (fun K hK => ?_) ?_
            · (try dsimp (config := { proj := false }) only [g0, g1, g2])
              refine step_append_vec rfl _ _ _ rfl 3 i0 (.int .i64 0) 1 8 Tryz.underlying58 hi hz0 hz1 hz2 rfl (by omega) _ 0 [] rfl hv _ k _ rfl (HT.out.modNil hM) (by simp [HLK.out]) (fun u hu => ints_one l u (List.mem_of_mem_take hu)) (by unfold maxLen; omega) (by omega) ?_
              intro v6 w6 hv6 hm6
              rw [Nat.zero_add, List.nil_append] at hv6
              obtain ⟨p6, c6, rfl⟩ := hv6.form
              have hM6 : Mod nil wr w6 := hM.new hm6 (fun j hj => by rw [hj]; exact hG)
              replace hv6 := hv6.mono (T := fun j => wr.heap.size ≤ j) (fun j _ hj => by
                rcases hj with hj | hj
                · rw [hj]; exact hG
                · exact Nat.le_trans hM.size hj)
              refine hK.out _ _ (fun _ => HCB.out _ hM6) ?_
              clear hK K
              (try simp only [Act.put, pT])
              refine till_ready (rs := [10]) (by kernel_rfl) (by simp) ?_
              refine till_cons (i := 10) rfl (fun K hK => ?_) till_nil
              (try dsimp (config := { proj := false }) only [g0, g1, g2])
              go_simp
              refine hK.out _ _ (fun _ => HCB.out _ (hM6.alloc _)) ?_
              clear hK K
              (try simp only [Act.put, pT])
              have hB := cells_one_at w6 3 (.int .i64 i) _ rfl
              replace hv6 := hv6.modNil ((Mod.refl nil w6).alloc (.cells #[.int .i64 i] 3))
              replace hM6 := hM6.alloc (.cells #[.int .i64 i] 3)
              refine till_ready (rs := [11]) (by kernel_rfl) (by simp) ?_
              refine till_cons (i := 11) rfl (fun K hK => ?_) till_nil
              (try dsimp (config := { proj := false }) only [g0, g1, g2])
              refine step_append_vec (S := fun j => wr.heap.size ≤ j) rfl _ _ _ rfl 3 i0 (.int .i64 0) 1 8 Tryz.underlying58 hi hz0 hz1 hz2 rfl (by omega) _ k ((l.map (Value.int .i64)).take k) rfl hv6 _ 1 [Value.int IntKind.i64 i] rfl hB rfl (by simp [Value.oneCell']) (by unfold maxLen; omega) (by omega) ?_
              intro v7 w7 hv7 hm7
              obtain ⟨p7, c7, rfl⟩ := hv7.form
              have hM7 : Mod nil wr w7 := hM6.new hm7 (fun j hj => hj)
              replace hv7 := hv7.mono (T := fun j => wr.heap.size ≤ j) (fun j _ hj => by
                rcases hj with hj | hj
                · exact hj
                · exact Nat.le_trans hM6.size hj)
              refine hK.out _ _ (fun _ => HCB.out _ hM7) ?_
              clear hK K
              (try simp only [Act.put, pT])
              refine till_ready (rs := [18]) (by kernel_rfl) (by simp) ?_
              refine till_cons (i := 18) rfl (fun K hK => ?_) till_nil
              (try dsimp (config := { proj := false }) only [g0, g1, g2])
              refine step_append_vec (S := fun j => wr.heap.size ≤ j) rfl _ _ _ rfl 3 i0 (.int .i64 0) 1 8 Tryz.underlying58 hi hz0 hz1 hz2 rfl (by omega) _ (k + 1) ((l.map (Value.int .i64)).take k ++ [Value.int IntKind.i64 i]) rfl hv7 _ (n - k) _ rfl (HD.out.modNil hM7) (by simp [HN.out]) (fun u hu => ints_one l u (List.mem_of_mem_drop hu)) (by unfold maxLen; omega) (by omega) ?_
              intro v8 w8 hv8 hm8
              rw [show k + 1 + (n - k) = n + 1 by omega] at hv8
              obtain ⟨p8, c8, rfl⟩ := hv8.form
              have hM8 : Mod nil wr w8 := hM7.new hm8 (fun j hj => hj)
              replace hv8 := hv8.mono (T := fun j => wr.heap.size ≤ j) (fun j _ hj => by
                rcases hj with hj | hj
                · exact hj
                · exact Nat.le_trans hM7.size hj)
              refine hK.out _ _ (fun _ => HCB.out _ hM8) ?_
              clear hK K
              (try simp only [Act.put, pT])
              refine till_ready (rs := [19]) (by kernel_rfl) (by simp) ?_
              refine till_cons (i := 19) rfl (fun K hK => ?_) till_nil
              (try dsimp (config := { proj := false }) only [g0, g1, g2])
              go_simp
              refine hK.out _ _ (fun _ => HCB.out _ hM8) ?_
              clear hK K
              (try simp only [Act.put, pT])
              refine till_ready (rs := [20]) (by kernel_rfl) (by simp) ?_
              refine till_cons (i := 20) rfl (fun K hK => ?_) till_nil
              (try dsimp (config := { proj := false }) only [g0, g1, g2])
              go_simp
              refine hK.out _ _ (fun _ => HCB.out _ hM8) ?_
              clear hK K
              (try simp only [Act.put, pT])
              have cb8 := HCB.out _ hM8
              have fb8 : w8.frozen? ⟨b, 2, none⟩ = false := free_of (hM8.keep HO.out) 2
              refine till_ready (rs := [21]) (by kernel_rfl) (by simp) ?_
              refine till_cons (i := 21) rfl (fun K hK => ?_) till_nil
              (try dsimp (config := { proj := false }) only [g0, g1, g2])
              go_simp
              refine hK.out _ _ (fun h => (by simp at h)) ?_
              clear hK K
              (try simp only [Act.put, pT])
              refine till_done (by kernel_rfl) ?_ _
              go_wp2_with fail
              go_end0
              exact ⟨rfl, _, heap_setCell_same (hM8.keep HO.out) _, dirty_fin HINS.out (by omega) hv8, hM8.ofNil.setCell _ _ (fun _ => rfl)⟩
            refine till_cons (i := 10) rfl (fun K hK => ?_) till_nil
            (try dsimp (config := { proj := false }) only [g0, g1, g2])
            go_simp
            refine hK.out _ _ (fun _ => HCB.out _ ((((Mod.refl nil wr).alloc _).alloc _).drew)) ?_
            clear hK K
            (try simp only [Act.put, pT])
            have hB := (cells_one_at (wr.alloc (.cells #[] 3)) 3 (.int .i64 i) (wr.heap.size + 1) (by simp)).modNil (Mod.refl nil _).drew
            replace hv := ((vec_empty_at wr 3 1 _ rfl).modNil ((Mod.refl nil _).alloc (.cells #[.int .i64 i] 3))).modNil (Mod.refl nil _).drew
            replace hM := (((Mod.refl nil wr).alloc (.cells #[] 3)).alloc (.cells #[.int .i64 i] 3)).drew
            refine till_ready (rs := [8]) (by kernel_rfl) (by simp) ?_
            refine till_cons (i := 8) rfl (fun K hK => ?_) till_nil
            (try dsimp (config := { proj := false }) only [g0, g1, g2])
            refine step_append_vec rfl _ _ _ rfl 3 i0 (.int .i64 0) 1 8 Tryz.underlying58 hi hz0 hz1 hz2 rfl (by omega) _ 0 [] rfl hv _ k _ rfl (HT.out.modNil hM) (by simp [HLK.out]) (fun u hu => ints_one l u (List.mem_of_mem_take hu)) (by unfold maxLen; omega) (by omega) ?_
            intro v6 w6 hv6 hm6
            rw [Nat.zero_add, List.nil_append] at hv6
            obtain ⟨p6, c6, rfl⟩ := hv6.form
            have hM6 : Mod nil wr w6 := hM.new hm6 (fun j hj => by rw [hj]; exact hG)
            replace hv6 := hv6.mono (T := fun j => wr.heap.size ≤ j) (fun j _ hj => by
              rcases hj with hj | hj
              · rw [hj]; exact hG
              · exact Nat.le_trans hM.size hj)
            replace hB := hB.mod hm6 (fun j _ hj e => by omega)
            refine hK.out _ _ (fun _ => HCB.out _ hM6) ?_
            clear hK K
            (try simp only [Act.put, pT])
            refine till_ready (rs := [11]) (by kernel_rfl) (by simp) ?_
            refine till_cons (i := 11) rfl (fun K hK => ?_) till_nil
            (try dsimp (config := { proj := false }) only [g0, g1, g2])
            refine step_append_vec (S := fun j => wr.heap.size ≤ j) rfl _ _ _ rfl 3 i0 (.int .i64 0) 1 8 Tryz.underlying58 hi hz0 hz1 hz2 rfl (by omega) _ k ((l.map (Value.int .i64)).take k) rfl hv6 _ 1 [Value.int IntKind.i64 i] rfl hB rfl (by simp [Value.oneCell']) (by unfold maxLen; omega) (by omega) ?_
            intro v7 w7 hv7 hm7
            obtain ⟨p7, c7, rfl⟩ := hv7.form
            have hM7 : Mod nil wr w7 := hM6.new hm7 (fun j hj => hj)
            replace hv7 := hv7.mono (T := fun j => wr.heap.size ≤ j) (fun j _ hj => by
              rcases hj with hj | hj
              · exact hj
              · exact Nat.le_trans hM6.size hj)
            refine hK.out _ _ (fun _ => HCB.out _ hM7) ?_
            clear hK K
            (try simp only [Act.put, pT])
            refine till_ready (rs := [18]) (by kernel_rfl) (by simp) ?_
            refine till_cons (i := 18) rfl (fun K hK => ?_) till_nil
            (try dsimp (config := { proj := false }) only [g0, g1, g2])
            refine step_append_vec (S := fun j => wr.heap.size ≤ j) rfl _ _ _ rfl 3 i0 (.int .i64 0) 1 8 Tryz.underlying58 hi hz0 hz1 hz2 rfl (by omega) _ (k + 1) ((l.map (Value.int .i64)).take k ++ [Value.int IntKind.i64 i]) rfl hv7 _ (n - k) _ rfl (HD.out.modNil hM7) (by simp [HN.out]) (fun u hu => ints_one l u (List.mem_of_mem_drop hu)) (by unfold maxLen; omega) (by omega) ?_
            intro v8 w8 hv8 hm8
            rw [show k + 1 + (n - k) = n + 1 by omega] at hv8
            obtain ⟨p8, c8, rfl⟩ := hv8.form
            have hM8 : Mod nil wr w8 := hM7.new hm8 (fun j hj => hj)
            replace hv8 := hv8.mono (T := fun j => wr.heap.size ≤ j) (fun j _ hj => by
              rcases hj with hj | hj
              · exact hj
              · exact Nat.le_trans hM7.size hj)
            refine hK.out _ _ (fun _ => HCB.out _ hM8) ?_
            clear hK K
            (try simp only [Act.put, pT])
            refine till_ready (rs := [19]) (by kernel_rfl) (by simp) ?_
            refine till_cons (i := 19) rfl (fun K hK => ?_) till_nil
            (try dsimp (config := { proj := false }) only [g0, g1, g2])
            go_simp
            refine hK.out _ _ (fun _ => HCB.out _ hM8) ?_
            clear hK K
            (try simp only [Act.put, pT])
            refine till_ready (rs := [20]) (by kernel_rfl) (by simp) ?_
            refine till_cons (i := 20) rfl (fun K hK => ?_) till_nil
            (try dsimp (config := { proj := false }) only [g0, g1, g2])
            go_simp
            refine hK.out _ _ (fun _ => HCB.out _ hM8) ?_
            clear hK K
            (try simp only [Act.put, pT])
            have cb8 := HCB.out _ hM8
            have fb8 : w8.frozen? ⟨b, 2, none⟩ = false := free_of (hM8.keep HO.out) 2
            refine till_ready (rs := [21]) (by kernel_rfl) (by simp) ?_
            refine till_cons (i := 21) rfl (fun K hK => ?_) till_nil
            (try dsimp (config := { proj := false }) only [g0, g1, g2])
            go_simp
            refine hK.out _ _ (fun h => (by simp at h)) ?_
            clear hK K
            (try simp only [Act.put, pT])
            refine till_done (by kernel_rfl) ?_ _
            go_wp2_with fail
            go_end0
            exact ⟨rfl, _, heap_setCell_same (hM8.keep HO.out) _, dirty_fin HINS.out (by omega) hv8, hM8.ofNil.setCell _ _ (fun _ => rfl)⟩
          refine till_cons (i := 10) rfl (fun K hK => ?_) till_nil
          (try dsimp (config := { proj := false }) only [g0, g1, g2])
          go_simp
          refine hK.out _ _ (fun _ => HCB.out _ (((Mod.refl nil wr).alloc _).drew)) ?_
          clear hK K
          (try simp only [Act.put, pT])
          refine till_ready (rs := [1]) (by kernel_rfl) (by simp) ?_
          refine till_cons (i := 1) rfl (fun K hK => ?_) till_nil
          (try dsimp (config := { proj := false }) only [g0, g1, g2])
          go_simp
          refine hK.out _ _ (fun _ => HCB.out _ ((((Mod.refl nil wr).alloc _).alloc _).drew)) ?_
          clear hK K
          (try simp only [Act.put, pT])
          have hv := (vec_empty_at (wr.alloc (.cells #[.int .i64 i] 3)) 3 1 (wr.heap.size + 1) (by simp)).modNil (Mod.refl nil _).drew
          have hB := ((cells_one_at wr 3 (.int .i64 i) _ rfl).modNil ((Mod.refl nil _).alloc (.cells #[] 3))).modNil (Mod.refl nil _).drew
          have hM := (((Mod.refl nil wr).alloc (.cells #[.int .i64 i] 3)).alloc (.cells #[] 3)).drew
          have hG : wr.heap.size ≤ wr.heap.size + 1 := Nat.le_succ _
          refine till_ready (rs := [8]) (by kernel_rfl) (by simp) ?_
          refine till_cons (i := 8) rfl (fun K hK => ?_) till_nil
          (try dsimp (config := { proj := false }) only [g0, g1, g2])
          refine step_append_vec rfl _ _ _ rfl 3 i0 (.int .i64 0) 1 8 Tryz.underlying58 hi hz0 hz1 hz2 rfl (by omega) _ 0 [] rfl hv _ k _ rfl (HT.out.modNil hM) (by simp [HLK.out]) (fun u hu => ints_one l u (List.mem_of_mem_take hu)) (by unfold maxLen; omega) (by omega) ?_
          intro v6 w6 hv6 hm6
          rw [Nat.zero_add, List.nil_append] at hv6
          obtain ⟨p6, c6, rfl⟩ := hv6.form
          have hM6 : Mod nil wr w6 := hM.new hm6 (fun j hj => by rw [hj]; exact hG)
          replace hv6 := hv6.mono (T := fun j => wr.heap.size ≤ j) (fun j _ hj => by
            rcases hj with hj | hj
            · rw [hj]; exact hG
            · exact Nat.le_trans hM.size hj)
          replace hB := hB.mod hm6 (fun j _ hj e => by omega)
          refine hK.out _ _ (fun _ => HCB.out _ hM6) ?_
          clear hK K
          (try simp only [Act.put, pT])
          refine till_ready (rs := [11]) (by kernel_rfl) (by simp) ?_
          refine till_cons (i := 11) rfl (fun K hK => ?_) till_nil
          (try dsimp (config := { proj := false }) only [g0, g1, g2])
          refine step_append_vec (S := fun j => wr.heap.size ≤ j) rfl _ _ _ rfl 3 i0 (.int .i64 0) 1 8 Tryz.underlying58 hi hz0 hz1 hz2 rfl (by omega) _ k ((l.map (Value.int .i64)).take k) rfl hv6 _ 1 [Value.int IntKind.i64 i] rfl hB rfl (by simp [Value.oneCell']) (by unfold maxLen; omega) (by omega) ?_
          intro v7 w7 hv7 hm7
          obtain ⟨p7, c7, rfl⟩ := hv7.form
          have hM7 : Mod nil wr w7 := hM6.new hm7 (fun j hj => hj)
          replace hv7 := hv7.mono (T := fun j => wr.heap.size ≤ j) (fun j _ hj => by
            rcases hj with hj | hj
            · exact hj
            · exact Nat.le_trans hM6.size hj)
          refine hK.out _ _ (fun _ => HCB.out _ hM7) ?_
          clear hK K
          (try simp only [Act.put, pT])
          refine till_ready (rs := [18]) (by kernel_rfl) (by simp) ?_
          refine till_cons (i := 18) rfl (fun K hK => ?_) till_nil
          (try dsimp (config := { proj := false }) only [g0, g1, g2])
          refine step_append_vec (S := fun j => wr.heap.size ≤ j) rfl _ _ _ rfl 3 i0 (.int .i64 0) 1 8 Tryz.underlying58 hi hz0 hz1 hz2 rfl (by omega) _ (k + 1) ((l.map (Value.int .i64)).take k ++ [Value.int IntKind.i64 i]) rfl hv7 _ (n - k) _ rfl (HD.out.modNil hM7) (by simp [HN.out]) (fun u hu => ints_one l u (List.mem_of_mem_drop hu)) (by unfold maxLen; omega) (by omega) ?_
          intro v8 w8 hv8 hm8
          rw [show k + 1 + (n - k) = n + 1 by omega] at hv8
          obtain ⟨p8, c8, rfl⟩ := hv8.form
          have hM8 : Mod nil wr w8 := hM7.new hm8 (fun j hj => hj)
          replace hv8 := hv8.mono (T := fun j => wr.heap.size ≤ j) (fun j _ hj => by
            rcases hj with hj | hj
            · exact hj
            · exact Nat.le_trans hM7.size hj)
          refine hK.out _ _ (fun _ => HCB.out _ hM8) ?_
          clear hK K
          (try simp only [Act.put, pT])
          refine till_ready (rs := [19]) (by kernel_rfl) (by simp) ?_
          refine till_cons (i := 19) rfl (fun K hK => ?_) till_nil
          (try dsimp (config := { proj := false }) only [g0, g1, g2])
          go_simp
          refine hK.out _ _ (fun _ => HCB.out _ hM8) ?_
          clear hK K
          (try simp only [Act.put, pT])
          refine till_ready (rs := [20]) (by kernel_rfl) (by simp) ?_
          refine till_cons (i := 20) rfl (fun K hK => ?_) till_nil
          (try dsimp (config := { proj := false }) only [g0, g1, g2])
          go_simp
          refine hK.out _ _ (fun _ => HCB.out _ hM8) ?_
          clear hK K
          (try simp only [Act.put, pT])
          have cb8 := HCB.out _ hM8
          have fb8 : w8.frozen? ⟨b, 2, none⟩ = false := free_of (hM8.keep HO.out) 2
          refine till_ready (rs := [21]) (by kernel_rfl) (by simp) ?_
          refine till_cons (i := 21) rfl (fun K hK => ?_) till_nil
          (try dsimp (config := { proj := false }) only [g0, g1, g2])
          go_simp
          refine hK.out _ _ (fun h => (by simp at h)) ?_
          clear hK K
          (try simp only [Act.put, pT])
          refine till_done (by kernel_rfl) ?_ _
          go_wp2_with fail
          go_end0
          exact ⟨rfl, _, heap_setCell_same (hM8.keep HO.out) _, dirty_fin HINS.out (by omega) hv8, hM8.ofNil.setCell _ _ (fun _ => rfl)⟩
      · obtain rfl : k = n := by omega
        obtain ⟨i0, hi, hz0, hz1, hz2⟩ := HI.out
        have HINS := Lib.hid (And.intro (insD_at l i k HS.out (by have := HN.out; omega) HALL.out (fun h => by have := HN.out; omega)) HN.out)
        have HT := Lib.hid (HROW.out.takeCells k c)
        have hlk : ((l.map (Value.int .i64)).take k).length = k := by have := HN.out; simp; omega
        have HLK := Lib.hid hlk
        have hdr : (l.map (Value.int .i64)).drop k = [] := by have := HN.out; simp; omega
        have hkc : k ≤ c := by omega
        clear hlk
        rcases (show c = k ∨ ¬ c = k by omega) with hck | hck
        · have HD : Hid (IsCells P wr (.slice (some ⟨g, 0, none⟩) 0 (c - k)) 0 ((l.map (Value.int .i64)).drop k)) := Lib.hid (by rw [hdr]; exact cells_none _ _ _)
          clear hdr
          subst hck
          replace HD := Lib.hid (show IsCells P wr (.slice (some ⟨g, 0, none⟩) 0 0) 0 ((l.map (Value.int .i64)).drop c) from by have := HD.out; rwa [Nat.sub_self] at this)
          go_wp2_with fail
          refine region_till (fun w' => w'.cell? ⟨b, 2, none⟩ = some (.slice (some ⟨g, 0, none⟩) c c)) 21 (by kernel_rfl) ?_
          refine till_take (i := 0) (v := ?_) rfl (by kernel_rfl) (by kernel_rfl) (by kernel_rfl) (by kernel_rfl) (by kernel_rfl) (by kernel_rfl) (fun _ _ _ h => h) (Or.inl ⟨by rfl, ?_⟩) (c2) ?_
          rotate_left
          · intro w hSw; (try dsimp only at hSw); (first | (go_simp; done) | (go_simp; with_reducible rfl))
          (try simp only [Act.put, pT])
          refine till_take (i := 2) (v := ?_) rfl (by kernel_rfl) (by kernel_rfl) (by kernel_rfl) (by kernel_rfl) (by kernel_rfl) (by kernel_rfl) (fun _ _ _ h => h) (Or.inl ⟨by rfl, ?_⟩) (c2) ?_
          rotate_left
          · intro w hSw; (try dsimp only at hSw); (first | (go_simp; done) | (go_simp; with_reducible rfl))
          (try simp only [Act.put, pT])
          refine till_take (i := 3) (v := ?_) rfl (by kernel_rfl) (by kernel_rfl) (by kernel_rfl) (by kernel_rfl) (by kernel_rfl) (by kernel_rfl) (fun _ _ _ h => h) (Or.inl ⟨by rfl, ?_⟩) (c2) ?_
          rotate_left
          · intro w hSw; (try dsimp only at hSw); (first | (go_simp; done) | (go_simp; with_reducible rfl))
          (try simp only [Act.put, pT])
          refine till_take (i := 4) (v := ?_) rfl (by kernel_rfl) (by kernel_rfl) (by kernel_rfl) (by kernel_rfl) (by kernel_rfl) (by kernel_rfl) (fun _ _ _ h => h) (Or.inl ⟨by rfl, ?_⟩) (c2) ?_
          rotate_left
          · intro w hSw; (try dsimp only at hSw); (first | (go_simp; done) | (go_simp; with_reducible rfl))
          (try simp only [Act.put, pT])
          refine till_take (i := 5) (v := ?_) rfl (by kernel_rfl) (by kernel_rfl) (by kernel_rfl) (by kernel_rfl) (by kernel_rfl) (by kernel_rfl) (fun _ _ _ h => h) (Or.inl ⟨by rfl, ?_⟩) (c2) ?_
          rotate_left
          · intro w hSw; (try dsimp only at hSw); (first | (go_simp; done) | (go_simp; with_reducible rfl))
          (try simp only [Act.put, pT])
          refine till_take (i := 6) (v := ?_) rfl (by kernel_rfl) (by kernel_rfl) (by kernel_rfl) (by kernel_rfl) (by kernel_rfl) (by kernel_rfl) (fun _ _ _ h => h) (Or.inl ⟨by rfl, ?_⟩) (c2) ?_
          rotate_left
          · intro w hSw; (try dsimp only at hSw); (first | (go_simp; done) | (go_simp; with_reducible rfl))
          (try simp only [Act.put, pT])
          refine till_take (i := 7) (v := ?_) rfl (by kernel_rfl) (by kernel_rfl) (by kernel_rfl) (by kernel_rfl) (by kernel_rfl) (by kernel_rfl) (fun _ _ _ h => h) (Or.inl ⟨by rfl, ?_⟩) (c2) ?_
          rotate_left
          · intro w hSw; (try dsimp only at hSw); (first | (go_simp; done) | (go_simp; with_reducible rfl))
          (try simp only [Act.put, pT])
          refine till_take (i := 9) (v := ?_) rfl (by kernel_rfl) (by kernel_rfl) (by kernel_rfl) (by kernel_rfl) (by kernel_rfl) (by kernel_rfl) (fun _ _ _ h => h) (Or.inl ⟨by rfl, ?_⟩) (c2) ?_
          rotate_left
          · intro w hSw; (try dsimp only at hSw); (first | (go_simp; done) | (go_simp; with_reducible rfl))
          (try simp only [Act.put, pT])
          refine till_take (i := 12) (v := ?_) rfl (by kernel_rfl) (by kernel_rfl) (by kernel_rfl) (by kernel_rfl) (by kernel_rfl) (by kernel_rfl) (fun _ _ _ h => h) (Or.inl ⟨by rfl, ?_⟩) (c2) ?_
          rotate_left
          · intro w hSw; (try dsimp only at hSw); (first | (go_simp; done) | (go_simp; with_reducible rfl))
          (try simp only [Act.put, pT])
          refine till_take (i := 13) (v := ?_) rfl (by kernel_rfl) (by kernel_rfl) (by kernel_rfl) (by kernel_rfl) (by kernel_rfl) (by kernel_rfl) (fun _ _ _ h => h) (Or.inl ⟨by rfl, ?_⟩) (c2) ?_
          rotate_left
          · intro w hSw; (try dsimp only at hSw); (first | (go_simp; done) | (go_simp; with_reducible rfl))
          (try simp only [Act.put, pT])
          refine till_take (i := 14) (v := ?_) rfl (by kernel_rfl) (by kernel_rfl) (by kernel_rfl) (by kernel_rfl) (by kernel_rfl) (by kernel_rfl) (fun _ _ _ h => h) (Or.inl ⟨by rfl, ?_⟩) (c2) ?_
          rotate_left
          · intro w hSw; (try dsimp only at hSw); (first | (go_simp; done) | (go_simp; with_reducible rfl))
          (try simp only [Act.put, pT])
          refine till_take (i := 15) (v := ?_) rfl (by kernel_rfl) (by kernel_rfl) (by kernel_rfl) (by kernel_rfl) (by kernel_rfl) (by kernel_rfl) (fun _ _ _ h => h) (Or.inl ⟨by rfl, ?_⟩) (c2) ?_
          rotate_left
          · intro w hSw; (try dsimp only at hSw); (first | (go_simp; done) | (go_simp; with_reducible rfl))
          (try simp only [Act.put, pT])
          refine till_take (i := 16) (v := ?_) rfl (by kernel_rfl) (by kernel_rfl) (by kernel_rfl) (by kernel_rfl) (by kernel_rfl) (by kernel_rfl) (fun _ _ _ h => h) (Or.inl ⟨by rfl, ?_⟩) (c2) ?_
          rotate_left
          · intro w hSw; (try dsimp only at hSw); (first | (go_simp; done) | (go_simp; with_reducible rfl))
          (try simp only [Act.put, pT])
          refine till_take (i := 17) (v := ?_) rfl (by kernel_rfl) (by kernel_rfl) (by kernel_rfl) (by kernel_rfl) (by kernel_rfl) (by kernel_rfl) (fun _ _ _ h => h) (Or.inl ⟨by rfl, ?_⟩) (c2) ?_
          rotate_left
          · intro w hSw; (try dsimp only at hSw); (first | (go_simp; done) | (go_simp; with_reducible rfl))
          (try simp only [Act.put, pT])
          have HCB : Hid (∀ W, Mod nil wr W → W.cell? ⟨b, 2, none⟩ = some (.slice (some ⟨g, 0, none⟩) c c)) := Lib.hid (fun W hW => cell_kept c2 hW hbw (not_nil _))
          refine till_ready (rs := [1, 10]) (by kernel_rfl) (by simp) ?_
          refine till_cons (i := 1) rfl (fun K hK => ?_) ?_
          · (try dsimp (config := { proj := false }) only [g0, g1, g2])
            go_simp
            refine hK.out _ _ (fun _ => HCB.out _ (((Mod.refl nil wr).alloc _).drew)) ?_
            clear hK K
            (try simp only [Act.put, pT])
            have hv := (vec_empty_at wr 3 1 _ rfl).modNil (Mod.refl nil _).drew
            have hM := ((Mod.refl nil wr).alloc (.cells #[] 3)).drew
            have hG : wr.heap.size ≤ wr.heap.size := Nat.le_refl _
            refine till_ready (rs := [8, 10]) (by kernel_rfl) (by simp) ?_
            refine till_cons (i := 8) rfl (fun K hK => ?_) ?_
            · (try dsimp (config := { proj := false }) only [g0, g1, g2])
              refine step_append_vec rfl _ _ _ rfl 3 i0 (.int .i64 0) 1 8 Tryz.underlying58 hi hz0 hz1 hz2 rfl (by omega) _ 0 [] rfl hv _ c _ rfl (HT.out.modNil hM) (by simp [HLK.out]) (fun u hu => ints_one l u (List.mem_of_mem_take hu)) (by unfold maxLen; omega) (by omega) ?_
              intro v6 w6 hv6 hm6
              rw [Nat.zero_add, List.nil_append] at hv6
              obtain ⟨p6, c6, rfl⟩ := hv6.form
              have hM6 : Mod nil wr w6 := hM.new hm6 (fun j hj => by rw [hj]; exact hG)
              replace hv6 := hv6.mono (T := fun j => wr.heap.size ≤ j) (fun j _ hj => by
                rcases hj with hj | hj
                · rw [hj]; exact hG
                · exact Nat.le_trans hM.size hj)
              refine hK.out _ _ (fun _ => HCB.out _ hM6) ?_
              clear hK K
              (try simp only [Act.put, pT])
              refine till_ready (rs := [10]) (by kernel_rfl) (by simp) ?_
              refine till_cons (i := 10) rfl (fun K hK => ?_) till_nil
              (try dsimp (config := { proj := false }) only [g0, g1, g2])
              go_simp
              refine hK.out _ _ (fun _ => HCB.out _ (hM6.alloc _)) ?_
              clear hK K
              (try simp only [Act.put, pT])
              have hB := cells_one_at w6 3 (.int .i64 i) _ rfl
              replace hv6 := hv6.modNil ((Mod.refl nil w6).alloc (.cells #[.int .i64 i] 3))
              replace hM6 := hM6.alloc (.cells #[.int .i64 i] 3)
              refine till_ready (rs := [11]) (by kernel_rfl) (by simp) ?_
              refine till_cons (i := 11) rfl (fun K hK => ?_) till_nil
              (try dsimp (config := { proj := false }) only [g0, g1, g2])
              refine step_append_vec (S := fun j => wr.heap.size ≤ j) rfl _ _ _ rfl 3 i0 (.int .i64 0) 1 8 Tryz.underlying58 hi hz0 hz1 hz2 rfl (by omega) _ c ((l.map (Value.int .i64)).take c) rfl hv6 _ 1 [Value.int IntKind.i64 i] rfl hB rfl (by simp [Value.oneCell']) (by unfold maxLen; omega) (by omega) ?_
              intro v7 w7 hv7 hm7
              obtain ⟨p7, c7, rfl⟩ := hv7.form
              have hM7 : Mod nil wr w7 := hM6.new hm7 (fun j hj => hj)
              replace hv7 := hv7.mono (T := fun j => wr.heap.size ≤ j) (fun j _ hj => by
                rcases hj with hj | hj
                · exact hj
                · exact Nat.le_trans hM6.size hj)
              refine hK.out _ _ (fun _ => HCB.out _ hM7) ?_
              clear hK K
              (try simp only [Act.put, pT])
              refine till_ready (rs := [18]) (by kernel_rfl) (by simp) ?_
              refine till_cons (i := 18) rfl (fun K hK => ?_) till_nil
              (try dsimp (config := { proj := false }) only [g0, g1, g2])
              refine step_append_vec (S := fun j => wr.heap.size ≤ j) rfl _ _ _ rfl 3 i0 (.int .i64 0) 1 8 Tryz.underlying58 hi hz0 hz1 hz2 rfl (by omega) _ (c + 1) ((l.map (Value.int .i64)).take c ++ [Value.int IntKind.i64 i]) rfl hv7 _ (0) _ rfl (HD.out.modNil hM7) (by simp [HN.out]) (fun u hu => ints_one l u (List.mem_of_mem_drop hu)) (by unfold maxLen; omega) (by omega) ?_
              intro v8 w8 hv8 hm8
              rw [show c + 1 + (0) = c + 1 by omega] at hv8
              obtain ⟨p8, c8, rfl⟩ := hv8.form
              have hM8 : Mod nil wr w8 := hM7.new hm8 (fun j hj => hj)
              replace hv8 := hv8.mono (T := fun j => wr.heap.size ≤ j) (fun j _ hj => by
                rcases hj with hj | hj
                · exact hj
                · exact Nat.le_trans hM7.size hj)
              refine hK.out _ _ (fun _ => HCB.out _ hM8) ?_
              clear hK K
              (try simp only [Act.put, pT])
              refine till_ready (rs := [19]) (by kernel_rfl) (by simp) ?_
              refine till_cons (i := 19) rfl (fun K hK => ?_) till_nil
              (try dsimp (config := { proj := false }) only [g0, g1, g2])
              go_simp
              refine hK.out _ _ (fun _ => HCB.out _ hM8) ?_
              clear hK K
              (try simp only [Act.put, pT])
              refine till_ready (rs := [20]) (by kernel_rfl) (by simp) ?_
              refine till_cons (i := 20) rfl (fun K hK => ?_) till_nil
              (try dsimp (config := { proj := false }) only [g0, g1, g2])
              go_simp
              refine hK.out _ _ (fun _ => HCB.out _ hM8) ?_
              clear hK K
              (try simp only [Act.put, pT])
              have cb8 := HCB.out _ hM8
              have fb8 : w8.frozen? ⟨b, 2, none⟩ = false := free_of (hM8.keep HO.out) 2
              refine till_ready (rs := [21]) (by kernel_rfl) (by simp) ?_
              refine till_cons (i := 21) rfl (fun K hK => ?_) till_nil
              (try dsimp (config := { proj := false }) only [g0, g1, g2])
              go_simp
              refine hK.out _ _ (fun h => (by simp at h)) ?_
              clear hK K
              (try simp only [Act.put, pT])
              refine till_done (by kernel_rfl) ?_ _
              go_wp2_with fail
              go_end0
              exact ⟨rfl, _, heap_setCell_same (hM8.keep HO.out) _, dirty_fin HINS.out (by omega) hv8, hM8.ofNil.setCell _ _ (fun _ => rfl)⟩
            refine till_cons (i := 10) rfl (fun K hK => ?_) till_nil
            (try dsimp (config := { proj := false }) only [g0, g1, g2])
            go_simp
            refine hK.out _ _ (fun _ => HCB.out _ ((((Mod.refl nil wr).alloc _).alloc _).drew)) ?_
            clear hK K
            (try simp only [Act.put, pT])
            have hB := (cells_one_at (wr.alloc (.cells #[] 3)) 3 (.int .i64 i) (wr.heap.size + 1) (by simp)).modNil (Mod.refl nil _).drew
            replace hv := ((vec_empty_at wr 3 1 _ rfl).modNil ((Mod.refl nil _).alloc (.cells #[.int .i64 i] 3))).modNil (Mod.refl nil _).drew
            replace hM := (((Mod.refl nil wr).alloc (.cells #[] 3)).alloc (.cells #[.int .i64 i] 3)).drew
            refine till_ready (rs := [8]) (by kernel_rfl) (by simp) ?_
            refine till_cons (i := 8) rfl (fun K hK => ?_) till_nil
            (try dsimp (config := { proj := false }) only [g0, g1, g2])
            refine step_append_vec rfl _ _ _ rfl 3 i0 (.int .i64 0) 1 8 Tryz.underlying58 hi hz0 hz1 hz2 rfl (by omega) _ 0 [] rfl hv _ c _ rfl (HT.out.modNil hM) (by simp [HLK.out]) (fun u hu => ints_one l u (List.mem_of_mem_take hu)) (by unfold maxLen; omega) (by omega) ?_
            intro v6 w6 hv6 hm6
            rw [Nat.zero_add, List.nil_append] at hv6
            obtain ⟨p6, c6, rfl⟩ := hv6.form
            have hM6 : Mod nil wr w6 := hM.new hm6 (fun j hj => by rw [hj]; exact hG)
            replace hv6 := hv6.mono (T := fun j => wr.heap.size ≤ j) (fun j _ hj => by
              rcases hj with hj | hj
              · rw [hj]; exact hG
              · exact Nat.le_trans hM.size hj)
            replace hB := hB.mod hm6 (fun j _ hj e => by omega)
            refine hK.out _ _ (fun _ => HCB.out _ hM6) ?_
            clear hK K
            (try simp only [Act.put, pT])
            refine till_ready (rs := [11]) (by kernel_rfl) (by simp) ?_
            refine till_cons (i := 11) rfl (fun K hK => ?_) till_nil
            (try dsimp (config := { proj := false }) only [g0, g1, g2])
            refine step_append_vec (S := fun j => wr.heap.size ≤ j) rfl _ _ _ rfl 3 i0 (.int .i64 0) 1 8 Tryz.underlying58 hi hz0 hz1 hz2 rfl (by omega) _ c ((l.map (Value.int .i64)).take c) rfl hv6 _ 1 [Value.int IntKind.i64 i] rfl hB rfl (by simp [Value.oneCell']) (by unfold maxLen; omega) (by omega) ?_
            intro v7 w7 hv7 hm7
            obtain ⟨p7, c7, rfl⟩ := hv7.form
            have hM7 : Mod nil wr w7 := hM6.new hm7 (fun j hj => hj)
            replace hv7 := hv7.mono (T := fun j => wr.heap.size ≤ j) (fun j _ hj => by
              rcases hj with hj | hj
              · exact hj
              · exact Nat.le_trans hM6.size hj)
            refine hK.out _ _ (fun _ => HCB.out _ hM7) ?_
            clear hK K
            (try simp only [Act.put, pT])
            refine till_ready (rs := [18]) (by kernel_rfl) (by simp) ?_
            refine till_cons (i := 18) rfl (fun K hK => ?_) till_nil
            (try dsimp (config := { proj := false }) only [g0, g1, g2])
            refine step_append_vec (S := fun j => wr.heap.size ≤ j) rfl _ _ _ rfl 3 i0 (.int .i64 0) 1 8 Tryz.underlying58 hi hz0 hz1 hz2 rfl (by omega) _ (c + 1) ((l.map (Value.int .i64)).take c ++ [Value.int IntKind.i64 i]) rfl hv7 _ (0) _ rfl (HD.out.modNil hM7) (by simp [HN.out]) (fun u hu => ints_one l u (List.mem_of_mem_drop hu)) (by unfold maxLen; omega) (by omega) ?_
            intro v8 w8 hv8 hm8
            rw [show c + 1 + (0) = c + 1 by omega] at hv8
            obtain ⟨p8, c8, rfl⟩ := hv8.form
            have hM8 : Mod nil wr w8 := hM7.new hm8 (fun j hj => hj)
            replace hv8 := hv8.mono (T := fun j => wr.heap.size ≤ j) (fun j _ hj => by
              rcases hj with hj | hj
              · exact hj
              · exact Nat.le_trans hM7.size hj)
            refine hK.out _ _ (fun _ => HCB.out _ hM8) ?_
            clear hK K
            (try simp only [Act.put, pT])
            refine till_ready (rs := [19]) (by kernel_rfl) (by simp) ?_
            refine till_cons (i := 19) rfl (fun K hK => ?_) till_nil
            (try dsimp (config := { proj := false }) only [g0, g1, g2])
            go_simp
            refine hK.out _ _ (fun _ => HCB.out _ hM8) ?_
            clear hK K
            (try simp only [Act.put, pT])
            refine till_ready (rs := [20]) (by kernel_rfl) (by simp) ?_
            refine till_cons (i := 20) rfl (fun K hK => ?_) till_nil
            (try dsimp (config := { proj := false }) only [g0, g1, g2])
            go_simp
            refine hK.out _ _ (fun _ => HCB.out _ hM8) ?_
            clear hK K
            (try simp only [Act.put, pT])
            have cb8 := HCB.out _ hM8
            have fb8 : w8.frozen? ⟨b, 2, none⟩ = false := free_of (hM8.keep HO.out) 2
            refine till_ready (rs := [21]) (by kernel_rfl) (by simp) ?_
            refine till_cons (i := 21) rfl (fun K hK => ?_) till_nil
            (try dsimp (config := { proj := false }) only [g0, g1, g2])
            go_simp
            refine hK.out _ _ (fun h => (by simp at h)) ?_
            clear hK K
            (try simp only [Act.put, pT])
            refine till_done (by kernel_rfl) ?_ _
            go_wp2_with fail
            go_end0
            exact ⟨rfl, _, heap_setCell_same (hM8.keep HO.out) _, dirty_fin HINS.out (by omega) hv8, hM8.ofNil.setCell _ _ (fun _ => rfl)⟩
          refine till_cons (i := 10) rfl (fun K hK => ?_) till_nil
          (try dsimp (config := { proj := false }) only [g0, g1, g2])
          go_simp
          refine hK.out _ _ (fun _ => HCB.out _ (((Mod.refl nil wr).alloc _).drew)) ?_
          clear hK K
          (try simp only [Act.put, pT])
          refine till_ready (rs := [1]) (by kernel_rfl) (by simp) ?_
          refine till_cons (i := 1) rfl (fun K hK => ?_) till_nil
          (try dsimp (config := { proj := false }) only [g0, g1, g2])
          go_simp
          refine hK.out _ _ (fun _ => HCB.out _ ((((Mod.refl nil wr).alloc _).alloc _).drew)) ?_
          clear hK K
          (try simp only [Act.put, pT])
          have hv := (vec_empty_at (wr.alloc (.cells #[.int .i64 i] 3)) 3 1 (wr.heap.size + 1) (by simp)).modNil (Mod.refl nil _).drew
          have hB := ((cells_one_at wr 3 (.int .i64 i) _ rfl).modNil ((Mod.refl nil _).alloc (.cells #[] 3))).modNil (Mod.refl nil _).drew
          have hM := (((Mod.refl nil wr).alloc (.cells #[.int .i64 i] 3)).alloc (.cells #[] 3)).drew
          have hG : wr.heap.size ≤ wr.heap.size + 1 := Nat.le_succ _
          refine till_ready (rs := [8]) (by kernel_rfl) (by simp) ?_
          refine till_cons (i := 8) rfl (fun K hK => ?_) till_nil
          (try dsimp (config := { proj := false }) only [g0, g1, g2])
          refine step_append_vec rfl _ _ _ rfl 3 i0 (.int .i64 0) 1 8 Tryz.underlying58 hi hz0 hz1 hz2 rfl (by omega) _ 0 [] rfl hv _ c _ rfl (HT.out.modNil hM) (by simp [HLK.out]) (fun u hu => ints_one l u (List.mem_of_mem_take hu)) (by unfold maxLen; omega) (by omega) ?_
          intro v6 w6 hv6 hm6
          rw [Nat.zero_add, List.nil_append] at hv6
          obtain ⟨p6, c6, rfl⟩ := hv6.form
          have hM6 : Mod nil wr w6 := hM.new hm6 (fun j hj => by rw [hj]; exact hG)
          replace hv6 := hv6.mono (T := fun j => wr.heap.size ≤ j) (fun j _ hj => by
            rcases hj with hj | hj
            · rw [hj]; exact hG
            · exact Nat.le_trans hM.size hj)
          replace hB := hB.mod hm6 (fun j _ hj e => by omega)
          refine hK.out _ _ (fun _ => HCB.out _ hM6) ?_
          clear hK K
          (try simp only [Act.put, pT])
          refine till_ready (rs := [11]) (by kernel_rfl) (by simp) ?_
          refine till_cons (i := 11) rfl (fun K hK => ?_) till_nil
          (try dsimp (config := { proj := false }) only [g0, g1, g2])
          refine step_append_vec (S := fun j => wr.heap.size ≤ j) rfl _ _ _ rfl 3 i0 (.int .i64 0) 1 8 Tryz.underlying58 hi hz0 hz1 hz2 rfl (by omega) _ c ((l.map (Value.int .i64)).take c) rfl hv6 _ 1 [Value.int IntKind.i64 i] rfl hB rfl (by simp [Value.oneCell']) (by unfold maxLen; omega) (by omega) ?_
          intro v7 w7 hv7 hm7
          obtain ⟨p7, c7, rfl⟩ := hv7.form
          have hM7 : Mod nil wr w7 := hM6.new hm7 (fun j hj => hj)
          replace hv7 := hv7.mono (T := fun j => wr.heap.size ≤ j) (fun j _ hj => by
            rcases hj with hj | hj
            · exact hj
            · exact Nat.le_trans hM6.size hj)
          refine hK.out _ _ (fun _ => HCB.out _ hM7) ?_
          clear hK K
          (try simp only [Act.put, pT])
          refine till_ready (rs := [18]) (by kernel_rfl) (by simp) ?_
          refine till_cons (i := 18) rfl (fun K hK => ?_) till_nil
          (try dsimp (config := { proj := false }) only [g0, g1, g2])
          refine step_append_vec (S := fun j => wr.heap.size ≤ j) rfl _ _ _ rfl 3 i0 (.int .i64 0) 1 8 Tryz.underlying58 hi hz0 hz1 hz2 rfl (by omega) _ (c + 1) ((l.map (Value.int .i64)).take c ++ [Value.int IntKind.i64 i]) rfl hv7 _ (0) _ rfl (HD.out.modNil hM7) (by simp [HN.out]) (fun u hu => ints_one l u (List.mem_of_mem_drop hu)) (by unfold maxLen; omega) (by omega) ?_
          intro v8 w8 hv8 hm8
          rw [show c + 1 + (0) = c + 1 by omega] at hv8
          obtain ⟨p8, c8, rfl⟩ := hv8.form
          have hM8 : Mod nil wr w8 := hM7.new hm8 (fun j hj => hj)
          replace hv8 := hv8.mono (T := fun j => wr.heap.size ≤ j) (fun j _ hj => by
            rcases hj with hj | hj
            · exact hj
            · exact Nat.le_trans hM7.size hj)
          refine hK.out _ _ (fun _ => HCB.out _ hM8) ?_
          clear hK K
          (try simp only [Act.put, pT])
          refine till_ready (rs := [19]) (by kernel_rfl) (by simp) ?_
          refine till_cons (i := 19) rfl (fun K hK => ?_) till_nil
          (try dsimp (config := { proj := false }) only [g0, g1, g2])
          go_simp
          refine hK.out _ _ (fun _ => HCB.out _ hM8) ?_
          clear hK K
          (try simp only [Act.put, pT])
          refine till_ready (rs := [20]) (by kernel_rfl) (by simp) ?_
          refine till_cons (i := 20) rfl (fun K hK => ?_) till_nil
          (try dsimp (config := { proj := false }) only [g0, g1, g2])
          go_simp
          refine hK.out _ _ (fun _ => HCB.out _ hM8) ?_
          clear hK K
          (try simp only [Act.put, pT])
          have cb8 := HCB.out _ hM8
          have fb8 : w8.frozen? ⟨b, 2, none⟩ = false := free_of (hM8.keep HO.out) 2
          refine till_ready (rs := [21]) (by kernel_rfl) (by simp) ?_
          refine till_cons (i := 21) rfl (fun K hK => ?_) till_nil
          (try dsimp (config := { proj := false }) only [g0, g1, g2])
          go_simp
          refine hK.out _ _ (fun h => (by simp at h)) ?_
          clear hK K
          (try simp only [Act.put, pT])
          refine till_done (by kernel_rfl) ?_ _
          go_wp2_with fail
          go_end0
          exact ⟨rfl, _, heap_setCell_same (hM8.keep HO.out) _, dirty_fin HINS.out (by omega) hv8, hM8.ofNil.setCell _ _ (fun _ => rfl)⟩
        · have HD : Hid (IsCells P wr (.slice (some ⟨g, k, none⟩) 0 (c - k)) 0 ((l.map (Value.int .i64)).drop k)) := Lib.hid (by rw [hdr]; exact cells_none _ _ _)
          clear hdr
          go_wp2_with fail
          refine region_till (fun w' => w'.cell? ⟨b, 2, none⟩ = some (.slice (some ⟨g, 0, none⟩) k c)) 21 (by kernel_rfl) ?_
          refine till_take (i := 0) (v := ?_) rfl (by kernel_rfl) (by kernel_rfl) (by kernel_rfl) (by kernel_rfl) (by kernel_rfl) (by kernel_rfl) (fun _ _ _ h => h) (Or.inl ⟨by rfl, ?_⟩) (c2) ?_
          rotate_left
          · intro w hSw; (try dsimp only at hSw); (first | (go_simp; done) | (go_simp; with_reducible rfl))
          (try simp only [Act.put, pT])
          refine till_take (i := 2) (v := ?_) rfl (by kernel_rfl) (by kernel_rfl) (by kernel_rfl) (by kernel_rfl) (by kernel_rfl) (by kernel_rfl) (fun _ _ _ h => h) (Or.inl ⟨by rfl, ?_⟩) (c2) ?_
          rotate_left
          · intro w hSw; (try dsimp only at hSw); (first | (go_simp; done) | (go_simp; with_reducible rfl))
          (try simp only [Act.put, pT])
          refine till_take (i := 3) (v := ?_) rfl (by kernel_rfl) (by kernel_rfl) (by kernel_rfl) (by kernel_rfl) (by kernel_rfl) (by kernel_rfl) (fun _ _ _ h => h) (Or.inl ⟨by rfl, ?_⟩) (c2) ?_
          rotate_left
          · intro w hSw; (try dsimp only at hSw); (first | (go_simp; done) | (go_simp; with_reducible rfl))
          (try simp only [Act.put, pT])
          refine till_take (i := 4) (v := ?_) rfl (by kernel_rfl) (by kernel_rfl) (by kernel_rfl) (by kernel_rfl) (by kernel_rfl) (by kernel_rfl) (fun _ _ _ h => h) (Or.inl ⟨by rfl, ?_⟩) (c2) ?_
          rotate_left
          · intro w hSw; (try dsimp only at hSw); (first | (go_simp; done) | (go_simp; with_reducible rfl))
          (try simp only [Act.put, pT])
          refine till_take (i := 5) (v := ?_) rfl (by kernel_rfl) (by kernel_rfl) (by kernel_rfl) (by kernel_rfl) (by kernel_rfl) (by kernel_rfl) (fun _ _ _ h => h) (Or.inl ⟨by rfl, ?_⟩) (c2) ?_
          rotate_left
          · intro w hSw; (try dsimp only at hSw); (first | (go_simp; done) | (go_simp; with_reducible rfl))
          (try simp only [Act.put, pT])
          refine till_take (i := 6) (v := ?_) rfl (by kernel_rfl) (by kernel_rfl) (by kernel_rfl) (by kernel_rfl) (by kernel_rfl) (by kernel_rfl) (fun _ _ _ h => h) (Or.inl ⟨by rfl, ?_⟩) (c2) ?_
          rotate_left
          · intro w hSw; (try dsimp only at hSw); (first | (go_simp; done) | (go_simp; with_reducible rfl))
          (try simp only [Act.put, pT])
          refine till_take (i := 7) (v := ?_) rfl (by kernel_rfl) (by kernel_rfl) (by kernel_rfl) (by kernel_rfl) (by kernel_rfl) (by kernel_rfl) (fun _ _ _ h => h) (Or.inl ⟨by rfl, ?_⟩) (c2) ?_
          rotate_left
          · intro w hSw; (try dsimp only at hSw); (first | (go_simp; done) | (go_simp; with_reducible rfl))
          (try simp only [Act.put, pT])
          refine till_take (i := 9) (v := ?_) rfl (by kernel_rfl) (by kernel_rfl) (by kernel_rfl) (by kernel_rfl) (by kernel_rfl) (by kernel_rfl) (fun _ _ _ h => h) (Or.inl ⟨by rfl, ?_⟩) (c2) ?_
          rotate_left
          · intro w hSw; (try dsimp only at hSw); (first | (go_simp; done) | (go_simp; with_reducible rfl))
          (try simp only [Act.put, pT])
          refine till_take (i := 12) (v := ?_) rfl (by kernel_rfl) (by kernel_rfl) (by kernel_rfl) (by kernel_rfl) (by kernel_rfl) (by kernel_rfl) (fun _ _ _ h => h) (Or.inl ⟨by rfl, ?_⟩) (c2) ?_
          rotate_left
          · intro w hSw; (try dsimp only at hSw); (first | (go_simp; done) | (go_simp; with_reducible rfl))
          (try simp only [Act.put, pT])
          refine till_take (i := 13) (v := ?_) rfl (by kernel_rfl) (by kernel_rfl) (by kernel_rfl) (by kernel_rfl) (by kernel_rfl) (by kernel_rfl) (fun _ _ _ h => h) (Or.inl ⟨by rfl, ?_⟩) (c2) ?_
          rotate_left
          · intro w hSw; (try dsimp only at hSw); (first | (go_simp; done) | (go_simp; with_reducible rfl))
          (try simp only [Act.put, pT])
          refine till_take (i := 14) (v := ?_) rfl (by kernel_rfl) (by kernel_rfl) (by kernel_rfl) (by kernel_rfl) (by kernel_rfl) (by kernel_rfl) (fun _ _ _ h => h) (Or.inl ⟨by rfl, ?_⟩) (c2) ?_
          rotate_left
          · intro w hSw; (try dsimp only at hSw); (first | (go_simp; done) | (go_simp; with_reducible rfl))
          (try simp only [Act.put, pT])
          refine till_take (i := 15) (v := ?_) rfl (by kernel_rfl) (by kernel_rfl) (by kernel_rfl) (by kernel_rfl) (by kernel_rfl) (by kernel_rfl) (fun _ _ _ h => h) (Or.inl ⟨by rfl, ?_⟩) (c2) ?_
          rotate_left
          · intro w hSw; (try dsimp only at hSw); (first | (go_simp; done) | (go_simp; with_reducible rfl))
          (try simp only [Act.put, pT])
          refine till_take (i := 16) (v := ?_) rfl (by kernel_rfl) (by kernel_rfl) (by kernel_rfl) (by kernel_rfl) (by kernel_rfl) (by kernel_rfl) (fun _ _ _ h => h) (Or.inl ⟨by rfl, ?_⟩) (c2) ?_
          rotate_left
          · intro w hSw; (try dsimp only at hSw); (first | (go_simp; done) | (go_simp; with_reducible rfl))
          (try simp only [Act.put, pT])
          refine till_take (i := 17) (v := ?_) rfl (by kernel_rfl) (by kernel_rfl) (by kernel_rfl) (by kernel_rfl) (by kernel_rfl) (by kernel_rfl) (fun _ _ _ h => h) (Or.inl ⟨by rfl, ?_⟩) (c2) ?_
          rotate_left
          · intro w hSw; (try dsimp only at hSw); (first | (go_simp; done) | (go_simp; with_reducible rfl))
          (try simp only [Act.put, pT])
          have HCB : Hid (∀ W, Mod nil wr W → W.cell? ⟨b, 2, none⟩ = some (.slice (some ⟨g, 0, none⟩) k c)) := Lib.hid (fun W hW => cell_kept c2 hW hbw (not_nil _))
          refine till_ready (rs := [1, 10]) (by kernel_rfl) (by simp) ?_
          refine till_cons (i := 1) rfl (fun K hK => ?_) ?_
          · (try dsimp (config := { proj := false }) only [g0, g1, g2])
            go_simp
            refine hK.out _ _ (fun _ => HCB.out _ (((Mod.refl nil wr).alloc _).drew)) ?_
            clear hK K
            (try simp only [Act.put, pT])
            have hv := (vec_empty_at wr 3 1 _ rfl).modNil (Mod.refl nil _).drew
            have hM := ((Mod.refl nil wr).alloc (.cells #[] 3)).drew
            have hG : wr.heap.size ≤ wr.heap.size := Nat.le_refl _
            refine till_ready (rs := [8, 10]) (by kernel_rfl) (by simp) ?_
            refine till_cons (i := 8) rfl (fun K hK => ?_) ?_
            · (try dsimp (config := { proj := false }) only [g0, g1, g2])
              refine step_append_vec rfl _ _ _ rfl 3 i0 (.int .i64 0) 1 8 Tryz.underlying58 hi hz0 hz1 hz2 rfl (by omega) _ 0 [] rfl hv _ k _ rfl (HT.out.modNil hM) (by simp [HLK.out]) (fun u hu => ints_one l u (List.mem_of_mem_take hu)) (by unfold maxLen; omega) (by omega) ?_
              intro v6 w6 hv6 hm6
              rw [Nat.zero_add, List.nil_append] at hv6
              obtain ⟨p6, c6, rfl⟩ := hv6.form
              have hM6 : Mod nil wr w6 := hM.new hm6 (fun j hj => by rw [hj]; exact hG)
              replace hv6 := hv6.mono (T := fun j => wr.heap.size ≤ j) (fun j _ hj => by
                rcases hj with hj | hj
                · rw [hj]; exact hG
                · exact Nat.le_trans hM.size hj)
              refine hK.out _ _ (fun _ => HCB.out _ hM6) ?_
              clear hK K
              (try simp only [Act.put, pT])
              refine till_ready (rs := [10]) (by kernel_rfl) (by simp) ?_
              refine till_cons (i := 10) rfl (fun K hK => ?_) till_nil
              (try dsimp (config := { proj := false }) only [g0, g1, g2])
              go_simp
              refine hK.out _ _ (fun _ => HCB.out _ (hM6.alloc _)) ?_
              clear hK K
              (try simp only [Act.put, pT])
              have hB := cells_one_at w6 3 (.int .i64 i) _ rfl
              replace hv6 := hv6.modNil ((Mod.refl nil w6).alloc (.cells #[.int .i64 i] 3))
              replace hM6 := hM6.alloc (.cells #[.int .i64 i] 3)
              refine till_ready (rs := [11]) (by kernel_rfl) (by simp) ?_
              refine till_cons (i := 11) rfl (fun K hK => ?_) till_nil
              (try dsimp (config := { proj := false }) only [g0, g1, g2])
              refine step_append_vec (S := fun j => wr.heap.size ≤ j) rfl _ _ _ rfl 3 i0 (.int .i64 0) 1 8 Tryz.underlying58 hi hz0 hz1 hz2 rfl (by omega) _ k ((l.map (Value.int .i64)).take k) rfl hv6 _ 1 [Value.int IntKind.i64 i] rfl hB rfl (by simp [Value.oneCell']) (by unfold maxLen; omega) (by omega) ?_
              intro v7 w7 hv7 hm7
              obtain ⟨p7, c7, rfl⟩ := hv7.form
              have hM7 : Mod nil wr w7 := hM6.new hm7 (fun j hj => hj)
              replace hv7 := hv7.mono (T := fun j => wr.heap.size ≤ j) (fun j _ hj => by
                rcases hj with hj | hj
                · exact hj
                · exact Nat.le_trans hM6.size hj)
              refine hK.out _ _ (fun _ => HCB.out _ hM7) ?_
              clear hK K
              (try simp only [Act.put, pT])
              refine till_ready (rs := [18]) (by kernel_rfl) (by simp) ?_
              refine till_cons (i := 18) rfl (fun K hK => ?_) till_nil
              (try dsimp (config := { proj := false }) only [g0, g1, g2])
              refine step_append_vec (S := fun j => wr.heap.size ≤ j) rfl _ _ _ rfl 3 i0 (.int .i64 0) 1 8 Tryz.underlying58 hi hz0 hz1 hz2 rfl (by omega) _ (k + 1) ((l.map (Value.int .i64)).take k ++ [Value.int IntKind.i64 i]) rfl hv7 _ (0) _ rfl (HD.out.modNil hM7) (by simp [HN.out]) (fun u hu => ints_one l u (List.mem_of_mem_drop hu)) (by unfold maxLen; omega) (by omega) ?_
              intro v8 w8 hv8 hm8
              rw [show k + 1 + (0) = k + 1 by omega] at hv8
              obtain ⟨p8, c8, rfl⟩ := hv8.form
              have hM8 : Mod nil wr w8 := hM7.new hm8 (fun j hj => hj)
              replace hv8 := hv8.mono (T := fun j => wr.heap.size ≤ j) (fun j _ hj => by
                rcases hj with hj | hj
                · exact hj
                · exact Nat.le_trans hM7.size hj)
              refine hK.out _ _ (fun _ => HCB.out _ hM8) ?_
              clear hK K
              (try simp only [Act.put, pT])
              refine till_ready (rs := [19]) (by kernel_rfl) (by simp) ?_
              refine till_cons (i := 19) rfl (fun K hK => ?_) till_nil
              (try dsimp (config := { proj := false }) only [g0, g1, g2])
              go_simp
              refine hK.out _ _ (fun _ => HCB.out _ hM8) ?_
              clear hK K
              (try simp only [Act.put, pT])
              refine till_ready (rs := [20]) (by kernel_rfl) (by simp) ?_
              refine till_cons (i := 20) rfl (fun K hK => ?_) till_nil
              (try dsimp (config := { proj := false }) only [g0, g1, g2])
              go_simp
              refine hK.out _ _ (fun _ => HCB.out _ hM8) ?_
              clear hK K
              (try simp only [Act.put, pT])
              have cb8 := HCB.out _ hM8
              have fb8 : w8.frozen? ⟨b, 2, none⟩ = false := free_of (hM8.keep HO.out) 2
              refine till_ready (rs := [21]) (by kernel_rfl) (by simp) ?_
              refine till_cons (i := 21) rfl (fun K hK => ?_) till_nil
              (try dsimp (config := { proj := false }) only [g0, g1, g2])
              go_simp
              refine hK.out _ _ (fun h => (by simp at h)) ?_
              clear hK K
              (try simp only [Act.put, pT])
              refine till_done (by kernel_rfl) ?_ _
              go_wp2_with fail
              go_end0
              exact ⟨rfl, _, heap_setCell_same (hM8.keep HO.out) _, dirty_fin HINS.out (by omega) hv8, hM8.ofNil.setCell _ _ (fun _ => rfl)⟩
            refine till_cons (i := 10) rfl (fun K hK => ?_) till_nil
            (try dsimp (config := { proj := false }) only [g0, g1, g2])
            go_simp
            refine hK.out _ _ (fun _ => HCB.out _ ((((Mod.refl nil wr).alloc _).alloc _).drew)) ?_
            clear hK K
            (try simp only [Act.put, pT])
            have hB := (cells_one_at (wr.alloc (.cells #[] 3)) 3 (.int .i64 i) (wr.heap.size + 1) (by simp)).modNil (Mod.refl nil _).drew
            replace hv := ((vec_empty_at wr 3 1 _ rfl).modNil ((Mod.refl nil _).alloc (.cells #[.int .i64 i] 3))).modNil (Mod.refl nil _).drew
            replace hM := (((Mod.refl nil wr).alloc (.cells #[] 3)).alloc (.cells #[.int .i64 i] 3)).drew
            refine till_ready (rs := [8]) (by kernel_rfl) (by simp) ?_
            refine till_cons (i := 8) rfl (fun K hK => ?_) till_nil
            (try dsimp (config := { proj := false }) only [g0, g1, g2])
            refine step_append_vec rfl _ _ _ rfl 3 i0 (.int .i64 0) 1 8 Tryz.underlying58 hi hz0 hz1 hz2 rfl (by omega) _ 0 [] rfl hv _ k _ rfl (HT.out.modNil hM) (by simp [HLK.out]) (fun u hu => ints_one l u (List.mem_of_mem_take hu)) (by unfold maxLen; omega) (by omega) ?_
            intro v6 w6 hv6 hm6
            rw [Nat.zero_add, List.nil_append] at hv6
            obtain ⟨p6, c6, rfl⟩ := hv6.form
            have hM6 : Mod nil wr w6 := hM.new hm6 (fun j hj => by rw [hj]; exact hG)
            replace hv6 := hv6.mono (T := fun j => wr.heap.size ≤ j) (fun j _ hj => by
              rcases hj with hj | hj
              · rw [hj]; exact hG
              · exact Nat.le_trans hM.size hj)
            replace hB := hB.mod hm6 (fun j _ hj e => by omega)
            refine hK.out _ _ (fun _ => HCB.out _ hM6) ?_
            clear hK K
            (try simp only [Act.put, pT])
            refine till_ready (rs := [11]) (by kernel_rfl) (by simp) ?_
            refine till_cons (i := 11) rfl (fun K hK => ?_) till_nil
            (try dsimp (config := { proj := false }) only [g0, g1, g2])
            refine step_append_vec (S := fun j => wr.heap.size ≤ j) rfl _ _ _ rfl 3 i0 (.int .i64 0) 1 8 Tryz.underlying58 hi hz0 hz1 hz2 rfl (by omega) _ k ((l.map (Value.int .i64)).take k) rfl hv6 _ 1 [Value.int IntKind.i64 i] rfl hB rfl (by simp [Value.oneCell']) (by unfold maxLen; omega) (by omega) ?_
            intro v7 w7 hv7 hm7
            obtain ⟨p7, c7, rfl⟩ := hv7.form
            have hM7 : Mod nil wr w7 := hM6.new hm7 (fun j hj => hj)
            replace hv7 := hv7.mono (T := fun j => wr.heap.size ≤ j) (fun j _ hj => by
              rcases hj with hj | hj
              · exact hj
              · exact Nat.le_trans hM6.size hj)
            refine hK.out _ _ (fun _ => HCB.out _ hM7) ?_
            clear hK K
            (try simp only [Act.put, pT])
            refine till_ready (rs := [18]) (by kernel_rfl) (by simp) ?_
            refine till_cons (i := 18) rfl (fun K hK => ?_) till_nil
            (try dsimp (config := { proj := false }) only [g0, g1, g2])
            refine step_append_vec (S := fun j => wr.heap.size ≤ j) rfl _ _ _ rfl 3 i0 (.int .i64 0) 1 8 Tryz.underlying58 hi hz0 hz1 hz2 rfl (by omega) _ (k + 1) ((l.map (Value.int .i64)).take k ++ [Value.int IntKind.i64 i]) rfl hv7 _ (0) _ rfl (HD.out.modNil hM7) (by simp [HN.out]) (fun u hu => ints_one l u (List.mem_of_mem_drop hu)) (by unfold maxLen; omega) (by omega) ?_
            intro v8 w8 hv8 hm8
            rw [show k + 1 + (0) = k + 1 by omega] at hv8
            obtain ⟨p8, c8, rfl⟩ := hv8.form
            have hM8 : Mod nil wr w8 := hM7.new hm8 (fun j hj => hj)
            replace hv8 := hv8.mono (T := fun j => wr.heap.size ≤ j) (fun j _ hj => by
              rcases hj with hj | hj
              · exact hj
              · exact Nat.le_trans hM7.size hj)
            refine hK.out _ _ (fun _ => HCB.out _ hM8) ?_
            clear hK K
            (try simp only [Act.put, pT])
            refine till_ready (rs := [19]) (by kernel_rfl) (by simp) ?_
            refine till_cons (i := 19) rfl (fun K hK => ?_) till_nil
            (try dsimp (config := { proj := false }) only [g0, g1, g2])
            go_simp
            refine hK.out _ _ (fun _ => HCB.out _ hM8) ?_
            clear hK K
            (try simp only [Act.put, pT])
            refine till_ready (rs := [20]) (by kernel_rfl) (by simp) ?_
            refine till_cons (i := 20) rfl (fun K hK => ?_) till_nil
            (try dsimp (config := { proj := false }) only [g0, g1, g2])
            go_simp
            refine hK.out _ _ (fun _ => HCB.out _ hM8) ?_
            clear hK K
            (try simp only [Act.put, pT])
            have cb8 := HCB.out _ hM8
            have fb8 : w8.frozen? ⟨b, 2, none⟩ = false := free_of (hM8.keep HO.out) 2
            refine till_ready (rs := [21]) (by kernel_rfl) (by simp) ?_
            refine till_cons (i := 21) rfl (fun K hK => ?_) till_nil
            (try dsimp (config := { proj := false }) only [g0, g1, g2])
            go_simp
            refine hK.out _ _ (fun h => (by simp at h)) ?_
            clear hK K
            (try simp only [Act.put, pT])
            refine till_done (by kernel_rfl) ?_ _
            go_wp2_with fail
            go_end0
            exact ⟨rfl, _, heap_setCell_same (hM8.keep HO.out) _, dirty_fin HINS.out (by omega) hv8, hM8.ofNil.setCell _ _ (fun _ => rfl)⟩
          refine till_cons (i := 10) rfl (fun K hK => ?_) till_nil
          (try dsimp (config := { proj := false }) only [g0, g1, g2])
          go_simp
          refine hK.out _ _ (fun _ => HCB.out _ (((Mod.refl nil wr).alloc _).drew)) ?_
          clear hK K
          (try simp only [Act.put, pT])
          refine till_ready (rs := [1]) (by kernel_rfl) (by simp) ?_
          refine till_cons (i := 1) rfl (fun K hK => ?_) till_nil
          (try dsimp (config := { proj := false }) only [g0, g1, g2])
          go_simp
          refine hK.out _ _ (fun _ => HCB.out _ ((((Mod.refl nil wr).alloc _).alloc _).drew)) ?_
          clear hK K
          (try simp only [Act.put, pT])
          have hv := (vec_empty_at (wr.alloc (.cells #[.int .i64 i] 3)) 3 1 (wr.heap.size + 1) (by simp)).modNil (Mod.refl nil _).drew
          have hB := ((cells_one_at wr 3 (.int .i64 i) _ rfl).modNil ((Mod.refl nil _).alloc (.cells #[] 3))).modNil (Mod.refl nil _).drew
          have hM := (((Mod.refl nil wr).alloc (.cells #[.int .i64 i] 3)).alloc (.cells #[] 3)).drew
          have hG : wr.heap.size ≤ wr.heap.size + 1 := Nat.le_succ _
          refine till_ready (rs := [8]) (by kernel_rfl) (by simp) ?_
          refine till_cons (i := 8) rfl (fun K hK => ?_) till_nil
          (try dsimp (config := { proj := false }) only [g0, g1, g2])
          refine step_append_vec rfl _ _ _ rfl 3 i0 (.int .i64 0) 1 8 Tryz.underlying58 hi hz0 hz1 hz2 rfl (by omega) _ 0 [] rfl hv _ k _ rfl (HT.out.modNil hM) (by simp [HLK.out]) (fun u hu => ints_one l u (List.mem_of_mem_take hu)) (by unfold maxLen; omega) (by omega) ?_
          intro v6 w6 hv6 hm6
          rw [Nat.zero_add, List.nil_append] at hv6
          obtain ⟨p6, c6, rfl⟩ := hv6.form
          have hM6 : Mod nil wr w6 := hM.new hm6 (fun j hj => by rw [hj]; exact hG)
          replace hv6 := hv6.mono (T := fun j => wr.heap.size ≤ j) (fun j _ hj => by
            rcases hj with hj | hj
            · rw [hj]; exact hG
            · exact Nat.le_trans hM.size hj)
          replace hB := hB.mod hm6 (fun j _ hj e => by omega)
          refine hK.out _ _ (fun _ => HCB.out _ hM6) ?_
          clear hK K
          (try simp only [Act.put, pT])
          refine till_ready (rs := [11]) (by kernel_rfl) (by simp) ?_
          refine till_cons (i := 11) rfl (fun K hK => ?_) till_nil
          (try dsimp (config := { proj := false }) only [g0, g1, g2])
          refine step_append_vec (S := fun j => wr.heap.size ≤ j) rfl _ _ _ rfl 3 i0 (.int .i64 0) 1 8 Tryz.underlying58 hi hz0 hz1 hz2 rfl (by omega) _ k ((l.map (Value.int .i64)).take k) rfl hv6 _ 1 [Value.int IntKind.i64 i] rfl hB rfl (by simp [Value.oneCell']) (by unfold maxLen; omega) (by omega) ?_
          intro v7 w7 hv7 hm7
          obtain ⟨p7, c7, rfl⟩ := hv7.form
          have hM7 : Mod nil wr w7 := hM6.new hm7 (fun j hj => hj)
          replace hv7 := hv7.mono (T := fun j => wr.heap.size ≤ j) (fun j _ hj => by
            rcases hj with hj | hj
            · exact hj
            · exact Nat.le_trans hM6.size hj)
          refine hK.out _ _ (fun _ => HCB.out _ hM7) ?_
          clear hK K
          (try simp only [Act.put, pT])
          refine till_ready (rs := [18]) (by kernel_rfl) (by simp) ?_
          refine till_cons (i := 18) rfl (fun K hK => ?_) till_nil
          (try dsimp (config := { proj := false }) only [g0, g1, g2])
          refine step_append_vec (S := fun j => wr.heap.size ≤ j) rfl _ _ _ rfl 3 i0 (.int .i64 0) 1 8 Tryz.underlying58 hi hz0 hz1 hz2 rfl (by omega) _ (k + 1) ((l.map (Value.int .i64)).take k ++ [Value.int IntKind.i64 i]) rfl hv7 _ (0) _ rfl (HD.out.modNil hM7) (by simp [HN.out]) (fun u hu => ints_one l u (List.mem_of_mem_drop hu)) (by unfold maxLen; omega) (by omega) ?_
          intro v8 w8 hv8 hm8
          rw [show k + 1 + (0) = k + 1 by omega] at hv8
          obtain ⟨p8, c8, rfl⟩ := hv8.form
          have hM8 : Mod nil wr w8 := hM7.new hm8 (fun j hj => hj)
          replace hv8 := hv8.mono (T := fun j => wr.heap.size ≤ j) (fun j _ hj => by
            rcases hj with hj | hj
            · exact hj
            · exact Nat.le_trans hM7.size hj)
          refine hK.out _ _ (fun _ => HCB.out _ hM8) ?_
          clear hK K
          (try simp only [Act.put, pT])
          refine till_ready (rs := [19]) (by kernel_rfl) (by simp) ?_
          refine till_cons (i := 19) rfl (fun K hK => ?_) till_nil
          (try dsimp (config := { proj := false }) only [g0, g1, g2])
          go_simp
          refine hK.out _ _ (fun _ => HCB.out _ hM8) ?_
          clear hK K
          (try simp only [Act.put, pT])
          refine till_ready (rs := [20]) (by kernel_rfl) (by simp) ?_
          refine till_cons (i := 20) rfl (fun K hK => ?_) till_nil
          (try dsimp (config := { proj := false }) only [g0, g1, g2])
          go_simp
          refine hK.out _ _ (fun _ => HCB.out _ hM8) ?_
          clear hK K
          (try simp only [Act.put, pT])
          have cb8 := HCB.out _ hM8
          have fb8 : w8.frozen? ⟨b, 2, none⟩ = false := free_of (hM8.keep HO.out) 2
          refine till_ready (rs := [21]) (by kernel_rfl) (by simp) ?_
          refine till_cons (i := 21) rfl (fun K hK => ?_) till_nil
          (try dsimp (config := { proj := false }) only [g0, g1, g2])
          go_simp
          refine hK.out _ _ (fun h => (by simp at h)) ?_
          clear hK K
          (try simp only [Act.put, pT])
          refine till_done (by kernel_rfl) ?_ _
          go_wp2_with fail
          go_end0
          exact ⟨rfl, _, heap_setCell_same (hM8.keep HO.out) _, dirty_fin HINS.out (by omega) hv8, hM8.ofNil.setCell _ _ (fun _ => rfl)⟩
end Go.Proofs.YtjilbnpehgigjaaGreat
